/- Texts joined: VyC9 VyC10 VyD1 VyD2 VyE1 VyF1 VyF2 VyE2 VyE3 VyE4 VyE5 VyF3 VyG1. -/
import Derived.Test.YtbndpenalacjaaaVm34
import Derived.Test.YtbndpenalacjaaaVyOwn
import Derived.Test.YtbndpenalacjaaaVyGive
/- The program's node. -/
section
open Go Go.Vx Go.Proofs
set_option linter.unusedSimpArgs false
set_option linter.unusedVariables false
set_option maxRecDepth 10000
set_option maxHeartbeats 8000000
namespace Go.Vx.Seat
attribute [local congr] Rg_at Rt_at Ro_at Ri_at Rc_at Rto_at Rtk_at Rtf_at Rti_at
/-- The colons are a rising list of places. -/
structure ColsOk (ts : List Tok) (cols : List Int) : Prop where
  rise : Rising cols
  len : cols.length ≤ 1000000
  place : ∀ c, c ∈ cols → ∃ k : Nat, c = (k : Int) ∧ k < ts.length
theorem find_stands {l : List Int} {n : Int} : ∀ {k : Nat}, Stands l n k → l.find? (fun c => decide (n ≤ c)) = l[k]? := by
  induction l with
  | nil => intro k _; rfl
  | cons a l ih =>
    intro k ⟨h1, h2, h3⟩
    cases k with
    | zero =>
      have := h3 0 a (Nat.le_refl _) rfl
      simp [this]
    | succ k =>
      have h4 := h2 0 a (by omega) rfl
      rw [List.find?_cons_of_neg (by simp; omega), List.getElem?_cons_succ]
      refine ih ⟨by simpa using h1, fun j b hj hb => h2 (j + 1) b (by omega) (by simpa using hb), fun j b hj hb => h3 (j + 1) b (by omega) (by simpa using hb)⟩

theorem node_spec (ts : List Tok) (cols : List Int) (n : Nat) (hl : ts.length ≤ 1000000) (hc : ColsOk ts cols) (hn : NodesSpec ts cols n) (hin : In ts (nodesP ts cols n)) (i depth : Nat) (hi : i < ts.length) (hdi : depth ≤ i) (hf : ts.length - (i + 1) ≤ n) :
    YC C1 false 44 [.c (.ptr 0 0 0 0), yd (.int .i64 depth)] [.box (pbC ts cols i)] fun y s => y = .agg (nodeP ts cols (nodesP ts cols n) i depth).1.cs ∧ s = [.box (pbC ts cols (nodeP ts cols (nodesP ts cols n) i depth).2)] := by
  refine Yf0 [0, 13, 13, 9, 0, 0, 0, 0, 0] (by rfl) (by rfl) fn44 (by rfl) ?_
  simp only [Try.f44, List.length_cons, List.length_nil, List.replicate, List.cons_append, List.nil_append, pbC]
  simp -implicitDefEqProofs only [↓yRp, yRt, Nat.reduceAdd, Nat.reduceMul, Nat.reduceSub, Nat.reduceLeDiff, Nat.reduceEqDiff, if_true, if_false, reduceCtorEq, exists_eq_left', ne_eq, implies_true, Nat.reduceBEq]
  refine Rl_inv (fun d e s => ∃ k : Nat, e = [.c (.ptr 0 0 0 0), yd (.int .i64 depth), .c .top, .c .top, .c (.ptr 1 0 0 0), yd (.int .i64 i), .c .top, .c .top, .c .top, .c .top, .c .top, .c .top, .c .top, .c .top, .c .top, .c .top, .c .top, .c .top, .c .top, .c .top, .c .top, .c .top, .c .top, .c .top, .c .top, .c .top, .c .top, .c .top, .c .top, .c .top, .c .top, .c .top, .c .top, .c .top, .c .top, .c .top, .c .top, .c .top, .c .top, .c .top, .c .top, .c .top, .c .top, .c .top, .c .top, .c .top, .c .top, .c .top, .c .top, .c .top, .c .top, .c .top, .c .top, .c .top, .c .top, .c .top, .c .top, .c .top, .c .top, .c .top, .c .top, .c .top, .c .top, .c .top, .c .top, .c .top, .c .top, .c .top, .c .top, .c .top, .c .top, .c .top, .c .top, .c .top, .c .top, .c .top, .c .top, .c .top, .c .top, .c .top, .c .top, .c .top, .c .top, .c .top, .c .top, .c .top, .c .top, .c .top, .c .top, .c .top, .c .top, .c .top, .c .top, .c .top, .c .top, .c .top, .c .top, .c .top, .c .top, .c .top, .c .top, .c .top, .c .top, .c .top, .c .top, .c .top, .c .top, .c .top, .c .top, .c .top, .c .top, .c .top, .c .top, .c .top, .c .top, .c .top, .c .top, .c .top, .c .top, .c .top, .c .top, .c .top, .c .top, .c .top, .c .top, .c .top, .c .top, .c .top, .c .top, .c .top, .c .top, .c .top, .c .top, .c .top, .c .top, .c .top, .c .top, .c .top, .c .top, .c .top, .c .top, .c .top, .c .top, .c .top, .c .top, .c .top, .c .top, .c .top] ∧ s = [.box (pbC ts cols k), .box (pds [.int .i64 0, .slice none 0 0, .slice none 0 0, .slice none 0 0, .bool false, .bool false, .bool false, .int .i64 0, .int .i64 0])] ∧ k + d = ts.length ∧ i ≤ k ∧ scanP ts depth d k = scanP ts depth (ts.length - i) i)
    [true, true, false, false, true, true] (ts.length - i) [0, 1] (by decide) (pinned_one _) ⟨i, by simp only [yren.eq_1, yren.eq_2, yren.eq_3, yren.eq_4, renV.eq_1, renV.eq_2, renV.eq_3, renC.eq_1, renC.eq_2, renC.eq_3, renC.eq_4, renC.eq_5, renE.eq_1, renE.eq_2, renE.eq_3, renS.eq_1, renB.eq_1, renB.eq_2, renB.eq_3, slotIx_nil, slotIx_cons, nth_zero, nth_succ, yrow.eq_1, yrow.eq_2, Nat.reduceEqDiff, if_true, if_false, List.map_cons, List.map_nil, Nat.zero_add, Nat.add_zero, Nat.le_refl, and_self, and_true, true_and, List.drop_zero, take_map_len, take_map_snoc, snoc_len, List.length_map, List.length_append, List.length_cons, List.length_nil, Nat.reduceAdd, reduceCtorEq, Nat.one_ne_zero, List.set_set], by simp only [yren.eq_1, yren.eq_2, yren.eq_3, yren.eq_4, renV.eq_1, renV.eq_2, renV.eq_3, renC.eq_1, renC.eq_2, renC.eq_3, renC.eq_4, renC.eq_5, renE.eq_1, renE.eq_2, renE.eq_3, renS.eq_1, renB.eq_1, renB.eq_2, renB.eq_3, slotIx_nil, slotIx_cons, nth_zero, nth_succ, yrow.eq_1, yrow.eq_2, Nat.reduceEqDiff, if_true, if_false, List.map_cons, List.map_nil, Nat.zero_add, Nat.add_zero, Nat.le_refl, and_self, and_true, true_and, List.drop_zero, take_map_len, take_map_snoc, snoc_len, List.length_map, List.length_append, List.length_cons, List.length_nil, Nat.reduceAdd, reduceCtorEq, Nat.one_ne_zero, List.set_set]; rfl, by omega, by omega, rfl⟩ ?_
  rintro d e s ⟨k, rfl, rfl, hd, hik, hscan⟩
  simp only [pbC, pds, List.map_cons, List.map_nil]
  by_cases hk : k < ts.length
  · obtain ⟨t, ht⟩ := get_lt hk
    have hkk := kindAt_some ht
    have t1 : leI (ts.length : Nat) (k : Nat) = false := leI_false (by omega)
    have w1 : wrapK .i64 ((k : Int) + 1) = ((k + 1 : Nat) : Int) := wrap_succ (by omega)
    have hd1 : d = (d - 1) + 1 := by omega
    simp -implicitDefEqProofs only [↓yRp, yRt, Nat.reduceAdd, Nat.reduceMul, Nat.reduceSub, Nat.reduceLeDiff, Nat.reduceEqDiff, if_true, if_false, reduceCtorEq, exists_eq_left', ne_eq, implies_true, Nat.reduceBEq]
    refine Rd_calm (by rw [C1_P]; kernel_rfl) ?_
    simp -implicitDefEqProofs only [↓yRp, yRt, Nat.reduceAdd, Nat.reduceMul, Nat.reduceSub, Nat.reduceLeDiff, Nat.reduceEqDiff, if_true, if_false, reduceCtorEq, exists_eq_left', ne_eq, implies_true, Nat.reduceBEq, t1]
    refine Rcall_lend rfl (shut_spec ts cols k depth hk) (by rfl) fun y hy => ⟨by rw [hy]; rfl, ?_⟩
    subst hy
    by_cases hsh : (pl ts k).1 < depth
    · have hop : open_ ts depth k = false := by simp [open_, hsh]
      have hsc : scanP ts depth (ts.length - i) i = k := by rw [← hscan, hd1, scanP, if_pos hsh]
      have hnode : nodeP ts cols (nodesP ts cols n) i depth = leafP ts cols depth i k := by
        simp only [nodeP, hsc, hop]; rw [if_neg (by simp)]
      simp -implicitDefEqProofs only [↓yRp, yRt, Nat.reduceAdd, Nat.reduceMul, Nat.reduceSub, Nat.reduceLeDiff, Nat.reduceEqDiff, if_true, if_false, reduceCtorEq, exists_eq_left', ne_eq, implies_true, Nat.reduceBEq, decide_eq_true hsh]
      refine Rcall_lendF rfl (clone_spec ts cols k i k hik (by omega) hl) (by rfl) fun y hy => ?_
      subst hy
      simp -implicitDefEqProofs only [↓yRp, yRt, Nat.reduceAdd, Nat.reduceMul, Nat.reduceSub, Nat.reduceLeDiff, Nat.reduceEqDiff, if_true, if_false, reduceCtorEq, exists_eq_left', ne_eq, implies_true, Nat.reduceBEq]
      refine Rcall_lend rfl (colon_spec ts cols k i hc.rise hc.len) (by rfl) fun y hy => ⟨by obtain ⟨_, _, _, rfl, _⟩ := hy; rfl, ?_⟩
      obtain ⟨p, c, b, rfl, hstd, hb, hbc⟩ := hy
      have hfind := find_stands hstd
      cases b with
      | true =>
        obtain ⟨a, ha, hak⟩ := hb.mp rfl
        have hca := hbc rfl
        rw [ha] at hca
        have hac : a = c := Option.some.inj hca
        subst hac
        have hia := hstd.2.2 p a (Nat.le_refl _) ha
        obtain ⟨cc, rfl, hcc⟩ := hc.place a (List.mem_of_getElem? ha)
        have hcol : colonAt cols i k = some cc := by rw [colonAt, hfind, ha]; simp only; rw [if_pos hak]; rfl
        obtain ⟨u, hu⟩ := get_lt hcc
        have hsu := startAt_some hu
        have w4 : wrapK .i64 ((cc : Int) + 1) = ((cc + 1 : Nat) : Int) := wrap_succ (by omega)
        simp -implicitDefEqProofs only [↓yRp, yRt, Nat.reduceAdd, Nat.reduceMul, Nat.reduceSub, Nat.reduceLeDiff, Nat.reduceEqDiff, if_true, if_false, reduceCtorEq, exists_eq_left', ne_eq, implies_true, Nat.reduceBEq]
        refine Rd_calm (by rw [C1_P]; kernel_rfl) ?_
        simp -implicitDefEqProofs only [↓yRp, yRt, Nat.reduceAdd, Nat.reduceMul, Nat.reduceSub, Nat.reduceLeDiff, Nat.reduceEqDiff, if_true, if_false, reduceCtorEq, exists_eq_left', ne_eq, implies_true, Nat.reduceBEq]
        refine Rcall_lendF rfl (clone_spec ts cols k i cc (by omega) (by omega) hl) (by rfl) fun y hy => ?_
        subst hy
        simp -implicitDefEqProofs only [↓yRp, yRt, Nat.reduceAdd, Nat.reduceMul, Nat.reduceSub, Nat.reduceLeDiff, Nat.reduceEqDiff, if_true, if_false, reduceCtorEq, exists_eq_left', ne_eq, implies_true, Nat.reduceBEq, w4]
        refine Rcall_lendF rfl (clone_spec ts cols k (cc + 1) k (by omega) (by omega) hl) (by rfl) fun y hy => ?_
        subst hy
        simp -implicitDefEqProofs only [↓yRp, yRt, Nat.reduceAdd, Nat.reduceMul, Nat.reduceSub, Nat.reduceLeDiff, Nat.reduceEqDiff, if_true, if_false, reduceCtorEq, exists_eq_left', ne_eq, implies_true, Nat.reduceBEq, get_map hu, Tok.pc]
        refine Rd_calm (by rw [C1_P]; kernel_rfl) ?_
        simp -implicitDefEqProofs only [↓yRp, yRt, Nat.reduceAdd, Nat.reduceMul, Nat.reduceSub, Nat.reduceLeDiff, Nat.reduceEqDiff, if_true, if_false, reduceCtorEq, exists_eq_left', ne_eq, implies_true, Nat.reduceBEq, t1]
        refine Rcall_lend rfl (shut_spec ts cols k depth hk) (by rfl) fun y hy => ⟨by rw [hy]; rfl, ?_⟩
        subst hy
        simp -implicitDefEqProofs only [↓yRp, yRt, Nat.reduceAdd, Nat.reduceMul, Nat.reduceSub, Nat.reduceLeDiff, Nat.reduceEqDiff, if_true, if_false, reduceCtorEq, exists_eq_left', ne_eq, implies_true, Nat.reduceBEq, decide_eq_true hsh]
        refine ⟨[0], by decide, pinned_one _, ?_, ?_⟩
        · simp only [hnode, leafP, hop, hcol, hsu, Bool.false_eq_true, if_false, Nd.cs, pc_mk, List.map_cons, List.map_nil]
          rfl
        · simp only [hnode, leafP, hop, hcol, Bool.false_eq_true, if_false]
          rfl
      | false =>
        have hcol : colonAt cols i k = none := by
          rw [colonAt, hfind]
          cases hq : cols[p]? with
          | none => rfl
          | some a =>
            simp only
            rw [if_neg fun ha => by have := hb.mpr ⟨a, hq, ha⟩; cases this]
        simp -implicitDefEqProofs only [↓yRp, yRt, Nat.reduceAdd, Nat.reduceMul, Nat.reduceSub, Nat.reduceLeDiff, Nat.reduceEqDiff, if_true, if_false, reduceCtorEq, exists_eq_left', ne_eq, implies_true, Nat.reduceBEq]
        refine Rd_calm (by rw [C1_P]; kernel_rfl) ?_
        simp -implicitDefEqProofs only [↓yRp, yRt, Nat.reduceAdd, Nat.reduceMul, Nat.reduceSub, Nat.reduceLeDiff, Nat.reduceEqDiff, if_true, if_false, reduceCtorEq, exists_eq_left', ne_eq, implies_true, Nat.reduceBEq, t1]
        refine Rcall_lend rfl (shut_spec ts cols k depth hk) (by rfl) fun y hy => ⟨by rw [hy]; rfl, ?_⟩
        subst hy
        simp -implicitDefEqProofs only [↓yRp, yRt, Nat.reduceAdd, Nat.reduceMul, Nat.reduceSub, Nat.reduceLeDiff, Nat.reduceEqDiff, if_true, if_false, reduceCtorEq, exists_eq_left', ne_eq, implies_true, Nat.reduceBEq, decide_eq_true hsh]
        refine ⟨[0], by decide, pinned_one _, ?_, ?_⟩
        · simp only [hnode, leafP, hop, hcol, Bool.false_eq_true, if_false, Nd.cs, pc_mk, List.map_cons, List.map_nil]
          rfl
        · simp only [hnode, leafP, hop, hcol, Bool.false_eq_true, if_false]
          rfl
    · have hop : open_ ts depth k = true := by simp [open_, hsh, hk]
      have hst := startAt_some ht
      simp -implicitDefEqProofs only [↓yRp, yRt, Nat.reduceAdd, Nat.reduceMul, Nat.reduceSub, Nat.reduceLeDiff, Nat.reduceEqDiff, if_true, if_false, reduceCtorEq, exists_eq_left', ne_eq, implies_true, Nat.reduceBEq, decide_eq_false hsh]
      refine Rd_calm (by rw [C1_P]; kernel_rfl) ?_
      simp -implicitDefEqProofs only [↓yRp, yRt, Nat.reduceAdd, Nat.reduceMul, Nat.reduceSub, Nat.reduceLeDiff, Nat.reduceEqDiff, if_true, if_false, reduceCtorEq, exists_eq_left', ne_eq, implies_true, Nat.reduceBEq, get_map ht, Tok.pc]
      refine Rd_calm (by rw [C1_P]; kernel_rfl) ?_
      by_cases hdp : depth < (pl ts k).1
      · have t2 : leI ((pl ts k).1 : Nat) (depth : Nat) = false := leI_false (by omega)
        simp -implicitDefEqProofs only [↓yRp, yRt, Nat.reduceAdd, Nat.reduceMul, Nat.reduceSub, Nat.reduceLeDiff, Nat.reduceEqDiff, if_true, if_false, reduceCtorEq, exists_eq_left', ne_eq, implies_true, Nat.reduceBEq, plGet hk, t2, w1]
        refine ⟨d - 1, [0, 1], by omega, by decide, pinned_one _, k + 1, ?_, ?_, by omega, by omega, ?_⟩
        · simp only [yren.eq_1, yren.eq_2, yren.eq_3, yren.eq_4, renV.eq_1, renV.eq_2, renV.eq_3, renC.eq_1, renC.eq_2, renC.eq_3, renC.eq_4, renC.eq_5, renE.eq_1, renE.eq_2, renE.eq_3, renS.eq_1, renB.eq_1, renB.eq_2, renB.eq_3, slotIx_nil, slotIx_cons, nth_zero, nth_succ, yrow.eq_1, yrow.eq_2, Nat.reduceEqDiff, if_true, if_false, List.map_cons, List.map_nil, Nat.zero_add, Nat.add_zero, Nat.le_refl, and_self, and_true, true_and, List.drop_zero, take_map_len, take_map_snoc, snoc_len, List.length_map, List.length_append, List.length_cons, List.length_nil, Nat.reduceAdd, reduceCtorEq, Nat.one_ne_zero, List.set_set]
        · simp only [yren.eq_1, yren.eq_2, yren.eq_3, yren.eq_4, renV.eq_1, renV.eq_2, renV.eq_3, renC.eq_1, renC.eq_2, renC.eq_3, renC.eq_4, renC.eq_5, renE.eq_1, renE.eq_2, renE.eq_3, renS.eq_1, renB.eq_1, renB.eq_2, renB.eq_3, slotIx_nil, slotIx_cons, nth_zero, nth_succ, yrow.eq_1, yrow.eq_2, Nat.reduceEqDiff, if_true, if_false, List.map_cons, List.map_nil, Nat.zero_add, Nat.add_zero, Nat.le_refl, and_self, and_true, true_and, List.drop_zero, take_map_len, take_map_snoc, snoc_len, List.length_map, List.length_append, List.length_cons, List.length_nil, Nat.reduceAdd, reduceCtorEq, Nat.one_ne_zero, List.set_set, pbC, pds]
        · rw [← hscan, hd1, scanP, if_neg hsh, if_neg (by omega)]; rfl
      have t2 : leI ((pl ts k).1 : Nat) (depth : Nat) = true := leI_true (by omega)
      by_cases q1 : t.kind = 19
      · have f1 : eqI t.kind 19 = true := by rw [q1]; rfl
        have hsc : scanP ts depth (ts.length - i) i = k := by rw [← hscan, hd1, scanP, if_neg hsh, if_pos ⟨by omega, .inl (by rw [hkk]; exact q1)⟩]
        have hnode : nodeP ts cols (nodesP ts cols n) i depth = ruleP ts (nodesP ts cols n) i k depth := by
          simp only [nodeP, hsc, hop]; rw [if_pos (by simp [hkk, q1])]
        have hrule := rule_spec ts cols n hl hn hin i k depth hik hk (by omega) (by omega)
        rw [← hnode] at hrule
        simp -implicitDefEqProofs only [↓yRp, yRt, Nat.reduceAdd, Nat.reduceMul, Nat.reduceSub, Nat.reduceLeDiff, Nat.reduceEqDiff, if_true, if_false, reduceCtorEq, exists_eq_left', ne_eq, implies_true, Nat.reduceBEq, plGet hk, t2, f1]
        refine Rcall_hand 1 [.box (pbC ts cols k)] rfl hrule (by simp) rfl (by rfl) fun y s' hy => ?_
        obtain ⟨rfl, rfl⟩ := hy
        refine ⟨rfl, ?_⟩
        generalize hr : nodeP ts cols (nodesP ts cols n) i depth = r
        obtain ⟨⟨k0, h0, t0, ks0, o0, s0, m0, a0, l0⟩, j⟩ := r
        simp only [pbC, Nd.cs, pc_mk, List.map_cons, List.map_nil]
        simp -implicitDefEqProofs only [↓yRp, yRt, Nat.reduceAdd, Nat.reduceMul, Nat.reduceSub, Nat.reduceLeDiff, Nat.reduceEqDiff, if_true, if_false, reduceCtorEq, exists_eq_left', ne_eq, implies_true, Nat.reduceBEq]
        refine ⟨[0], by decide, pinned_one _, ?_, ?_⟩
        · rfl
        · rfl
      have f1 : eqI t.kind 19 = false := eqI_false q1
      by_cases q2 : t.kind = 17
      · have f2 : eqI t.kind 17 = true := by rw [q2]; rfl
        have hsc : scanP ts depth (ts.length - i) i = k := by rw [← hscan, hd1, scanP, if_neg hsh, if_pos ⟨by omega, .inr (by rw [hkk]; exact q2)⟩]
        have hnode : nodeP ts cols (nodesP ts cols n) i depth = leafP ts cols depth i k := by
          simp only [nodeP, hsc, hop]; rw [if_neg (by rw [hkk]; simp [q1])]
        simp -implicitDefEqProofs only [↓yRp, yRt, Nat.reduceAdd, Nat.reduceMul, Nat.reduceSub, Nat.reduceLeDiff, Nat.reduceEqDiff, if_true, if_false, reduceCtorEq, exists_eq_left', ne_eq, implies_true, Nat.reduceBEq, plGet hk, t2, f1, f2]
        refine Rcall_lendF rfl (clone_spec ts cols k i k hik (by omega) hl) (by rfl) fun y hy => ?_
        subst hy
        simp -implicitDefEqProofs only [↓yRp, yRt, Nat.reduceAdd, Nat.reduceMul, Nat.reduceSub, Nat.reduceLeDiff, Nat.reduceEqDiff, if_true, if_false, reduceCtorEq, exists_eq_left', ne_eq, implies_true, Nat.reduceBEq]
        refine Rcall_lend rfl (colon_spec ts cols k i hc.rise hc.len) (by rfl) fun y hy => ⟨by obtain ⟨_, _, _, rfl, _⟩ := hy; rfl, ?_⟩
        obtain ⟨p, c, b, rfl, hstd, hb, hbc⟩ := hy
        have hfind := find_stands hstd
        cases b with
        | true =>
          obtain ⟨a, ha, hak⟩ := hb.mp rfl
          have hca := hbc rfl
          rw [ha] at hca
          have hac : a = c := Option.some.inj hca
          subst hac
          have hia := hstd.2.2 p a (Nat.le_refl _) ha
          obtain ⟨cc, rfl, hcc⟩ := hc.place a (List.mem_of_getElem? ha)
          have hcol : colonAt cols i k = some cc := by rw [colonAt, hfind, ha]; simp only; rw [if_pos hak]; rfl
          obtain ⟨u, hu⟩ := get_lt hcc
          have hsu := startAt_some hu
          have w4 : wrapK .i64 ((cc : Int) + 1) = ((cc + 1 : Nat) : Int) := wrap_succ (by omega)
          simp -implicitDefEqProofs only [↓yRp, yRt, Nat.reduceAdd, Nat.reduceMul, Nat.reduceSub, Nat.reduceLeDiff, Nat.reduceEqDiff, if_true, if_false, reduceCtorEq, exists_eq_left', ne_eq, implies_true, Nat.reduceBEq]
          refine Rd_calm (by rw [C1_P]; kernel_rfl) ?_
          simp -implicitDefEqProofs only [↓yRp, yRt, Nat.reduceAdd, Nat.reduceMul, Nat.reduceSub, Nat.reduceLeDiff, Nat.reduceEqDiff, if_true, if_false, reduceCtorEq, exists_eq_left', ne_eq, implies_true, Nat.reduceBEq]
          refine Rcall_lendF rfl (clone_spec ts cols k i cc (by omega) (by omega) hl) (by rfl) fun y hy => ?_
          subst hy
          simp -implicitDefEqProofs only [↓yRp, yRt, Nat.reduceAdd, Nat.reduceMul, Nat.reduceSub, Nat.reduceLeDiff, Nat.reduceEqDiff, if_true, if_false, reduceCtorEq, exists_eq_left', ne_eq, implies_true, Nat.reduceBEq, w4]
          refine Rcall_lendF rfl (clone_spec ts cols k (cc + 1) k (by omega) (by omega) hl) (by rfl) fun y hy => ?_
          subst hy
          simp -implicitDefEqProofs only [↓yRp, yRt, Nat.reduceAdd, Nat.reduceMul, Nat.reduceSub, Nat.reduceLeDiff, Nat.reduceEqDiff, if_true, if_false, reduceCtorEq, exists_eq_left', ne_eq, implies_true, Nat.reduceBEq, get_map hu, Tok.pc]
          refine Rd_calm (by rw [C1_P]; kernel_rfl) ?_
          simp -implicitDefEqProofs only [↓yRp, yRt, Nat.reduceAdd, Nat.reduceMul, Nat.reduceSub, Nat.reduceLeDiff, Nat.reduceEqDiff, if_true, if_false, reduceCtorEq, exists_eq_left', ne_eq, implies_true, Nat.reduceBEq, t1]
          refine Rcall_lend rfl (shut_spec ts cols k depth hk) (by rfl) fun y hy => ⟨by rw [hy]; rfl, ?_⟩
          subst hy
          simp -implicitDefEqProofs only [↓yRp, yRt, Nat.reduceAdd, Nat.reduceMul, Nat.reduceSub, Nat.reduceLeDiff, Nat.reduceEqDiff, if_true, if_false, reduceCtorEq, exists_eq_left', ne_eq, implies_true, Nat.reduceBEq, decide_eq_false hsh]
          refine Rd_trace ?_
          simp -implicitDefEqProofs only [↓yRp, yRt, Nat.reduceAdd, Nat.reduceMul, Nat.reduceSub, Nat.reduceLeDiff, Nat.reduceEqDiff, if_true, if_false, reduceCtorEq, exists_eq_left', ne_eq, implies_true, Nat.reduceBEq, get_map ht, Tok.pc, w1]
          refine ⟨[0], by decide, pinned_one _, ?_, ?_⟩
          · simp only [hnode, leafP, hop, hcol, hsu, hst, if_true, Nd.cs, pc_mk, List.map_cons, List.map_nil]
            rfl
          · simp only [hnode, leafP, hop, hcol, if_true]
            rfl
        | false =>
          have hcol : colonAt cols i k = none := by
            rw [colonAt, hfind]
            cases hq : cols[p]? with
            | none => rfl
            | some a =>
              simp only
              rw [if_neg fun ha => by have := hb.mpr ⟨a, hq, ha⟩; cases this]
          simp -implicitDefEqProofs only [↓yRp, yRt, Nat.reduceAdd, Nat.reduceMul, Nat.reduceSub, Nat.reduceLeDiff, Nat.reduceEqDiff, if_true, if_false, reduceCtorEq, exists_eq_left', ne_eq, implies_true, Nat.reduceBEq]
          refine Rd_calm (by rw [C1_P]; kernel_rfl) ?_
          simp -implicitDefEqProofs only [↓yRp, yRt, Nat.reduceAdd, Nat.reduceMul, Nat.reduceSub, Nat.reduceLeDiff, Nat.reduceEqDiff, if_true, if_false, reduceCtorEq, exists_eq_left', ne_eq, implies_true, Nat.reduceBEq, t1]
          refine Rcall_lend rfl (shut_spec ts cols k depth hk) (by rfl) fun y hy => ⟨by rw [hy]; rfl, ?_⟩
          subst hy
          simp -implicitDefEqProofs only [↓yRp, yRt, Nat.reduceAdd, Nat.reduceMul, Nat.reduceSub, Nat.reduceLeDiff, Nat.reduceEqDiff, if_true, if_false, reduceCtorEq, exists_eq_left', ne_eq, implies_true, Nat.reduceBEq, decide_eq_false hsh]
          refine Rd_trace ?_
          simp -implicitDefEqProofs only [↓yRp, yRt, Nat.reduceAdd, Nat.reduceMul, Nat.reduceSub, Nat.reduceLeDiff, Nat.reduceEqDiff, if_true, if_false, reduceCtorEq, exists_eq_left', ne_eq, implies_true, Nat.reduceBEq, get_map ht, Tok.pc, w1]
          refine ⟨[0], by decide, pinned_one _, ?_, ?_⟩
          · simp only [hnode, leafP, hop, hcol, hst, if_true, Nd.cs, pc_mk, List.map_cons, List.map_nil]
            rfl
          · simp only [hnode, leafP, hop, hcol, if_true]
            rfl
      · have f2 : eqI t.kind 17 = false := eqI_false q2
        simp -implicitDefEqProofs only [↓yRp, yRt, Nat.reduceAdd, Nat.reduceMul, Nat.reduceSub, Nat.reduceLeDiff, Nat.reduceEqDiff, if_true, if_false, reduceCtorEq, exists_eq_left', ne_eq, implies_true, Nat.reduceBEq, plGet hk, t2, f1, f2, w1]
        refine ⟨d - 1, [0, 1], by omega, by decide, pinned_one _, k + 1, ?_, ?_, by omega, by omega, ?_⟩
        · simp only [yren.eq_1, yren.eq_2, yren.eq_3, yren.eq_4, renV.eq_1, renV.eq_2, renV.eq_3, renC.eq_1, renC.eq_2, renC.eq_3, renC.eq_4, renC.eq_5, renE.eq_1, renE.eq_2, renE.eq_3, renS.eq_1, renB.eq_1, renB.eq_2, renB.eq_3, slotIx_nil, slotIx_cons, nth_zero, nth_succ, yrow.eq_1, yrow.eq_2, Nat.reduceEqDiff, if_true, if_false, List.map_cons, List.map_nil, Nat.zero_add, Nat.add_zero, Nat.le_refl, and_self, and_true, true_and, List.drop_zero, take_map_len, take_map_snoc, snoc_len, List.length_map, List.length_append, List.length_cons, List.length_nil, Nat.reduceAdd, reduceCtorEq, Nat.one_ne_zero, List.set_set]
        · simp only [yren.eq_1, yren.eq_2, yren.eq_3, yren.eq_4, renV.eq_1, renV.eq_2, renV.eq_3, renC.eq_1, renC.eq_2, renC.eq_3, renC.eq_4, renC.eq_5, renE.eq_1, renE.eq_2, renE.eq_3, renS.eq_1, renB.eq_1, renB.eq_2, renB.eq_3, slotIx_nil, slotIx_cons, nth_zero, nth_succ, yrow.eq_1, yrow.eq_2, Nat.reduceEqDiff, if_true, if_false, List.map_cons, List.map_nil, Nat.zero_add, Nat.add_zero, Nat.le_refl, and_self, and_true, true_and, List.drop_zero, take_map_len, take_map_snoc, snoc_len, List.length_map, List.length_append, List.length_cons, List.length_nil, Nat.reduceAdd, reduceCtorEq, Nat.one_ne_zero, List.set_set, pbC, pds]
        · rw [← hscan, hd1, scanP, if_neg hsh, if_neg (by rw [hkk]; simp [q1, q2])]; rfl
  · have t1 : leI (ts.length : Nat) (k : Nat) = true := leI_true (by omega)
    have hd0 : d = 0 := by omega
    have hsc : scanP ts depth (ts.length - i) i = k := by rw [← hscan, hd0, scanP]
    have hop : open_ ts depth k = false := by simp [open_, hk]
    have hnode : nodeP ts cols (nodesP ts cols n) i depth = leafP ts cols depth i k := by
      simp only [nodeP, hsc, hop]; rw [if_neg (by simp)]
    simp -implicitDefEqProofs only [↓yRp, yRt, Nat.reduceAdd, Nat.reduceMul, Nat.reduceSub, Nat.reduceLeDiff, Nat.reduceEqDiff, if_true, if_false, reduceCtorEq, exists_eq_left', ne_eq, implies_true, Nat.reduceBEq]
    refine Rd_calm (by rw [C1_P]; kernel_rfl) ?_
    simp -implicitDefEqProofs only [↓yRp, yRt, Nat.reduceAdd, Nat.reduceMul, Nat.reduceSub, Nat.reduceLeDiff, Nat.reduceEqDiff, if_true, if_false, reduceCtorEq, exists_eq_left', ne_eq, implies_true, Nat.reduceBEq, t1]
    refine Rcall_lendF rfl (clone_spec ts cols k i k hik (by omega) hl) (by rfl) fun y hy => ?_
    subst hy
    simp -implicitDefEqProofs only [↓yRp, yRt, Nat.reduceAdd, Nat.reduceMul, Nat.reduceSub, Nat.reduceLeDiff, Nat.reduceEqDiff, if_true, if_false, reduceCtorEq, exists_eq_left', ne_eq, implies_true, Nat.reduceBEq]
    refine Rcall_lend rfl (colon_spec ts cols k i hc.rise hc.len) (by rfl) fun y hy => ⟨by obtain ⟨_, _, _, rfl, _⟩ := hy; rfl, ?_⟩
    obtain ⟨p, c, b, rfl, hstd, hb, hbc⟩ := hy
    have hfind := find_stands hstd
    cases b with
    | true =>
      obtain ⟨a, ha, hak⟩ := hb.mp rfl
      have hca := hbc rfl
      rw [ha] at hca
      have hac : a = c := Option.some.inj hca
      subst hac
      have hia := hstd.2.2 p a (Nat.le_refl _) ha
      obtain ⟨cc, rfl, hcc⟩ := hc.place a (List.mem_of_getElem? ha)
      have hcol : colonAt cols i k = some cc := by rw [colonAt, hfind, ha]; simp only; rw [if_pos hak]; rfl
      obtain ⟨u, hu⟩ := get_lt hcc
      have hsu := startAt_some hu
      have w4 : wrapK .i64 ((cc : Int) + 1) = ((cc + 1 : Nat) : Int) := wrap_succ (by omega)
      simp -implicitDefEqProofs only [↓yRp, yRt, Nat.reduceAdd, Nat.reduceMul, Nat.reduceSub, Nat.reduceLeDiff, Nat.reduceEqDiff, if_true, if_false, reduceCtorEq, exists_eq_left', ne_eq, implies_true, Nat.reduceBEq]
      refine Rd_calm (by rw [C1_P]; kernel_rfl) ?_
      simp -implicitDefEqProofs only [↓yRp, yRt, Nat.reduceAdd, Nat.reduceMul, Nat.reduceSub, Nat.reduceLeDiff, Nat.reduceEqDiff, if_true, if_false, reduceCtorEq, exists_eq_left', ne_eq, implies_true, Nat.reduceBEq]
      refine Rcall_lendF rfl (clone_spec ts cols k i cc (by omega) (by omega) hl) (by rfl) fun y hy => ?_
      subst hy
      simp -implicitDefEqProofs only [↓yRp, yRt, Nat.reduceAdd, Nat.reduceMul, Nat.reduceSub, Nat.reduceLeDiff, Nat.reduceEqDiff, if_true, if_false, reduceCtorEq, exists_eq_left', ne_eq, implies_true, Nat.reduceBEq, w4]
      refine Rcall_lendF rfl (clone_spec ts cols k (cc + 1) k (by omega) (by omega) hl) (by rfl) fun y hy => ?_
      subst hy
      simp -implicitDefEqProofs only [↓yRp, yRt, Nat.reduceAdd, Nat.reduceMul, Nat.reduceSub, Nat.reduceLeDiff, Nat.reduceEqDiff, if_true, if_false, reduceCtorEq, exists_eq_left', ne_eq, implies_true, Nat.reduceBEq, get_map hu, Tok.pc]
      refine Rd_calm (by rw [C1_P]; kernel_rfl) ?_
      simp -implicitDefEqProofs only [↓yRp, yRt, Nat.reduceAdd, Nat.reduceMul, Nat.reduceSub, Nat.reduceLeDiff, Nat.reduceEqDiff, if_true, if_false, reduceCtorEq, exists_eq_left', ne_eq, implies_true, Nat.reduceBEq, t1]
      refine ⟨[0], by decide, pinned_one _, ?_, ?_⟩
      · simp only [hnode, leafP, hop, hcol, hsu, Bool.false_eq_true, if_false, Nd.cs, pc_mk, List.map_cons, List.map_nil]
        rfl
      · simp only [hnode, leafP, hop, hcol, Bool.false_eq_true, if_false]
        rfl
    | false =>
      have hcol : colonAt cols i k = none := by
        rw [colonAt, hfind]
        cases hq : cols[p]? with
        | none => rfl
        | some a =>
          simp only
          rw [if_neg fun ha => by have := hb.mpr ⟨a, hq, ha⟩; cases this]
      simp -implicitDefEqProofs only [↓yRp, yRt, Nat.reduceAdd, Nat.reduceMul, Nat.reduceSub, Nat.reduceLeDiff, Nat.reduceEqDiff, if_true, if_false, reduceCtorEq, exists_eq_left', ne_eq, implies_true, Nat.reduceBEq]
      refine Rd_calm (by rw [C1_P]; kernel_rfl) ?_
      simp -implicitDefEqProofs only [↓yRp, yRt, Nat.reduceAdd, Nat.reduceMul, Nat.reduceSub, Nat.reduceLeDiff, Nat.reduceEqDiff, if_true, if_false, reduceCtorEq, exists_eq_left', ne_eq, implies_true, Nat.reduceBEq, t1]
      refine ⟨[0], by decide, pinned_one _, ?_, ?_⟩
      · simp only [hnode, leafP, hop, hcol, Bool.false_eq_true, if_false, Nd.cs, pc_mk, List.map_cons, List.map_nil]
        rfl
      · simp only [hnode, leafP, hop, hcol, Bool.false_eq_true, if_false]
        rfl
end Go.Vx.Seat
end
/- The program's nodes and Parse. -/
section
open Go Go.Vx Go.Proofs
set_option linter.unusedSimpArgs false
set_option linter.unusedVariables false
set_option maxRecDepth 10000
set_option maxHeartbeats 4000000
namespace Go.Vx.Seat
attribute [local congr] Rg_at Rt_at Ro_at Ri_at Rc_at Rto_at Rtk_at Rtf_at Rti_at
theorem fn12 : nth C1.P.funcs.toList 12 = some Try.f12 := by kernel_rfl
theorem leafP_in (ts : List Tok) (cols : List Int) (depth i k : Nat) (hik : i ≤ k) (hk : k ≤ ts.length) : k ≤ (leafP ts cols depth i k).2 ∧ (leafP ts cols depth i k).2 ≤ ts.length ∧ (open_ ts depth k = true → k < (leafP ts cols depth i k).2) := by
  unfold leafP
  simp only
  cases h : open_ ts depth k with
  | false => simp; exact hk
  | true =>
    simp only [open_, Bool.and_eq_true, decide_eq_true_eq] at h
    simp; omega
theorem nodeP_in (ts : List Tok) (cols : List Int) (rec : Nat → Nat → List Nd × Nat) (hin : In ts rec) (i depth : Nat) (ho : open_ ts depth i = true) : i < (nodeP ts cols rec i depth).2 ∧ (nodeP ts cols rec i depth).2 ≤ ts.length := by
  have hi : i < ts.length := by simp only [open_, Bool.and_eq_true, decide_eq_true_eq] at ho; exact ho.1
  have hns : ¬ (pl ts i).1 < depth := by simp only [open_, Bool.and_eq_true, Bool.not_eq_true', decide_eq_false_iff_not] at ho; exact ho.2
  have hs := scanP_le ts depth (ts.length - i) i
  have hgt : scanP ts depth (ts.length - i) i = i → (pl ts i).1 ≤ depth ∧ (kindAt ts i = 19 ∨ kindAt ts i = 17) := by
    intro he
    rw [show ts.length - i = (ts.length - i - 1) + 1 by omega, scanP, if_neg hns] at he
    by_cases hq : (pl ts i).1 ≤ depth ∧ (kindAt ts i = 19 ∨ kindAt ts i = 17)
    · exact hq
    · rw [if_neg hq] at he
      have := scanP_le ts depth (ts.length - i - 1) (i + 1)
      omega
  unfold nodeP
  simp only
  generalize scanP ts depth (ts.length - i) i = k at hs hgt
  split
  · rename_i hq
    have hk : k < ts.length := by have := hq.1; simp only [open_, Bool.and_eq_true, decide_eq_true_eq] at this; exact this.1
    have := hin (k + 1) (depth + 1) (by omega)
    unfold ruleP
    simp only
    split
    · omega
    · omega
  · have := leafP_in ts cols depth i k hs.1 (by omega)
    refine ⟨?_, this.2.1⟩
    by_cases he : k = i
    · subst he; exact this.2.2 ho
    · omega
theorem nodesP_in (ts : List Tok) (cols : List Int) : ∀ n, In ts (nodesP ts cols n)
  | 0 => fun i depth hi => by simp [nodesP]; exact hi
  | n + 1 => fun i depth hi => by
    unfold nodesP
    split
    · rename_i ho
      have h1 := nodeP_in ts cols _ (nodesP_in ts cols n) i depth ho
      have h2 := nodesP_in ts cols n (nodeP ts cols (nodesP ts cols n) i depth).2 depth h1.2
      simp only
      omega
    · simp; exact hi
/-- A node is a token or more. -/
theorem nodesP_length (ts : List Tok) (cols : List Int) : ∀ n i depth, i ≤ ts.length → (nodesP ts cols n i depth).1.length + i ≤ (nodesP ts cols n i depth).2
  | 0, i, depth, hi => by simp [nodesP]
  | n + 1, i, depth, hi => by
    unfold nodesP
    split
    · rename_i ho
      have h1 := nodeP_in ts cols _ (nodesP_in ts cols n) i depth ho
      have h2 := nodesP_length ts cols n (nodeP ts cols (nodesP ts cols n) i depth).2 depth h1.2
      simp only [List.length_cons]
      omega
    · simp

theorem nodes_spec (ts : List Tok) (cols : List Int) (hl : ts.length ≤ 1000000) (hc : ColsOk ts cols) (n : Nat) : NodesSpec ts cols n := by
  induction n using Nat.strongRecOn with
  | _ n ih =>
  intro i0 depth hdi0 hi0 hf0
  refine Yf0 [] (by rfl) (by rfl) fn27 (by rfl) ?_
  simp only [Try.f27, List.length_cons, List.length_nil, List.replicate, List.cons_append, List.nil_append, pbC]
  simp -implicitDefEqProofs only [↓yRp, yRt, Nat.reduceAdd, Nat.reduceMul, Nat.reduceSub, Nat.reduceLeDiff, Nat.reduceEqDiff, if_true, if_false, reduceCtorEq, exists_eq_left', ne_eq, implies_true, Nat.reduceBEq]
  refine Rl_nil 5 9 (by decide) rfl ?_
  refine Rl_inv (fun d e s => ∃ (m i : Nat) (acc : List Nd), e = [.c (.ptr 0 0 0 0), yd (.int .i64 depth), .c .top, .c .top, .c .top, .c (.own 1 9 0 acc.length), .c .top, .c .top, .c .top, .c .top, .c .top, .c .top, .c .top, .c .top, .c .top, .c .top, .c .top, .c .top, .c .top, .c .top, .c .top, .c .top, .c .top, .c .top, .c .top, .c .top, .c .top, .c .top, .c .top] ∧ s = [.box (pbC ts cols i), .row 9 (acc.map Nd.pc)] ∧ m = d ∧ m ≤ n ∧ ts.length - i ≤ m ∧ depth ≤ i ∧ i ≤ ts.length ∧ acc.length ≤ i ∧ acc ++ (nodesP ts cols m i depth).1 = (nodesP ts cols n i0 depth).1 ∧ (nodesP ts cols m i depth).2 = (nodesP ts cols n i0 depth).2)
    [true, true, false, false, false, true] n [0, 1] (by decide) (pinned_one _) ⟨n, i0, [], rfl, rfl, rfl, Nat.le_refl _, hf0, hdi0, hi0, by simp, by simp, rfl⟩ ?_
  rintro d e s ⟨m, i, acc, rfl, rfl, rfl, hmn, hf, hdi, hi, hacc, hout, hend⟩
  simp only [pbC]
  simp -implicitDefEqProofs only [↓yRp, yRt, Nat.reduceAdd, Nat.reduceMul, Nat.reduceSub, Nat.reduceLeDiff, Nat.reduceEqDiff, if_true, if_false, reduceCtorEq, exists_eq_left', ne_eq, implies_true, Nat.reduceBEq]
  refine Rd_calm (by rw [C1_P]; kernel_rfl) ?_
  by_cases hil : i < ts.length
  · have t1 : leI (ts.length : Nat) (i : Nat) = false := leI_false (by omega)
    simp -implicitDefEqProofs only [↓yRp, yRt, Nat.reduceAdd, Nat.reduceMul, Nat.reduceSub, Nat.reduceLeDiff, Nat.reduceEqDiff, if_true, if_false, reduceCtorEq, exists_eq_left', ne_eq, implies_true, Nat.reduceBEq, t1]
    refine Rcall_lend rfl (shut_spec ts cols i depth hil) (by rfl) fun y hy => ⟨by rw [hy]; rfl, ?_⟩
    subst hy
    by_cases hsh : (pl ts i).1 < depth
    · have hop : open_ ts depth i = false := by simp [open_, hsh]
      have hres : nodesP ts cols m i depth = ([], i) := by
        cases m with
        | zero => rfl
        | succ m => rw [nodesP, hop]; rfl
      rw [hres] at hout hend
      simp only [List.append_nil] at hout hend
      simp -implicitDefEqProofs only [↓yRp, yRt, Nat.reduceAdd, Nat.reduceMul, Nat.reduceSub, Nat.reduceLeDiff, Nat.reduceEqDiff, if_true, if_false, reduceCtorEq, exists_eq_left', ne_eq, implies_true, Nat.reduceBEq, decide_eq_true hsh]
      refine ⟨[0], by decide, pinned_one _, ?_, ?_⟩
      · simp only [yren.eq_1, yren.eq_2, yren.eq_3, yren.eq_4, renV.eq_1, renV.eq_2, renV.eq_3, renC.eq_1, renC.eq_2, renC.eq_3, renC.eq_4, renC.eq_5, renE.eq_1, renE.eq_2, renE.eq_3, renS.eq_1, renB.eq_1, renB.eq_2, renB.eq_3, slotIx_nil, slotIx_cons, nth_zero, nth_succ, yrow.eq_1, yrow.eq_2, Nat.reduceEqDiff, if_true, if_false, List.map_cons, List.map_nil, Nat.zero_add, Nat.add_zero, Nat.le_refl, and_self, and_true, true_and, List.drop_zero, take_map_len, take_map_snoc, snoc_len, List.length_map, List.length_append, List.length_cons, List.length_nil, Nat.reduceAdd, reduceCtorEq, Nat.one_ne_zero, List.set_set, ← hout]; rfl
      · simp only [yren.eq_1, yren.eq_2, yren.eq_3, yren.eq_4, renV.eq_1, renV.eq_2, renV.eq_3, renC.eq_1, renC.eq_2, renC.eq_3, renC.eq_4, renC.eq_5, renE.eq_1, renE.eq_2, renE.eq_3, renS.eq_1, renB.eq_1, renB.eq_2, renB.eq_3, slotIx_nil, slotIx_cons, nth_zero, nth_succ, yrow.eq_1, yrow.eq_2, Nat.reduceEqDiff, if_true, if_false, List.map_cons, List.map_nil, Nat.zero_add, Nat.add_zero, Nat.le_refl, and_self, and_true, true_and, List.drop_zero, take_map_len, take_map_snoc, snoc_len, List.length_map, List.length_append, List.length_cons, List.length_nil, Nat.reduceAdd, reduceCtorEq, Nat.one_ne_zero, List.set_set, ← hend, pbC]
    · have hop : open_ ts depth i = true := by simp [open_, hsh, hil]
      obtain ⟨m, rfl⟩ : ∃ m', m = m' + 1 := ⟨m - 1, by omega⟩
      have hin := nodesP_in ts cols m
      have hx := nodeP_in ts cols _ hin i depth hop
      have hnode := node_spec ts cols m hl hc (ih m (by omega)) hin i depth hil hdi (by omega)
      have hres : nodesP ts cols (m + 1) i depth = ((nodeP ts cols (nodesP ts cols m) i depth).1 :: (nodesP ts cols m (nodeP ts cols (nodesP ts cols m) i depth).2 depth).1, (nodesP ts cols m (nodeP ts cols (nodesP ts cols m) i depth).2 depth).2) := by
        rw [nodesP, hop]; rfl
      rw [hres] at hout hend
      have b1 : (acc.length + 1) * 104 ≤ 70368744177664 := by omega
      simp -implicitDefEqProofs only [↓yRp, yRt, Nat.reduceAdd, Nat.reduceMul, Nat.reduceSub, Nat.reduceLeDiff, Nat.reduceEqDiff, if_true, if_false, reduceCtorEq, exists_eq_left', ne_eq, implies_true, Nat.reduceBEq, decide_eq_false hsh]
      refine Rcall_hand 1 [.box (pbC ts cols i)] rfl hnode (by simp) rfl (by rfl) fun y s' hy => ?_
      obtain ⟨rfl, rfl⟩ := hy
      refine ⟨rfl, ?_⟩
      generalize hr : nodeP ts cols (nodesP ts cols m) i depth = r at hx hout hend
      obtain ⟨⟨k0, h0, t0, ks0, o0, s0, m0, a0, l0⟩, j⟩ := r
      simp only [pbC, Nd.cs, pc_mk, List.map_cons, List.map_nil]
      simp -implicitDefEqProofs only [↓yRp, yRt, Nat.reduceAdd, Nat.reduceMul, Nat.reduceSub, Nat.reduceLeDiff, Nat.reduceEqDiff, if_true, if_false, reduceCtorEq, exists_eq_left', ne_eq, implies_true, Nat.reduceBEq, b1]
      refine ⟨m, [0, 3], by omega, by decide, pinned_one _, m, j, acc ++ [.mk k0 h0 t0 ks0 o0 s0 m0 a0 l0], ?_, ?_, rfl, by omega, by simp only at hx; omega, by simp only at hx; omega, by simp only at hx; omega, by simp only at hx; simp; omega, ?_, hend⟩
      · simp only [yren.eq_1, yren.eq_2, yren.eq_3, yren.eq_4, renV.eq_1, renV.eq_2, renV.eq_3, renC.eq_1, renC.eq_2, renC.eq_3, renC.eq_4, renC.eq_5, renE.eq_1, renE.eq_2, renE.eq_3, renS.eq_1, renB.eq_1, renB.eq_2, renB.eq_3, slotIx_nil, slotIx_cons, nth_zero, nth_succ, yrow.eq_1, yrow.eq_2, Nat.reduceEqDiff, if_true, if_false, List.map_cons, List.map_nil, Nat.zero_add, Nat.add_zero, Nat.le_refl, and_self, and_true, true_and, List.drop_zero, take_map_len, take_map_snoc, snoc_len, List.length_map, List.length_append, List.length_cons, List.length_nil, Nat.reduceAdd, reduceCtorEq, Nat.one_ne_zero, List.set_set]
      · simp only [yren.eq_1, yren.eq_2, yren.eq_3, yren.eq_4, renV.eq_1, renV.eq_2, renV.eq_3, renC.eq_1, renC.eq_2, renC.eq_3, renC.eq_4, renC.eq_5, renE.eq_1, renE.eq_2, renE.eq_3, renS.eq_1, renB.eq_1, renB.eq_2, renB.eq_3, slotIx_nil, slotIx_cons, nth_zero, nth_succ, yrow.eq_1, yrow.eq_2, Nat.reduceEqDiff, if_true, if_false, List.map_cons, List.map_nil, Nat.zero_add, Nat.add_zero, Nat.le_refl, and_self, and_true, true_and, List.drop_zero, take_map_len, take_map_snoc, snoc_len, List.length_map, List.length_append, List.length_cons, List.length_nil, Nat.reduceAdd, reduceCtorEq, Nat.one_ne_zero, List.set_set, List.map_append, pc_mk, pbC]
      · rw [← hout]; simp
  · have t1 : leI (ts.length : Nat) (i : Nat) = true := leI_true (by omega)
    have hop : open_ ts depth i = false := by simp [open_, hil]
    have hres : nodesP ts cols m i depth = ([], i) := by
      cases m with
      | zero => rfl
      | succ m => rw [nodesP, hop]; rfl
    rw [hres] at hout hend
    simp only [List.append_nil] at hout hend
    simp -implicitDefEqProofs only [↓yRp, yRt, Nat.reduceAdd, Nat.reduceMul, Nat.reduceSub, Nat.reduceLeDiff, Nat.reduceEqDiff, if_true, if_false, reduceCtorEq, exists_eq_left', ne_eq, implies_true, Nat.reduceBEq, t1]
    refine ⟨[0], by decide, pinned_one _, ?_, ?_⟩
    · simp only [yren.eq_1, yren.eq_2, yren.eq_3, yren.eq_4, renV.eq_1, renV.eq_2, renV.eq_3, renC.eq_1, renC.eq_2, renC.eq_3, renC.eq_4, renC.eq_5, renE.eq_1, renE.eq_2, renE.eq_3, renS.eq_1, renB.eq_1, renB.eq_2, renB.eq_3, slotIx_nil, slotIx_cons, nth_zero, nth_succ, yrow.eq_1, yrow.eq_2, Nat.reduceEqDiff, if_true, if_false, List.map_cons, List.map_nil, Nat.zero_add, Nat.add_zero, Nat.le_refl, and_self, and_true, true_and, List.drop_zero, take_map_len, take_map_snoc, snoc_len, List.length_map, List.length_append, List.length_cons, List.length_nil, Nat.reduceAdd, reduceCtorEq, Nat.one_ne_zero, List.set_set, ← hout]; rfl
    · simp only [yren.eq_1, yren.eq_2, yren.eq_3, yren.eq_4, renV.eq_1, renV.eq_2, renV.eq_3, renC.eq_1, renC.eq_2, renC.eq_3, renC.eq_4, renC.eq_5, renE.eq_1, renE.eq_2, renE.eq_3, renS.eq_1, renB.eq_1, renB.eq_2, renB.eq_3, slotIx_nil, slotIx_cons, nth_zero, nth_succ, yrow.eq_1, yrow.eq_2, Nat.reduceEqDiff, if_true, if_false, List.map_cons, List.map_nil, Nat.zero_add, Nat.add_zero, Nat.le_refl, and_self, and_true, true_and, List.drop_zero, take_map_len, take_map_snoc, snoc_len, List.length_map, List.length_append, List.length_cons, List.length_nil, Nat.reduceAdd, reduceCtorEq, Nat.one_ne_zero, List.set_set, ← hend, pbC]

theorem filter_get {p : Nat → Bool} {n i : Nat} {a : Nat} (h : ((List.range n).filter p)[i]? = some a) : a < n := by
  have := List.mem_of_getElem? h
  simpa using (List.mem_filter.mp this).1
theorem filter_rise (p : Nat → Bool) (n : Nat) : Rising (((List.range n).filter p).map fun i : Nat => (i : Int)) := by
  have hpw : ((List.range n).filter p).Pairwise (· < ·) := List.Pairwise.filter _ List.pairwise_lt_range
  intro i j a b hij ha hb
  rw [List.getElem?_map] at ha hb
  cases h1 : ((List.range n).filter p)[i]? with
  | none => rw [h1] at ha; cases ha
  | some x =>
    cases h2 : ((List.range n).filter p)[j]? with
    | none => rw [h2] at hb; cases hb
    | some y =>
      rw [h1] at ha; rw [h2] at hb
      cases ha; cases hb
      have li := lt_of_some h1
      have lj := lt_of_some h2
      have := List.pairwise_iff_getElem.mp hpw i j li lj hij
      rw [List.getElem?_eq_getElem li] at h1
      rw [List.getElem?_eq_getElem lj] at h2
      rw [Option.some.inj h1, Option.some.inj h2] at this
      show (x : Int) < (y : Int)
      omega
theorem colsP_ok (ts : List Tok) (hl : ts.length ≤ 1000000) : ColsOk ts (colonsP ts ts.length) := by
  refine ⟨filter_rise _ _, by have := colonsP_length ts ts.length; omega, fun c hc => ?_⟩
  obtain ⟨k, hk, rfl⟩ := List.mem_map.mp hc
  exact ⟨k, rfl, by simpa using (List.mem_filter.mp hk).1⟩
def parseP (ts : List Tok) : List Nd := (nodesP ts (colonsP ts ts.length) ts.length 0 0).1
theorem parseP_spec (ts : List Tok) (hl : ts.length ≤ 1000000) : PCall C1 12 [.c (.p (rT ts))] fun y => y = .c (.p (rN (parseP ts))) := by
  have hn := nodes_spec ts (colonsP ts ts.length) hl (colsP_ok ts hl) ts.length 0 0 (by omega) (by omega) (by omega)
  refine Pf (by rfl) (by rfl) fn12 (by rfl) ?_
  simp only [Try.f12, List.length_cons, List.length_nil, List.replicate, List.cons_append, List.nil_append]
  simp -implicitDefEqProofs only [↓yRp, yRt, Nat.reduceAdd, Nat.reduceMul, Nat.reduceSub, Nat.reduceLeDiff, Nat.reduceEqDiff, if_true, if_false, reduceCtorEq, exists_eq_left', ne_eq, implies_true, Nat.reduceBEq]
  refine Rcall_pure (places_spec ts hl) (by rfl) fun y hy => ?_
  subst hy
  simp -implicitDefEqProofs only [↓yRp, yRt, Nat.reduceAdd, Nat.reduceMul, Nat.reduceSub, Nat.reduceLeDiff, Nat.reduceEqDiff, if_true, if_false, reduceCtorEq, exists_eq_left', ne_eq, implies_true, Nat.reduceBEq]
  refine Rcall_pure (colonsP_spec ts hl) (by rfl) fun y hy => ?_
  subst hy
  simp -implicitDefEqProofs only [↓yRp, yRt, Nat.reduceAdd, Nat.reduceMul, Nat.reduceSub, Nat.reduceLeDiff, Nat.reduceEqDiff, if_true, if_false, reduceCtorEq, exists_eq_left', ne_eq, implies_true, Nat.reduceBEq]
  refine Rcall_hand 1 [.box (pbC ts (colonsP ts ts.length) 0)] rfl hn (by simp) rfl (by rfl) fun y s' hy => ?_
  obtain ⟨rfl, rfl⟩ := hy
  refine ⟨rfl, ?_⟩
  simp only [pbC]
  simp -implicitDefEqProofs only [↓yRp, yRt, Nat.reduceAdd, Nat.reduceMul, Nat.reduceSub, Nat.reduceLeDiff, Nat.reduceEqDiff, if_true, if_false, reduceCtorEq, exists_eq_left', ne_eq, implies_true, Nat.reduceBEq]
  rfl
end Go.Vx.Seat
end
/- The document's node. -/
section
open Go Go.Vx Go.Proofs
set_option linter.unusedSimpArgs false
set_option linter.unusedVariables false
set_option maxRecDepth 10000
set_option maxHeartbeats 8000000
namespace Go.Vx.Seat
attribute [local congr] Rg_at Rt_at Ro_at Ri_at Rc_at Rto_at Rtk_at Rtf_at Rti_at
theorem fn45 : nth C1.P.funcs.toList 45 = some Try.f45 := by kernel_rfl
theorem fn28 : nth C1.P.funcs.toList 28 = some Try.f28 := by kernel_rfl
theorem fn13 : nth C1.P.funcs.toList 13 = some Try.f13 := by kernel_rfl
/-- Does the document end a block there? -/
def shutD (ts : List Tok) (deep k : Nat) : Bool := decide (kindAt ts k = 20) && decide (0 < deep) && decide ((openAt ts k).length = deep)
def endD (ts : List Tok) (deep : Nat) : Nat → Nat → Nat
  | 0, k => k
  | d + 1, k => if (openAt ts k).length = deep ∧ ((kindAt ts k = 20 ∧ 0 < deep) ∨ kindAt ts k = 19 ∨ kindAt ts k = 17) then k else endD ts deep d (k + 1)
theorem endD_le (ts : List Tok) (deep : Nat) : ∀ d k, k ≤ endD ts deep d k ∧ endD ts deep d k ≤ k + d
  | 0, k => by simp [endD]
  | d + 1, k => by
    have := endD_le ts deep d (k + 1)
    unfold endD
    split
    · omega
    · omega
/-- The last colon of a declaration at a level, among so many tokens. -/
def colD (ts : List Tok) (cols : List Int) (deep i : Nat) : Nat → Option Nat
  | 0 => none
  | m + 1 => if (openAt ts (i + m)).length = deep ∧ cols.contains ((i + m : Nat) : Int) = true then some (i + m) else colD ts cols deep i m
theorem colD_le {ts : List Tok} {cols : List Int} {deep i : Nat} : ∀ {m c : Nat}, colD ts cols deep i m = some c → i ≤ c ∧ c < i + m
  | 0, c, h => by cases h
  | m + 1, c, h => by
    unfold colD at h
    split at h
    · cases h; omega
    · have := colD_le h; omega
def encC : Option Nat → Int
  | none => -1
  | some c => (c : Nat)
def leafD (ts : List Tok) (c : Option Nat) (i k : Nat) (semi : Bool) : Nd × Nat :=
  (match c with
  | some c => .mk 2 (slice ts i c) (slice ts (c + 1) k) [] false false semi (startAt ts c) (if semi then startAt ts k else 0)
  | none => .mk 3 (slice ts i k) [] [] false false semi 0 (if semi then startAt ts k else 0), if semi then k + 1 else k)
def nodeD (ts : List Tok) (cols : List Int) (rec : Nat → Nat → List Nd × Nat) (i deep : Nat) : Nd × Nat :=
  let k := endD ts deep (ts.length - i) i
  if k < ts.length ∧ kindAt ts k = 19 then ruleP ts rec i k deep
  else if k < ts.length then leafD ts (colD ts cols deep i (k - i + 1)) i k (decide (kindAt ts k = 17))
  else leafD ts (colD ts cols deep i (k - i)) i k false
def nodesD (ts : List Tok) (cols : List Int) : Nat → Nat → Nat → List Nd × Nat
  | 0, i, _ => ([], i)
  | n + 1, i, deep => if i < ts.length ∧ shutD ts deep i = false then
      let x := nodeD ts cols (nodesD ts cols n) i deep
      let r := nodesD ts cols n x.2 deep
      (x.1 :: r.1, r.2)
    else ([], i)
def tbC (ts : List Tok) (cols : List Int) (i : Nat) : List Ce := [.p (rT ts), .p (rII (nest ts)), .p (rI cols), .p (.d (.int .i64 i))]
def NodesSpecD (ts : List Tok) (cols : List Int) (n : Nat) : Prop := ∀ i deep, deep ≤ i → i ≤ ts.length → ts.length - i ≤ n →
  YC C1 false 28 [.c (.ptr 0 0 0 0), yd (.int .i64 deep)] [.box (tbC ts cols i)] fun y s => y = .c (.p (rN (nodesD ts cols n i deep).1)) ∧ s = [.box (tbC ts cols (nodesD ts cols n i deep).2)]
theorem slice_cells (ts : List Tok) (a b : Nat) : ((ts.map Tok.pc).drop a).take b = ((ts.drop a).take b).map Tok.pc := by rw [List.map_take, List.map_drop]
theorem slice_len (ts : List Tok) (a b : Nat) (h : ts.length ≤ 1000000) : ((ts.drop a).take b).length ≤ 1000000 := by simp; omega

theorem nodeD_spec (ts : List Tok) (cols : List Int) (n : Nat) (hl : ts.length ≤ 1000000) (hcl0 : cols.length ≤ 1000000) (hcol : ∀ k : Nat, cols.contains (k : Int) = true → kindAt ts k = 16) (hn : NodesSpecD ts cols n) (hin : In ts (nodesD ts cols n)) (i deep : Nat) (hi : i < ts.length) (hdi : deep ≤ i) (hf : ts.length - (i + 1) ≤ n) :
    YC C1 false 45 [.c (.ptr 0 0 0 0), yd (.int .i64 deep)] [.box (tbC ts cols i)] fun y s => y = .agg (nodeD ts cols (nodesD ts cols n) i deep).1.cs ∧ s = [.box (tbC ts cols (nodeD ts cols (nodesD ts cols n) i deep).2)] := by
  refine Yf0 [0, 13, 13, 9, 0, 0, 0, 0, 0] (by rfl) (by rfl) fn45 (by rfl) ?_
  simp only [Try.f45, List.length_cons, List.length_nil, List.replicate, List.cons_append, List.nil_append, tbC]
  simp -implicitDefEqProofs only [↓yRp, yRt, Nat.reduceAdd, Nat.reduceMul, Nat.reduceSub, Nat.reduceLeDiff, Nat.reduceEqDiff, if_true, if_false, reduceCtorEq, exists_eq_left', ne_eq, implies_true, Nat.reduceBEq]
  refine Rl_inv (fun d e s => ∃ k : Nat, e = [.c (.ptr 0 0 0 0), yd (.int .i64 deep), .c .top, .c .top, .c (.ptr 1 0 0 0), yd (.int .i64 i), yd (.int .i64 (encC (colD ts cols deep i (k - i)))), .c (.ptr 2 0 0 0), .c .top, .c .top, .c .top, .c .top, .c .top, .c .top, .c .top, .c .top, .c .top, .c .top, .c .top, .c .top, .c .top, .c .top, .c .top, .c .top, .c .top, .c .top, .c .top, .c .top, .c .top, .c .top, .c .top, .c .top, .c .top, .c .top, .c .top, .c .top, .c .top, .c .top, .c .top, .c .top, .c .top, .c .top, .c .top, .c .top, .c .top, .c .top, .c .top, .c .top, .c .top, .c .top, .c .top, .c .top, .c .top, .c .top, .c .top, .c .top, .c .top, .c .top, .c .top, .c .top, .c .top, .c .top, .c .top, .c .top, .c .top, .c .top, .c .top, .c .top, .c .top, .c .top, .c .top, .c .top, .c .top, .c .top, .c .top, .c .top, .c .top, .c .top, .c .top, .c .top, .c .top, .c .top, .c .top, .c .top, .c .top, .c .top, .c .top, .c .top, .c .top, .c .top, .c .top, .c .top, .c .top, .c .top, .c .top, .c .top, .c .top, .c .top, .c .top, .c .top, .c .top, .c .top, .c .top, .c .top, .c .top, .c .top, .c .top, .c .top, .c .top, .c .top, .c .top, .c .top, .c .top, .c .top, .c .top, .c .top, .c .top, .c .top, .c .top, .c .top, .c .top, .c .top, .c .top, .c .top, .c .top, .c .top, .c .top, .c .top, .c .top, .c .top, .c .top, .c .top, .c .top, .c .top, .c .top, .c .top, .c .top, .c .top, .c .top, .c .top, .c .top, .c .top, .c .top, .c .top, .c .top, .c .top, .c .top, .c .top, .c .top, .c .top, .c .top, .c .top, .c .top, .c .top, .c .top, .c .top, .c .top, .c .top, .c .top, .c .top, .c .top, .c .top, .c .top, .c .top, .c .top, .c .top, .c .top, .c .top, .c .top, .c .top, .c .top, .c .top, .c .top, .c .top, .c .top, .c .top, .c .top, .c .top, .c .top, .c .top, .c .top, .c .top, .c .top, .c .top, .c .top, .c .top, .c .top, .c .top, .c .top, .c .top, .c .top, .c .top, .c .top, .c .top, .c .top, .c .top, .c .top, .c .top, .c .top, .c .top] ∧ s = [.box (tbC ts cols k), .box (pds [.int .i64 0, .slice none 0 0, .slice none 0 0, .slice none 0 0, .bool false, .bool false, .bool false, .int .i64 0, .int .i64 0]), .box (pds [.int .i64 3, .slice none 0 0, .slice none 0 0, .slice none 0 0, .bool false, .bool false, .bool false, .int .i64 0, .int .i64 0])] ∧ k + d = ts.length ∧ i ≤ k ∧ endD ts deep d k = endD ts deep (ts.length - i) i)
    [true, true, false, false, true, true, true, true] (ts.length - i) [0, 1, 2] (by decide) (pinned_one _) ⟨i, by simp only [yren.eq_1, yren.eq_2, yren.eq_3, yren.eq_4, renV.eq_1, renV.eq_2, renV.eq_3, renC.eq_1, renC.eq_2, renC.eq_3, renC.eq_4, renC.eq_5, renE.eq_1, renE.eq_2, renE.eq_3, renS.eq_1, renB.eq_1, renB.eq_2, renB.eq_3, slotIx_nil, slotIx_cons, nth_zero, nth_succ, yrow.eq_1, yrow.eq_2, Nat.reduceEqDiff, if_true, if_false, List.map_cons, List.map_nil, Nat.zero_add, Nat.add_zero, Nat.le_refl, and_self, and_true, true_and, List.drop_zero, take_map_len, take_map_snoc, snoc_len, List.length_map, List.length_append, List.length_cons, List.length_nil, Nat.reduceAdd, reduceCtorEq, Nat.one_ne_zero, List.set_set, Nat.sub_self]; rfl, by simp only [yren.eq_1, yren.eq_2, yren.eq_3, yren.eq_4, renV.eq_1, renV.eq_2, renV.eq_3, renC.eq_1, renC.eq_2, renC.eq_3, renC.eq_4, renC.eq_5, renE.eq_1, renE.eq_2, renE.eq_3, renS.eq_1, renB.eq_1, renB.eq_2, renB.eq_3, slotIx_nil, slotIx_cons, nth_zero, nth_succ, yrow.eq_1, yrow.eq_2, Nat.reduceEqDiff, if_true, if_false, List.map_cons, List.map_nil, Nat.zero_add, Nat.add_zero, Nat.le_refl, and_self, and_true, true_and, List.drop_zero, take_map_len, take_map_snoc, snoc_len, List.length_map, List.length_append, List.length_cons, List.length_nil, Nat.reduceAdd, reduceCtorEq, Nat.one_ne_zero, List.set_set]; rfl, by omega, by omega, rfl⟩ ?_
  rintro d e s ⟨k, rfl, rfl, hd, hik, hend⟩
  simp only [tbC, pds, List.map_cons, List.map_nil]
  by_cases hk : k < ts.length
  · obtain ⟨t, ht⟩ := get_lt hk
    have hkk := kindAt_some ht
    have hst := startAt_some ht
    have hn1 := nest_at ts hk
    have hol := openAt_length ts k
    have t1 : leI (ts.length : Nat) (k : Nat) = false := leI_false (by omega)
    have w1 : wrapK .i64 ((k : Int) + 1) = ((k + 1 : Nat) : Int) := wrap_succ (by omega)
    have hd1 : d = (d - 1) + 1 := by omega
    have hki : k - i + i = k := by omega
    have hki1 : k + 1 - i = (k - i) + 1 := by omega
    have hiki : i + (k - i) = k := by omega
    have sl1 : ((i : Nat) : Int) ≤ ((k : Nat) : Int) := by omega
    have sl2 : ((k : Nat) : Int) ≤ ((ts.length : Nat) : Int) := by omega
    simp -implicitDefEqProofs only [↓yRp, yRt, Nat.reduceAdd, Nat.reduceMul, Nat.reduceSub, Nat.reduceLeDiff, Nat.reduceEqDiff, if_true, if_false, reduceCtorEq, exists_eq_left', ne_eq, implies_true, Nat.reduceBEq]
    refine Rd_calm (by rw [C1_P]; kernel_rfl) ?_
    simp -implicitDefEqProofs only [↓yRp, yRt, Nat.reduceAdd, Nat.reduceMul, Nat.reduceSub, Nat.reduceLeDiff, Nat.reduceEqDiff, if_true, if_false, reduceCtorEq, exists_eq_left', ne_eq, implies_true, Nat.reduceBEq, t1]
    refine Rd_calm (by rw [C1_P]; kernel_rfl) ?_
    simp -implicitDefEqProofs only [↓yRp, yRt, Nat.reduceAdd, Nat.reduceMul, Nat.reduceSub, Nat.reduceLeDiff, Nat.reduceEqDiff, if_true, if_false, reduceCtorEq, exists_eq_left', ne_eq, implies_true, Nat.reduceBEq, get_map ht, Tok.pc]
    refine Rd_calm (by rw [C1_P]; kernel_rfl) ?_
    by_cases hlv : (openAt ts k).length = deep
    · have e1 : eqI ((openAt ts k).length : Nat) (deep : Nat) = true := by rw [hlv]; exact eqI_true _
      simp -implicitDefEqProofs only [↓yRp, yRt, Nat.reduceAdd, Nat.reduceMul, Nat.reduceSub, Nat.reduceLeDiff, Nat.reduceEqDiff, if_true, if_false, reduceCtorEq, exists_eq_left', ne_eq, implies_true, Nat.reduceBEq, get_map hn1, e2, e1]
      refine Rd_calm (by rw [C1_P]; kernel_rfl) ?_
      simp -implicitDefEqProofs only [↓yRp, yRt, Nat.reduceAdd, Nat.reduceMul, Nat.reduceSub, Nat.reduceLeDiff, Nat.reduceEqDiff, if_true, if_false, reduceCtorEq, exists_eq_left', ne_eq, implies_true, Nat.reduceBEq]
      refine Rcall_pure (in_spec cols k (by omega)) (by rfl) fun y hy => ?_
      subst hy
      cases hcon : cols.contains ((k : Nat) : Int) with
      | true =>
        have h16 : t.kind = 16 := by rw [← hkk]; exact hcol k hcon
        have f1 : eqI t.kind 20 = false := by rw [h16]; rfl
        have f2 : eqI t.kind 19 = false := by rw [h16]; rfl
        have f3 : eqI t.kind 17 = false := by rw [h16]; rfl
        simp -implicitDefEqProofs only [↓yRp, yRt, Nat.reduceAdd, Nat.reduceMul, Nat.reduceSub, Nat.reduceLeDiff, Nat.reduceEqDiff, if_true, if_false, reduceCtorEq, exists_eq_left', ne_eq, implies_true, Nat.reduceBEq, f1, f2, f3, w1]
        refine ⟨d - 1, [0, 1, 2], by omega, by decide, pinned_one _, k + 1, ?_, ?_, by omega, by omega, ?_⟩
        · simp only [yren.eq_1, yren.eq_2, yren.eq_3, yren.eq_4, renV.eq_1, renV.eq_2, renV.eq_3, renC.eq_1, renC.eq_2, renC.eq_3, renC.eq_4, renC.eq_5, renE.eq_1, renE.eq_2, renE.eq_3, renS.eq_1, renB.eq_1, renB.eq_2, renB.eq_3, slotIx_nil, slotIx_cons, nth_zero, nth_succ, yrow.eq_1, yrow.eq_2, Nat.reduceEqDiff, if_true, if_false, List.map_cons, List.map_nil, Nat.zero_add, Nat.add_zero, Nat.le_refl, and_self, and_true, true_and, List.drop_zero, take_map_len, take_map_snoc, snoc_len, List.length_map, List.length_append, List.length_cons, List.length_nil, Nat.reduceAdd, reduceCtorEq, Nat.one_ne_zero, List.set_set, hki1, colD, hiki, if_pos (show (openAt ts k).length = deep ∧ cols.contains ((k : Nat) : Int) = true from ⟨hlv, hcon⟩), encC]
        · simp only [yren.eq_1, yren.eq_2, yren.eq_3, yren.eq_4, renV.eq_1, renV.eq_2, renV.eq_3, renC.eq_1, renC.eq_2, renC.eq_3, renC.eq_4, renC.eq_5, renE.eq_1, renE.eq_2, renE.eq_3, renS.eq_1, renB.eq_1, renB.eq_2, renB.eq_3, slotIx_nil, slotIx_cons, nth_zero, nth_succ, yrow.eq_1, yrow.eq_2, Nat.reduceEqDiff, if_true, if_false, List.map_cons, List.map_nil, Nat.zero_add, Nat.add_zero, Nat.le_refl, and_self, and_true, true_and, List.drop_zero, take_map_len, take_map_snoc, snoc_len, List.length_map, List.length_append, List.length_cons, List.length_nil, Nat.reduceAdd, reduceCtorEq, Nat.one_ne_zero, List.set_set, tbC, pds]
        · rw [← hend, hd1, endD, if_neg (by rw [hkk]; simp [h16])]; rfl
      | false =>
        have hcolk : colD ts cols deep i (k - i + 1) = colD ts cols deep i (k - i) := by
          rw [colD, hiki, if_neg (fun h => by rw [hcon] at h; cases h.2)]
        by_cases q1 : t.kind = 20
        · have f1 : eqI t.kind 20 = true := by rw [q1]; rfl
          by_cases hdp : 0 < deep
          · have f4 : leI (deep : Nat) 0 = false := leI_false (by omega)
            have hen : endD ts deep (ts.length - i) i = k := by rw [← hend, hd1, endD, if_pos ⟨hlv, .inl ⟨by rw [hkk]; exact q1, hdp⟩⟩]
            have hnode : nodeD ts cols (nodesD ts cols n) i deep = leafD ts (colD ts cols deep i (k - i)) i k false := by
              simp only [nodeD, hen, hcolk]; rw [if_neg (by rw [hkk]; simp [q1]), if_pos hk]; simp [hkk, q1]
            simp -implicitDefEqProofs only [↓yRp, yRt, Nat.reduceAdd, Nat.reduceMul, Nat.reduceSub, Nat.reduceLeDiff, Nat.reduceEqDiff, if_true, if_false, reduceCtorEq, exists_eq_left', ne_eq, implies_true, Nat.reduceBEq, f1, f4]
            generalize hcx : colD ts cols deep i (k - i) = cx
            refine Rd_calm (by rw [C1_P]; kernel_rfl) ?_
            simp -implicitDefEqProofs only [↓yRp, yRt, Nat.reduceAdd, Nat.reduceMul, Nat.reduceSub, Nat.reduceLeDiff, Nat.reduceEqDiff, if_true, if_false, reduceCtorEq, exists_eq_left', ne_eq, implies_true, Nat.reduceBEq, sl1, sl2, slice_cells]
            refine Rcall_pure (tokens_spec _ (slice_len ts i (k - i) hl)).pure (by rfl) fun y hy => ?_
            subst hy
            cases hcc : cx with
            | none =>
              rw [hcc] at hcx
              have f5 : leI 0 (encC none) = false := rfl
              simp -implicitDefEqProofs only [↓yRp, yRt, Nat.reduceAdd, Nat.reduceMul, Nat.reduceSub, Nat.reduceLeDiff, Nat.reduceEqDiff, if_true, if_false, reduceCtorEq, exists_eq_left', ne_eq, implies_true, Nat.reduceBEq, f5, w1]
              refine ⟨[0], by decide, pinned_one _, ?_, ?_⟩
              · simp only [hnode, hcx, leafD, Nd.cs, pc_mk, List.map_cons, List.map_nil, Bool.false_eq_true, if_false]
                rfl
              · simp only [hnode, hcx, leafD, Bool.false_eq_true, if_false]
                rfl
            | some c =>
              rw [hcc] at hcx
              have hcl := colD_le hcx
              have f5 : leI 0 ((c : Nat) : Int) = true := leI_true (by omega)
              have hck : c < ts.length := by omega
              obtain ⟨u, hu⟩ := get_lt hck
              have hsu := startAt_some hu
              have enc : encC (some c) = ((c : Nat) : Int) := rfl
              have w4 : wrapK .i64 ((c : Int) + 1) = ((c + 1 : Nat) : Int) := wrap_succ (by omega)
              have sl3 : ((i : Nat) : Int) ≤ ((c : Nat) : Int) := by omega
              have sl4 : ((c : Nat) : Int) ≤ ((ts.length : Nat) : Int) := by omega
              simp -implicitDefEqProofs only [↓yRp, yRt, Nat.reduceAdd, Nat.reduceMul, Nat.reduceSub, Nat.reduceLeDiff, Nat.reduceEqDiff, if_true, if_false, reduceCtorEq, exists_eq_left', ne_eq, implies_true, Nat.reduceBEq, f5, enc, sl3, sl4, slice_cells]
              refine Rcall_pure (tokens_spec _ (slice_len ts i (c - i) hl)).pure (by rfl) fun y hy => ?_
              subst hy
              simp -implicitDefEqProofs only [↓yRp, yRt, Nat.reduceAdd, Nat.reduceMul, Nat.reduceSub, Nat.reduceLeDiff, Nat.reduceEqDiff, if_true, if_false, reduceCtorEq, exists_eq_left', ne_eq, implies_true, Nat.reduceBEq]
              refine Rd_calm (by rw [C1_P]; kernel_rfl) ?_
              have sl5 : ((c + 1 : Nat) : Int) ≤ ((k : Nat) : Int) := by have := hcl.2; omega
              simp -implicitDefEqProofs only [↓yRp, yRt, Nat.reduceAdd, Nat.reduceMul, Nat.reduceSub, Nat.reduceLeDiff, Nat.reduceEqDiff, if_true, if_false, reduceCtorEq, exists_eq_left', ne_eq, implies_true, Nat.reduceBEq, w4, sl5, sl2, slice_cells]
              refine Rcall_pure (tokens_spec _ (slice_len ts (c + 1) (k - (c + 1)) hl)).pure (by rfl) fun y hy => ?_
              subst hy
              simp -implicitDefEqProofs only [↓yRp, yRt, Nat.reduceAdd, Nat.reduceMul, Nat.reduceSub, Nat.reduceLeDiff, Nat.reduceEqDiff, if_true, if_false, reduceCtorEq, exists_eq_left', ne_eq, implies_true, Nat.reduceBEq, get_map hu, Tok.pc, w1]
              refine ⟨[0], by decide, pinned_one _, ?_, ?_⟩
              · simp only [hnode, hcx, leafD, hsu, Nd.cs, pc_mk, List.map_cons, List.map_nil, Bool.false_eq_true, if_false]
                rfl
              · simp only [hnode, hcx, leafD, Bool.false_eq_true, if_false]
                rfl
          · have f4 : leI (deep : Nat) 0 = true := leI_true (by omega)
            have f2 : eqI t.kind 19 = false := by rw [q1]; rfl
            have f3 : eqI t.kind 17 = false := by rw [q1]; rfl
            simp -implicitDefEqProofs only [↓yRp, yRt, Nat.reduceAdd, Nat.reduceMul, Nat.reduceSub, Nat.reduceLeDiff, Nat.reduceEqDiff, if_true, if_false, reduceCtorEq, exists_eq_left', ne_eq, implies_true, Nat.reduceBEq, f1, f2, f3, f4, w1]
            refine ⟨d - 1, [0, 1, 2], by omega, by decide, pinned_one _, k + 1, ?_, ?_, by omega, by omega, ?_⟩
            · simp only [yren.eq_1, yren.eq_2, yren.eq_3, yren.eq_4, renV.eq_1, renV.eq_2, renV.eq_3, renC.eq_1, renC.eq_2, renC.eq_3, renC.eq_4, renC.eq_5, renE.eq_1, renE.eq_2, renE.eq_3, renS.eq_1, renB.eq_1, renB.eq_2, renB.eq_3, slotIx_nil, slotIx_cons, nth_zero, nth_succ, yrow.eq_1, yrow.eq_2, Nat.reduceEqDiff, if_true, if_false, List.map_cons, List.map_nil, Nat.zero_add, Nat.add_zero, Nat.le_refl, and_self, and_true, true_and, List.drop_zero, take_map_len, take_map_snoc, snoc_len, List.length_map, List.length_append, List.length_cons, List.length_nil, Nat.reduceAdd, reduceCtorEq, Nat.one_ne_zero, List.set_set, hki1, colD, hiki, if_neg (show ¬ ((openAt ts k).length = deep ∧ cols.contains ((k : Nat) : Int) = true) from fun h => by rw [hcon] at h; cases h.2)]
            · simp only [yren.eq_1, yren.eq_2, yren.eq_3, yren.eq_4, renV.eq_1, renV.eq_2, renV.eq_3, renC.eq_1, renC.eq_2, renC.eq_3, renC.eq_4, renC.eq_5, renE.eq_1, renE.eq_2, renE.eq_3, renS.eq_1, renB.eq_1, renB.eq_2, renB.eq_3, slotIx_nil, slotIx_cons, nth_zero, nth_succ, yrow.eq_1, yrow.eq_2, Nat.reduceEqDiff, if_true, if_false, List.map_cons, List.map_nil, Nat.zero_add, Nat.add_zero, Nat.le_refl, and_self, and_true, true_and, List.drop_zero, take_map_len, take_map_snoc, snoc_len, List.length_map, List.length_append, List.length_cons, List.length_nil, Nat.reduceAdd, reduceCtorEq, Nat.one_ne_zero, List.set_set, tbC, pds]
            · rw [← hend, hd1, endD, if_neg (by rw [hkk]; simp [q1, hdp])]; rfl
        have f1 : eqI t.kind 20 = false := eqI_false q1
        by_cases q2 : t.kind = 19
        · have f2 : eqI t.kind 19 = true := by rw [q2]; rfl
          have hen : endD ts deep (ts.length - i) i = k := by rw [← hend, hd1, endD, if_pos ⟨hlv, .inr (.inl (by rw [hkk]; exact q2))⟩]
          have hnode : nodeD ts cols (nodesD ts cols n) i deep = ruleP ts (nodesD ts cols n) i k deep := by
            simp only [nodeD, hen]; rw [if_pos ⟨hk, by rw [hkk]; exact q2⟩]
          have w2 : wrapK .i64 ((deep : Int) + 1) = ((deep + 1 : Nat) : Int) := wrap_succ (by omega)
          simp -implicitDefEqProofs only [↓yRp, yRt, Nat.reduceAdd, Nat.reduceMul, Nat.reduceSub, Nat.reduceLeDiff, Nat.reduceEqDiff, if_true, if_false, reduceCtorEq, exists_eq_left', ne_eq, implies_true, Nat.reduceBEq, f1, f2]
          refine Rd_calm (by rw [C1_P]; kernel_rfl) ?_
          simp -implicitDefEqProofs only [↓yRp, yRt, Nat.reduceAdd, Nat.reduceMul, Nat.reduceSub, Nat.reduceLeDiff, Nat.reduceEqDiff, if_true, if_false, reduceCtorEq, exists_eq_left', ne_eq, implies_true, Nat.reduceBEq, sl1, sl2, slice_cells]
          refine Rcall_pure (tokens_spec _ (slice_len ts i (k - i) hl)).pure (by rfl) fun y hy => ?_
          subst hy
          simp -implicitDefEqProofs only [↓yRp, yRt, Nat.reduceAdd, Nat.reduceMul, Nat.reduceSub, Nat.reduceLeDiff, Nat.reduceEqDiff, if_true, if_false, reduceCtorEq, exists_eq_left', ne_eq, implies_true, Nat.reduceBEq, w1, w2]
          refine Rcall_hand 1 [.box (tbC ts cols (k + 1))] rfl (hn (k + 1) (deep + 1) (by omega) (by omega) (by omega)) (by simp) rfl (by rfl) fun y s' hy => ?_
          obtain ⟨rfl, rfl⟩ := hy
          refine ⟨rfl, ?_⟩
          obtain ⟨hj1, hj2⟩ := hin (k + 1) (deep + 1) (by omega)
          generalize hr : nodesD ts cols n (k + 1) (deep + 1) = r at hj1 hj2
          obtain ⟨kids, j⟩ := r
          simp only at hj1 hj2
          simp only [tbC]
          simp -implicitDefEqProofs only [↓yRp, yRt, Nat.reduceAdd, Nat.reduceMul, Nat.reduceSub, Nat.reduceLeDiff, Nat.reduceEqDiff, if_true, if_false, reduceCtorEq, exists_eq_left', ne_eq, implies_true, Nat.reduceBEq]
          refine Rd_calm (by rw [C1_P]; kernel_rfl) ?_
          by_cases hj : j < ts.length
          · obtain ⟨u, hu⟩ := get_lt hj
            have hsu := startAt_some hu
            have t5 : leI (ts.length : Nat) (j : Nat) = false := leI_false (by omega)
            have w3 : wrapK .i64 ((j : Int) + 1) = ((j + 1 : Nat) : Int) := wrap_succ (by omega)
            simp -implicitDefEqProofs only [↓yRp, yRt, Nat.reduceAdd, Nat.reduceMul, Nat.reduceSub, Nat.reduceLeDiff, Nat.reduceEqDiff, if_true, if_false, reduceCtorEq, exists_eq_left', ne_eq, implies_true, Nat.reduceBEq, t5]
            refine Rd_calm (by rw [C1_P]; kernel_rfl) ?_
            simp -implicitDefEqProofs only [↓yRp, yRt, Nat.reduceAdd, Nat.reduceMul, Nat.reduceSub, Nat.reduceLeDiff, Nat.reduceEqDiff, if_true, if_false, reduceCtorEq, exists_eq_left', ne_eq, implies_true, Nat.reduceBEq, get_map hu, Tok.pc, w3]
            refine ⟨[0], by decide, pinned_one _, ?_, ?_⟩
            · simp only [hnode, ruleP, hr, if_pos hj, hst, hsu, Nd.cs, pc_mk, List.map_cons, List.map_nil, decide_eq_true hj]
              rfl
            · simp only [hnode, ruleP, hr, if_pos hj]
              rfl
          · have t5 : leI (ts.length : Nat) (j : Nat) = true := leI_true (by omega)
            simp -implicitDefEqProofs only [↓yRp, yRt, Nat.reduceAdd, Nat.reduceMul, Nat.reduceSub, Nat.reduceLeDiff, Nat.reduceEqDiff, if_true, if_false, reduceCtorEq, exists_eq_left', ne_eq, implies_true, Nat.reduceBEq, t5]
            refine ⟨[0], by decide, pinned_one _, ?_, ?_⟩
            · simp only [hnode, ruleP, hr, if_neg hj, hst, Nd.cs, pc_mk, List.map_cons, List.map_nil, decide_eq_false hj]
              rfl
            · simp only [hnode, ruleP, hr, if_neg hj]
              rfl
        have f2 : eqI t.kind 19 = false := eqI_false q2
        by_cases q3 : t.kind = 17
        · have f3 : eqI t.kind 17 = true := by rw [q3]; rfl
          have hen : endD ts deep (ts.length - i) i = k := by rw [← hend, hd1, endD, if_pos ⟨hlv, .inr (.inr (by rw [hkk]; exact q3))⟩]
          have hnode : nodeD ts cols (nodesD ts cols n) i deep = leafD ts (colD ts cols deep i (k - i)) i k true := by
            simp only [nodeD, hen, hcolk]; rw [if_neg (by rw [hkk]; simp [q3]), if_pos hk]; simp [hkk, q3]
          simp -implicitDefEqProofs only [↓yRp, yRt, Nat.reduceAdd, Nat.reduceMul, Nat.reduceSub, Nat.reduceLeDiff, Nat.reduceEqDiff, if_true, if_false, reduceCtorEq, exists_eq_left', ne_eq, implies_true, Nat.reduceBEq, f1, f2, f3]
          generalize hcx : colD ts cols deep i (k - i) = cx
          refine Rd_calm (by rw [C1_P]; kernel_rfl) ?_
          simp -implicitDefEqProofs only [↓yRp, yRt, Nat.reduceAdd, Nat.reduceMul, Nat.reduceSub, Nat.reduceLeDiff, Nat.reduceEqDiff, if_true, if_false, reduceCtorEq, exists_eq_left', ne_eq, implies_true, Nat.reduceBEq, sl1, sl2, slice_cells]
          refine Rcall_pure (tokens_spec _ (slice_len ts i (k - i) hl)).pure (by rfl) fun y hy => ?_
          subst hy
          cases hcc : cx with
          | none =>
            rw [hcc] at hcx
            have f5 : leI 0 (encC none) = false := rfl
            simp -implicitDefEqProofs only [↓yRp, yRt, Nat.reduceAdd, Nat.reduceMul, Nat.reduceSub, Nat.reduceLeDiff, Nat.reduceEqDiff, if_true, if_false, reduceCtorEq, exists_eq_left', ne_eq, implies_true, Nat.reduceBEq, f5, w1]
            refine ⟨[0], by decide, pinned_one _, ?_, ?_⟩
            · simp only [hnode, hcx, leafD, hst, Nd.cs, pc_mk, List.map_cons, List.map_nil, if_true]
              rfl
            · simp only [hnode, hcx, leafD, if_true]
              rfl
          | some c =>
            rw [hcc] at hcx
            have hcl := colD_le hcx
            have f5 : leI 0 ((c : Nat) : Int) = true := leI_true (by omega)
            have hck : c < ts.length := by omega
            obtain ⟨u, hu⟩ := get_lt hck
            have hsu := startAt_some hu
            have enc : encC (some c) = ((c : Nat) : Int) := rfl
            have w4 : wrapK .i64 ((c : Int) + 1) = ((c + 1 : Nat) : Int) := wrap_succ (by omega)
            have sl3 : ((i : Nat) : Int) ≤ ((c : Nat) : Int) := by omega
            have sl4 : ((c : Nat) : Int) ≤ ((ts.length : Nat) : Int) := by omega
            simp -implicitDefEqProofs only [↓yRp, yRt, Nat.reduceAdd, Nat.reduceMul, Nat.reduceSub, Nat.reduceLeDiff, Nat.reduceEqDiff, if_true, if_false, reduceCtorEq, exists_eq_left', ne_eq, implies_true, Nat.reduceBEq, f5, enc, sl3, sl4, slice_cells]
            refine Rcall_pure (tokens_spec _ (slice_len ts i (c - i) hl)).pure (by rfl) fun y hy => ?_
            subst hy
            simp -implicitDefEqProofs only [↓yRp, yRt, Nat.reduceAdd, Nat.reduceMul, Nat.reduceSub, Nat.reduceLeDiff, Nat.reduceEqDiff, if_true, if_false, reduceCtorEq, exists_eq_left', ne_eq, implies_true, Nat.reduceBEq]
            refine Rd_calm (by rw [C1_P]; kernel_rfl) ?_
            have sl5 : ((c + 1 : Nat) : Int) ≤ ((k : Nat) : Int) := by have := hcl.2; omega
            simp -implicitDefEqProofs only [↓yRp, yRt, Nat.reduceAdd, Nat.reduceMul, Nat.reduceSub, Nat.reduceLeDiff, Nat.reduceEqDiff, if_true, if_false, reduceCtorEq, exists_eq_left', ne_eq, implies_true, Nat.reduceBEq, w4, sl5, sl2, slice_cells]
            refine Rcall_pure (tokens_spec _ (slice_len ts (c + 1) (k - (c + 1)) hl)).pure (by rfl) fun y hy => ?_
            subst hy
            simp -implicitDefEqProofs only [↓yRp, yRt, Nat.reduceAdd, Nat.reduceMul, Nat.reduceSub, Nat.reduceLeDiff, Nat.reduceEqDiff, if_true, if_false, reduceCtorEq, exists_eq_left', ne_eq, implies_true, Nat.reduceBEq, get_map hu, Tok.pc, w1]
            refine ⟨[0], by decide, pinned_one _, ?_, ?_⟩
            · simp only [hnode, hcx, leafD, hsu, hst, Nd.cs, pc_mk, List.map_cons, List.map_nil, if_true]
              rfl
            · simp only [hnode, hcx, leafD, if_true]
              rfl
        · have f3 : eqI t.kind 17 = false := eqI_false q3
          simp -implicitDefEqProofs only [↓yRp, yRt, Nat.reduceAdd, Nat.reduceMul, Nat.reduceSub, Nat.reduceLeDiff, Nat.reduceEqDiff, if_true, if_false, reduceCtorEq, exists_eq_left', ne_eq, implies_true, Nat.reduceBEq, f1, f2, f3, w1]
          refine ⟨d - 1, [0, 1, 2], by omega, by decide, pinned_one _, k + 1, ?_, ?_, by omega, by omega, ?_⟩
          · simp only [yren.eq_1, yren.eq_2, yren.eq_3, yren.eq_4, renV.eq_1, renV.eq_2, renV.eq_3, renC.eq_1, renC.eq_2, renC.eq_3, renC.eq_4, renC.eq_5, renE.eq_1, renE.eq_2, renE.eq_3, renS.eq_1, renB.eq_1, renB.eq_2, renB.eq_3, slotIx_nil, slotIx_cons, nth_zero, nth_succ, yrow.eq_1, yrow.eq_2, Nat.reduceEqDiff, if_true, if_false, List.map_cons, List.map_nil, Nat.zero_add, Nat.add_zero, Nat.le_refl, and_self, and_true, true_and, List.drop_zero, take_map_len, take_map_snoc, snoc_len, List.length_map, List.length_append, List.length_cons, List.length_nil, Nat.reduceAdd, reduceCtorEq, Nat.one_ne_zero, List.set_set, hki1, colD, hiki, if_neg (show ¬ ((openAt ts k).length = deep ∧ cols.contains ((k : Nat) : Int) = true) from fun h => by rw [hcon] at h; cases h.2)]
          · simp only [yren.eq_1, yren.eq_2, yren.eq_3, yren.eq_4, renV.eq_1, renV.eq_2, renV.eq_3, renC.eq_1, renC.eq_2, renC.eq_3, renC.eq_4, renC.eq_5, renE.eq_1, renE.eq_2, renE.eq_3, renS.eq_1, renB.eq_1, renB.eq_2, renB.eq_3, slotIx_nil, slotIx_cons, nth_zero, nth_succ, yrow.eq_1, yrow.eq_2, Nat.reduceEqDiff, if_true, if_false, List.map_cons, List.map_nil, Nat.zero_add, Nat.add_zero, Nat.le_refl, and_self, and_true, true_and, List.drop_zero, take_map_len, take_map_snoc, snoc_len, List.length_map, List.length_append, List.length_cons, List.length_nil, Nat.reduceAdd, reduceCtorEq, Nat.one_ne_zero, List.set_set, tbC, pds]
          · rw [← hend, hd1, endD, if_neg (by rw [hkk]; simp [q1, q2, q3])]; rfl
    · have e1 : eqI ((openAt ts k).length : Nat) (deep : Nat) = false := eqI_false (by omega)
      simp -implicitDefEqProofs only [↓yRp, yRt, Nat.reduceAdd, Nat.reduceMul, Nat.reduceSub, Nat.reduceLeDiff, Nat.reduceEqDiff, if_true, if_false, reduceCtorEq, exists_eq_left', ne_eq, implies_true, Nat.reduceBEq, get_map hn1, e2, e1, w1]
      refine ⟨d - 1, [0, 1, 2], by omega, by decide, pinned_one _, k + 1, ?_, ?_, by omega, by omega, ?_⟩
      · simp only [yren.eq_1, yren.eq_2, yren.eq_3, yren.eq_4, renV.eq_1, renV.eq_2, renV.eq_3, renC.eq_1, renC.eq_2, renC.eq_3, renC.eq_4, renC.eq_5, renE.eq_1, renE.eq_2, renE.eq_3, renS.eq_1, renB.eq_1, renB.eq_2, renB.eq_3, slotIx_nil, slotIx_cons, nth_zero, nth_succ, yrow.eq_1, yrow.eq_2, Nat.reduceEqDiff, if_true, if_false, List.map_cons, List.map_nil, Nat.zero_add, Nat.add_zero, Nat.le_refl, and_self, and_true, true_and, List.drop_zero, take_map_len, take_map_snoc, snoc_len, List.length_map, List.length_append, List.length_cons, List.length_nil, Nat.reduceAdd, reduceCtorEq, Nat.one_ne_zero, List.set_set, hki1, colD, hiki, if_neg (show ¬ ((openAt ts k).length = deep ∧ cols.contains ((k : Nat) : Int) = true) from fun h => hlv h.1)]
      · simp only [yren.eq_1, yren.eq_2, yren.eq_3, yren.eq_4, renV.eq_1, renV.eq_2, renV.eq_3, renC.eq_1, renC.eq_2, renC.eq_3, renC.eq_4, renC.eq_5, renE.eq_1, renE.eq_2, renE.eq_3, renS.eq_1, renB.eq_1, renB.eq_2, renB.eq_3, slotIx_nil, slotIx_cons, nth_zero, nth_succ, yrow.eq_1, yrow.eq_2, Nat.reduceEqDiff, if_true, if_false, List.map_cons, List.map_nil, Nat.zero_add, Nat.add_zero, Nat.le_refl, and_self, and_true, true_and, List.drop_zero, take_map_len, take_map_snoc, snoc_len, List.length_map, List.length_append, List.length_cons, List.length_nil, Nat.reduceAdd, reduceCtorEq, Nat.one_ne_zero, List.set_set, tbC, pds]
      · rw [← hend, hd1, endD, if_neg (fun h => hlv h.1)]; rfl
  · have t1 : leI (ts.length : Nat) (k : Nat) = true := leI_true (by omega)
    have hd0 : d = 0 := by omega
    have hkl : k = ts.length := by omega
    have w1 : True := trivial
    have sl1 : ((i : Nat) : Int) ≤ ((k : Nat) : Int) := by omega
    have sl2 : ((k : Nat) : Int) ≤ ((ts.length : Nat) : Int) := by omega
    have hen : endD ts deep (ts.length - i) i = k := by rw [← hend, hd0, endD]
    have hnode : nodeD ts cols (nodesD ts cols n) i deep = leafD ts (colD ts cols deep i (k - i)) i k false := by
      simp only [nodeD, hen]; rw [if_neg (fun h => hk h.1), if_neg hk]
    simp -implicitDefEqProofs only [↓yRp, yRt, Nat.reduceAdd, Nat.reduceMul, Nat.reduceSub, Nat.reduceLeDiff, Nat.reduceEqDiff, if_true, if_false, reduceCtorEq, exists_eq_left', ne_eq, implies_true, Nat.reduceBEq]
    refine Rd_calm (by rw [C1_P]; kernel_rfl) ?_
    simp -implicitDefEqProofs only [↓yRp, yRt, Nat.reduceAdd, Nat.reduceMul, Nat.reduceSub, Nat.reduceLeDiff, Nat.reduceEqDiff, if_true, if_false, reduceCtorEq, exists_eq_left', ne_eq, implies_true, Nat.reduceBEq, t1]
    generalize hcx : colD ts cols deep i (k - i) = cx
    refine Rd_calm (by rw [C1_P]; kernel_rfl) ?_
    simp -implicitDefEqProofs only [↓yRp, yRt, Nat.reduceAdd, Nat.reduceMul, Nat.reduceSub, Nat.reduceLeDiff, Nat.reduceEqDiff, if_true, if_false, reduceCtorEq, exists_eq_left', ne_eq, implies_true, Nat.reduceBEq, sl1, sl2, slice_cells]
    refine Rcall_pure (tokens_spec _ (slice_len ts i (k - i) hl)).pure (by rfl) fun y hy => ?_
    subst hy
    cases hcc : cx with
    | none =>
      rw [hcc] at hcx
      have f5 : leI 0 (encC none) = false := rfl
      simp -implicitDefEqProofs only [↓yRp, yRt, Nat.reduceAdd, Nat.reduceMul, Nat.reduceSub, Nat.reduceLeDiff, Nat.reduceEqDiff, if_true, if_false, reduceCtorEq, exists_eq_left', ne_eq, implies_true, Nat.reduceBEq, f5, w1]
      refine ⟨[0], by decide, pinned_one _, ?_, ?_⟩
      · simp only [hnode, hcx, leafD, Nd.cs, pc_mk, List.map_cons, List.map_nil, Bool.false_eq_true, if_false]
        rfl
      · simp only [hnode, hcx, leafD, Bool.false_eq_true, if_false]
        rfl
    | some c =>
      rw [hcc] at hcx
      have hcl := colD_le hcx
      have f5 : leI 0 ((c : Nat) : Int) = true := leI_true (by omega)
      have hck : c < ts.length := by omega
      obtain ⟨u, hu⟩ := get_lt hck
      have hsu := startAt_some hu
      have enc : encC (some c) = ((c : Nat) : Int) := rfl
      have w4 : wrapK .i64 ((c : Int) + 1) = ((c + 1 : Nat) : Int) := wrap_succ (by omega)
      have sl3 : ((i : Nat) : Int) ≤ ((c : Nat) : Int) := by omega
      have sl4 : ((c : Nat) : Int) ≤ ((ts.length : Nat) : Int) := by omega
      simp -implicitDefEqProofs only [↓yRp, yRt, Nat.reduceAdd, Nat.reduceMul, Nat.reduceSub, Nat.reduceLeDiff, Nat.reduceEqDiff, if_true, if_false, reduceCtorEq, exists_eq_left', ne_eq, implies_true, Nat.reduceBEq, f5, enc, sl3, sl4, slice_cells]
      refine Rcall_pure (tokens_spec _ (slice_len ts i (c - i) hl)).pure (by rfl) fun y hy => ?_
      subst hy
      simp -implicitDefEqProofs only [↓yRp, yRt, Nat.reduceAdd, Nat.reduceMul, Nat.reduceSub, Nat.reduceLeDiff, Nat.reduceEqDiff, if_true, if_false, reduceCtorEq, exists_eq_left', ne_eq, implies_true, Nat.reduceBEq]
      refine Rd_calm (by rw [C1_P]; kernel_rfl) ?_
      have sl5 : ((c + 1 : Nat) : Int) ≤ ((k : Nat) : Int) := by have := hcl.2; omega
      simp -implicitDefEqProofs only [↓yRp, yRt, Nat.reduceAdd, Nat.reduceMul, Nat.reduceSub, Nat.reduceLeDiff, Nat.reduceEqDiff, if_true, if_false, reduceCtorEq, exists_eq_left', ne_eq, implies_true, Nat.reduceBEq, w4, sl5, sl2, slice_cells]
      refine Rcall_pure (tokens_spec _ (slice_len ts (c + 1) (k - (c + 1)) hl)).pure (by rfl) fun y hy => ?_
      subst hy
      simp -implicitDefEqProofs only [↓yRp, yRt, Nat.reduceAdd, Nat.reduceMul, Nat.reduceSub, Nat.reduceLeDiff, Nat.reduceEqDiff, if_true, if_false, reduceCtorEq, exists_eq_left', ne_eq, implies_true, Nat.reduceBEq, get_map hu, Tok.pc, w1]
      refine ⟨[0], by decide, pinned_one _, ?_, ?_⟩
      · simp only [hnode, hcx, leafD, hsu, Nd.cs, pc_mk, List.map_cons, List.map_nil, Bool.false_eq_true, if_false]
        rfl
      · simp only [hnode, hcx, leafD, Bool.false_eq_true, if_false]
        rfl
end Go.Vx.Seat
end
/- The document's nodes and Parse. -/
section
open Go Go.Vx Go.Proofs
set_option linter.unusedSimpArgs false
set_option linter.unusedVariables false
set_option maxRecDepth 10000
set_option maxHeartbeats 4000000
namespace Go.Vx.Seat
attribute [local congr] Rg_at Rt_at Ro_at Ri_at Rc_at Rto_at Rtk_at Rtf_at Rti_at
theorem leafD_in (ts : List Tok) (c : Option Nat) (i k : Nat) (semi : Bool) : (leafD ts c i k semi).2 = if semi then k + 1 else k := rfl
theorem nodeD_in (ts : List Tok) (cols : List Int) (rec : Nat → Nat → List Nd × Nat) (hin : In ts rec) (i deep : Nat) (hi : i < ts.length) (ho : shutD ts deep i = false) : i < (nodeD ts cols rec i deep).2 ∧ (nodeD ts cols rec i deep).2 ≤ ts.length := by
  have hs := endD_le ts deep (ts.length - i) i
  have hgt : endD ts deep (ts.length - i) i = i → kindAt ts i = 19 ∨ kindAt ts i = 17 := by
    intro he
    rw [show ts.length - i = (ts.length - i - 1) + 1 by omega, endD] at he
    by_cases hq : (openAt ts i).length = deep ∧ ((kindAt ts i = 20 ∧ 0 < deep) ∨ kindAt ts i = 19 ∨ kindAt ts i = 17)
    · rcases hq.2 with h | h
      · exfalso
        simp [shutD, hq.1, h.1, h.2] at ho
      · exact h
    · rw [if_neg hq] at he
      have := endD_le ts deep (ts.length - i - 1) (i + 1)
      omega
  unfold nodeD
  simp only
  generalize endD ts deep (ts.length - i) i = k at hs hgt
  split
  · rename_i hq
    have hk := hq.1
    have := hin (k + 1) (deep + 1) (by omega)
    unfold ruleP
    simp only
    split
    · omega
    · omega
  · rename_i hnr
    split
    · rename_i hk
      rw [leafD_in]
      by_cases h17 : kindAt ts k = 17
      · simp [h17]; omega
      · simp [h17]
        have : k ≠ i := fun he => by subst he; rcases hgt rfl with h | h; exact hnr ⟨hk, h⟩; exact h17 h
        omega
    · rw [leafD_in]; simp; omega
theorem nodesD_in (ts : List Tok) (cols : List Int) : ∀ n, In ts (nodesD ts cols n)
  | 0 => fun i deep hi => by simp [nodesD]; exact hi
  | n + 1 => fun i deep hi => by
    unfold nodesD
    split
    · rename_i ho
      have h1 := nodeD_in ts cols _ (nodesD_in ts cols n) i deep ho.1 ho.2
      have h2 := nodesD_in ts cols n (nodeD ts cols (nodesD ts cols n) i deep).2 deep h1.2
      simp only
      omega
    · simp; exact hi

theorem nodesD_spec (ts : List Tok) (cols : List Int) (hl : ts.length ≤ 1000000) (hcl0 : cols.length ≤ 1000000) (hcol : ∀ k : Nat, cols.contains (k : Int) = true → kindAt ts k = 16) (n : Nat) : NodesSpecD ts cols n := by
  induction n using Nat.strongRecOn with
  | _ n ih =>
  intro i0 deep hdi0 hi0 hf0
  refine Yf0 [] (by rfl) (by rfl) fn28 (by rfl) ?_
  simp only [Try.f28, List.length_cons, List.length_nil, List.replicate, List.cons_append, List.nil_append, tbC]
  simp -implicitDefEqProofs only [↓yRp, yRt, Nat.reduceAdd, Nat.reduceMul, Nat.reduceSub, Nat.reduceLeDiff, Nat.reduceEqDiff, if_true, if_false, reduceCtorEq, exists_eq_left', ne_eq, implies_true, Nat.reduceBEq]
  refine Rl_nil 5 9 (by decide) rfl ?_
  refine Rl_inv (fun d e s => ∃ (m i : Nat) (acc : List Nd), e = [.c (.ptr 0 0 0 0), yd (.int .i64 deep), .c .top, .c .top, .c .top, .c (.own 1 9 0 acc.length), .c .top, .c .top, .c .top, .c .top, .c .top, .c .top, .c .top, .c .top, .c .top, .c .top, .c .top, .c .top, .c .top, .c .top, .c .top, .c .top, .c .top, .c .top, .c .top, .c .top, .c .top, .c .top, .c .top, .c .top, .c .top, .c .top, .c .top, .c .top, .c .top, .c .top, .c .top, .c .top, .c .top, .c .top, .c .top, .c .top, .c .top, .c .top, .c .top, .c .top, .c .top, .c .top, .c .top, .c .top, .c .top, .c .top, .c .top, .c .top, .c .top, .c .top, .c .top] ∧ s = [.box (tbC ts cols i), .row 9 (acc.map Nd.pc)] ∧ m = d ∧ m ≤ n ∧ ts.length - i ≤ m ∧ deep ≤ i ∧ i ≤ ts.length ∧ acc.length ≤ i ∧ acc ++ (nodesD ts cols m i deep).1 = (nodesD ts cols n i0 deep).1 ∧ (nodesD ts cols m i deep).2 = (nodesD ts cols n i0 deep).2)
    [true, true, false, false, false, true] n [0, 1] (by decide) (pinned_one _) ⟨n, i0, [], rfl, rfl, rfl, Nat.le_refl _, hf0, hdi0, hi0, by simp, by simp, rfl⟩ ?_
  rintro d e s ⟨m, i, acc, rfl, rfl, rfl, hmn, hf, hdi, hi, hacc, hout, hend⟩
  simp only [tbC]
  simp -implicitDefEqProofs only [↓yRp, yRt, Nat.reduceAdd, Nat.reduceMul, Nat.reduceSub, Nat.reduceLeDiff, Nat.reduceEqDiff, if_true, if_false, reduceCtorEq, exists_eq_left', ne_eq, implies_true, Nat.reduceBEq]
  refine Rd_calm (by rw [C1_P]; kernel_rfl) ?_
  by_cases hil : i < ts.length
  · obtain ⟨t, ht⟩ := get_lt hil
    have hkk := kindAt_some ht
    have hn1 := nest_at ts hil
    have t1 : leI (ts.length : Nat) (i : Nat) = false := leI_false (by omega)
    cases hsh : shutD ts deep i with
    | true =>
      have hres : nodesD ts cols m i deep = ([], i) := by
        cases m with
        | zero => rfl
        | succ m => rw [nodesD, hsh]; simp
      rw [hres] at hout hend
      simp only [List.append_nil] at hout hend
      simp only [shutD, Bool.and_eq_true, decide_eq_true_eq] at hsh
      obtain ⟨⟨k20, hd0⟩, hlv⟩ := hsh
      rw [hkk] at k20
      have f1 : eqI t.kind 20 = true := by rw [k20]; rfl
      have f2 : leI (deep : Nat) 0 = false := leI_false (by omega)
      have f3 : eqI ((openAt ts i).length : Nat) (deep : Nat) = true := by rw [hlv]; exact eqI_true _
      simp -implicitDefEqProofs only [↓yRp, yRt, Nat.reduceAdd, Nat.reduceMul, Nat.reduceSub, Nat.reduceLeDiff, Nat.reduceEqDiff, if_true, if_false, reduceCtorEq, exists_eq_left', ne_eq, implies_true, Nat.reduceBEq, t1, get_map ht, Tok.pc, get_map hn1, e2, f1, f2, f3]
      refine ⟨[0], by decide, pinned_one _, ?_, ?_⟩
      · simp only [yren.eq_1, yren.eq_2, yren.eq_3, yren.eq_4, renV.eq_1, renV.eq_2, renV.eq_3, renC.eq_1, renC.eq_2, renC.eq_3, renC.eq_4, renC.eq_5, renE.eq_1, renE.eq_2, renE.eq_3, renS.eq_1, renB.eq_1, renB.eq_2, renB.eq_3, slotIx_nil, slotIx_cons, nth_zero, nth_succ, yrow.eq_1, yrow.eq_2, Nat.reduceEqDiff, if_true, if_false, List.map_cons, List.map_nil, Nat.zero_add, Nat.add_zero, Nat.le_refl, and_self, and_true, true_and, List.drop_zero, take_map_len, take_map_snoc, snoc_len, List.length_map, List.length_append, List.length_cons, List.length_nil, Nat.reduceAdd, reduceCtorEq, Nat.one_ne_zero, List.set_set, ← hout]; rfl
      · simp only [yren.eq_1, yren.eq_2, yren.eq_3, yren.eq_4, renV.eq_1, renV.eq_2, renV.eq_3, renC.eq_1, renC.eq_2, renC.eq_3, renC.eq_4, renC.eq_5, renE.eq_1, renE.eq_2, renE.eq_3, renS.eq_1, renB.eq_1, renB.eq_2, renB.eq_3, slotIx_nil, slotIx_cons, nth_zero, nth_succ, yrow.eq_1, yrow.eq_2, Nat.reduceEqDiff, if_true, if_false, List.map_cons, List.map_nil, Nat.zero_add, Nat.add_zero, Nat.le_refl, and_self, and_true, true_and, List.drop_zero, take_map_len, take_map_snoc, snoc_len, List.length_map, List.length_append, List.length_cons, List.length_nil, Nat.reduceAdd, reduceCtorEq, Nat.one_ne_zero, List.set_set, ← hend, tbC]
    | false =>
      obtain ⟨m, rfl⟩ : ∃ m', m = m' + 1 := ⟨m - 1, by omega⟩
      have hin := nodesD_in ts cols m
      have hx := nodeD_in ts cols _ hin i deep hil hsh
      have hnode := nodeD_spec ts cols m hl hcl0 hcol (ih m (by omega)) hin i deep hil hdi (by omega)
      have hres : nodesD ts cols (m + 1) i deep = ((nodeD ts cols (nodesD ts cols m) i deep).1 :: (nodesD ts cols m (nodeD ts cols (nodesD ts cols m) i deep).2 deep).1, (nodesD ts cols m (nodeD ts cols (nodesD ts cols m) i deep).2 deep).2) := by
        rw [nodesD, if_pos ⟨hil, hsh⟩]
      rw [hres] at hout hend
      have b1 : (acc.length + 1) * 104 ≤ 70368744177664 := by omega
      by_cases k20 : t.kind = 20
      · have f1 : eqI t.kind 20 = true := by rw [k20]; rfl
        by_cases hd0 : 0 < deep
        · have f2 : leI (deep : Nat) 0 = false := leI_false (by omega)
          have hlv : ¬ (openAt ts i).length = deep := fun h => by simp [shutD, hkk, k20, hd0, h] at hsh
          have f3 : eqI ((openAt ts i).length : Nat) (deep : Nat) = false := eqI_false (by omega)
          simp -implicitDefEqProofs only [↓yRp, yRt, Nat.reduceAdd, Nat.reduceMul, Nat.reduceSub, Nat.reduceLeDiff, Nat.reduceEqDiff, if_true, if_false, reduceCtorEq, exists_eq_left', ne_eq, implies_true, Nat.reduceBEq, t1, get_map ht, Tok.pc, get_map hn1, e2, f1, f2, f3]
          refine Rcall_hand 1 [.box (tbC ts cols i)] rfl hnode (by simp) rfl (by rfl) fun y s' hy => ?_
          obtain ⟨rfl, rfl⟩ := hy
          refine ⟨rfl, ?_⟩
          generalize hr : nodeD ts cols (nodesD ts cols m) i deep = r at hx hout hend
          obtain ⟨⟨k0, h0, t0, ks0, o0, s0, m0, a0, l0⟩, j⟩ := r
          simp only [tbC, Nd.cs, pc_mk, List.map_cons, List.map_nil]
          simp -implicitDefEqProofs only [↓yRp, yRt, Nat.reduceAdd, Nat.reduceMul, Nat.reduceSub, Nat.reduceLeDiff, Nat.reduceEqDiff, if_true, if_false, reduceCtorEq, exists_eq_left', ne_eq, implies_true, Nat.reduceBEq, b1]
          refine ⟨m, [0, 3], by omega, by decide, pinned_one _, m, j, acc ++ [.mk k0 h0 t0 ks0 o0 s0 m0 a0 l0], ?_, ?_, rfl, by omega, by simp only at hx; omega, by simp only at hx; omega, by simp only at hx; omega, by simp only at hx; simp; omega, ?_, hend⟩
          · simp only [yren.eq_1, yren.eq_2, yren.eq_3, yren.eq_4, renV.eq_1, renV.eq_2, renV.eq_3, renC.eq_1, renC.eq_2, renC.eq_3, renC.eq_4, renC.eq_5, renE.eq_1, renE.eq_2, renE.eq_3, renS.eq_1, renB.eq_1, renB.eq_2, renB.eq_3, slotIx_nil, slotIx_cons, nth_zero, nth_succ, yrow.eq_1, yrow.eq_2, Nat.reduceEqDiff, if_true, if_false, List.map_cons, List.map_nil, Nat.zero_add, Nat.add_zero, Nat.le_refl, and_self, and_true, true_and, List.drop_zero, take_map_len, take_map_snoc, snoc_len, List.length_map, List.length_append, List.length_cons, List.length_nil, Nat.reduceAdd, reduceCtorEq, Nat.one_ne_zero, List.set_set]
          · simp only [yren.eq_1, yren.eq_2, yren.eq_3, yren.eq_4, renV.eq_1, renV.eq_2, renV.eq_3, renC.eq_1, renC.eq_2, renC.eq_3, renC.eq_4, renC.eq_5, renE.eq_1, renE.eq_2, renE.eq_3, renS.eq_1, renB.eq_1, renB.eq_2, renB.eq_3, slotIx_nil, slotIx_cons, nth_zero, nth_succ, yrow.eq_1, yrow.eq_2, Nat.reduceEqDiff, if_true, if_false, List.map_cons, List.map_nil, Nat.zero_add, Nat.add_zero, Nat.le_refl, and_self, and_true, true_and, List.drop_zero, take_map_len, take_map_snoc, snoc_len, List.length_map, List.length_append, List.length_cons, List.length_nil, Nat.reduceAdd, reduceCtorEq, Nat.one_ne_zero, List.set_set, List.map_append, pc_mk, tbC]
          · rw [← hout]; simp
        · have f2 : leI (deep : Nat) 0 = true := leI_true (by omega)
          simp -implicitDefEqProofs only [↓yRp, yRt, Nat.reduceAdd, Nat.reduceMul, Nat.reduceSub, Nat.reduceLeDiff, Nat.reduceEqDiff, if_true, if_false, reduceCtorEq, exists_eq_left', ne_eq, implies_true, Nat.reduceBEq, t1, get_map ht, Tok.pc, get_map hn1, e2, f1, f2]
          refine Rcall_hand 1 [.box (tbC ts cols i)] rfl hnode (by simp) rfl (by rfl) fun y s' hy => ?_
          obtain ⟨rfl, rfl⟩ := hy
          refine ⟨rfl, ?_⟩
          generalize hr : nodeD ts cols (nodesD ts cols m) i deep = r at hx hout hend
          obtain ⟨⟨k0, h0, t0, ks0, o0, s0, m0, a0, l0⟩, j⟩ := r
          simp only [tbC, Nd.cs, pc_mk, List.map_cons, List.map_nil]
          simp -implicitDefEqProofs only [↓yRp, yRt, Nat.reduceAdd, Nat.reduceMul, Nat.reduceSub, Nat.reduceLeDiff, Nat.reduceEqDiff, if_true, if_false, reduceCtorEq, exists_eq_left', ne_eq, implies_true, Nat.reduceBEq, b1]
          refine ⟨m, [0, 3], by omega, by decide, pinned_one _, m, j, acc ++ [.mk k0 h0 t0 ks0 o0 s0 m0 a0 l0], ?_, ?_, rfl, by omega, by simp only at hx; omega, by simp only at hx; omega, by simp only at hx; omega, by simp only at hx; simp; omega, ?_, hend⟩
          · simp only [yren.eq_1, yren.eq_2, yren.eq_3, yren.eq_4, renV.eq_1, renV.eq_2, renV.eq_3, renC.eq_1, renC.eq_2, renC.eq_3, renC.eq_4, renC.eq_5, renE.eq_1, renE.eq_2, renE.eq_3, renS.eq_1, renB.eq_1, renB.eq_2, renB.eq_3, slotIx_nil, slotIx_cons, nth_zero, nth_succ, yrow.eq_1, yrow.eq_2, Nat.reduceEqDiff, if_true, if_false, List.map_cons, List.map_nil, Nat.zero_add, Nat.add_zero, Nat.le_refl, and_self, and_true, true_and, List.drop_zero, take_map_len, take_map_snoc, snoc_len, List.length_map, List.length_append, List.length_cons, List.length_nil, Nat.reduceAdd, reduceCtorEq, Nat.one_ne_zero, List.set_set]
          · simp only [yren.eq_1, yren.eq_2, yren.eq_3, yren.eq_4, renV.eq_1, renV.eq_2, renV.eq_3, renC.eq_1, renC.eq_2, renC.eq_3, renC.eq_4, renC.eq_5, renE.eq_1, renE.eq_2, renE.eq_3, renS.eq_1, renB.eq_1, renB.eq_2, renB.eq_3, slotIx_nil, slotIx_cons, nth_zero, nth_succ, yrow.eq_1, yrow.eq_2, Nat.reduceEqDiff, if_true, if_false, List.map_cons, List.map_nil, Nat.zero_add, Nat.add_zero, Nat.le_refl, and_self, and_true, true_and, List.drop_zero, take_map_len, take_map_snoc, snoc_len, List.length_map, List.length_append, List.length_cons, List.length_nil, Nat.reduceAdd, reduceCtorEq, Nat.one_ne_zero, List.set_set, List.map_append, pc_mk, tbC]
          · rw [← hout]; simp
      · have f1 : eqI t.kind 20 = false := eqI_false k20
        simp -implicitDefEqProofs only [↓yRp, yRt, Nat.reduceAdd, Nat.reduceMul, Nat.reduceSub, Nat.reduceLeDiff, Nat.reduceEqDiff, if_true, if_false, reduceCtorEq, exists_eq_left', ne_eq, implies_true, Nat.reduceBEq, t1, get_map ht, Tok.pc, get_map hn1, e2, f1]
        refine Rcall_hand 1 [.box (tbC ts cols i)] rfl hnode (by simp) rfl (by rfl) fun y s' hy => ?_
        obtain ⟨rfl, rfl⟩ := hy
        refine ⟨rfl, ?_⟩
        generalize hr : nodeD ts cols (nodesD ts cols m) i deep = r at hx hout hend
        obtain ⟨⟨k0, h0, t0, ks0, o0, s0, m0, a0, l0⟩, j⟩ := r
        simp only [tbC, Nd.cs, pc_mk, List.map_cons, List.map_nil]
        simp -implicitDefEqProofs only [↓yRp, yRt, Nat.reduceAdd, Nat.reduceMul, Nat.reduceSub, Nat.reduceLeDiff, Nat.reduceEqDiff, if_true, if_false, reduceCtorEq, exists_eq_left', ne_eq, implies_true, Nat.reduceBEq, b1]
        refine ⟨m, [0, 3], by omega, by decide, pinned_one _, m, j, acc ++ [.mk k0 h0 t0 ks0 o0 s0 m0 a0 l0], ?_, ?_, rfl, by omega, by simp only at hx; omega, by simp only at hx; omega, by simp only at hx; omega, by simp only at hx; simp; omega, ?_, hend⟩
        · simp only [yren.eq_1, yren.eq_2, yren.eq_3, yren.eq_4, renV.eq_1, renV.eq_2, renV.eq_3, renC.eq_1, renC.eq_2, renC.eq_3, renC.eq_4, renC.eq_5, renE.eq_1, renE.eq_2, renE.eq_3, renS.eq_1, renB.eq_1, renB.eq_2, renB.eq_3, slotIx_nil, slotIx_cons, nth_zero, nth_succ, yrow.eq_1, yrow.eq_2, Nat.reduceEqDiff, if_true, if_false, List.map_cons, List.map_nil, Nat.zero_add, Nat.add_zero, Nat.le_refl, and_self, and_true, true_and, List.drop_zero, take_map_len, take_map_snoc, snoc_len, List.length_map, List.length_append, List.length_cons, List.length_nil, Nat.reduceAdd, reduceCtorEq, Nat.one_ne_zero, List.set_set]
        · simp only [yren.eq_1, yren.eq_2, yren.eq_3, yren.eq_4, renV.eq_1, renV.eq_2, renV.eq_3, renC.eq_1, renC.eq_2, renC.eq_3, renC.eq_4, renC.eq_5, renE.eq_1, renE.eq_2, renE.eq_3, renS.eq_1, renB.eq_1, renB.eq_2, renB.eq_3, slotIx_nil, slotIx_cons, nth_zero, nth_succ, yrow.eq_1, yrow.eq_2, Nat.reduceEqDiff, if_true, if_false, List.map_cons, List.map_nil, Nat.zero_add, Nat.add_zero, Nat.le_refl, and_self, and_true, true_and, List.drop_zero, take_map_len, take_map_snoc, snoc_len, List.length_map, List.length_append, List.length_cons, List.length_nil, Nat.reduceAdd, reduceCtorEq, Nat.one_ne_zero, List.set_set, List.map_append, pc_mk, tbC]
        · rw [← hout]; simp
  · have t1 : leI (ts.length : Nat) (i : Nat) = true := leI_true (by omega)
    have hres : nodesD ts cols m i deep = ([], i) := by
      cases m with
      | zero => rfl
      | succ m => rw [nodesD, if_neg (fun h => hil h.1)]
    rw [hres] at hout hend
    simp only [List.append_nil] at hout hend
    simp -implicitDefEqProofs only [↓yRp, yRt, Nat.reduceAdd, Nat.reduceMul, Nat.reduceSub, Nat.reduceLeDiff, Nat.reduceEqDiff, if_true, if_false, reduceCtorEq, exists_eq_left', ne_eq, implies_true, Nat.reduceBEq, t1]
    refine ⟨[0], by decide, pinned_one _, ?_, ?_⟩
    · simp only [yren.eq_1, yren.eq_2, yren.eq_3, yren.eq_4, renV.eq_1, renV.eq_2, renV.eq_3, renC.eq_1, renC.eq_2, renC.eq_3, renC.eq_4, renC.eq_5, renE.eq_1, renE.eq_2, renE.eq_3, renS.eq_1, renB.eq_1, renB.eq_2, renB.eq_3, slotIx_nil, slotIx_cons, nth_zero, nth_succ, yrow.eq_1, yrow.eq_2, Nat.reduceEqDiff, if_true, if_false, List.map_cons, List.map_nil, Nat.zero_add, Nat.add_zero, Nat.le_refl, and_self, and_true, true_and, List.drop_zero, take_map_len, take_map_snoc, snoc_len, List.length_map, List.length_append, List.length_cons, List.length_nil, Nat.reduceAdd, reduceCtorEq, Nat.one_ne_zero, List.set_set, ← hout]; rfl
    · simp only [yren.eq_1, yren.eq_2, yren.eq_3, yren.eq_4, renV.eq_1, renV.eq_2, renV.eq_3, renC.eq_1, renC.eq_2, renC.eq_3, renC.eq_4, renC.eq_5, renE.eq_1, renE.eq_2, renE.eq_3, renS.eq_1, renB.eq_1, renB.eq_2, renB.eq_3, slotIx_nil, slotIx_cons, nth_zero, nth_succ, yrow.eq_1, yrow.eq_2, Nat.reduceEqDiff, if_true, if_false, List.map_cons, List.map_nil, Nat.zero_add, Nat.add_zero, Nat.le_refl, and_self, and_true, true_and, List.drop_zero, take_map_len, take_map_snoc, snoc_len, List.length_map, List.length_append, List.length_cons, List.length_nil, Nat.reduceAdd, reduceCtorEq, Nat.one_ne_zero, List.set_set, ← hend, tbC]

theorem docColon_kind {ts : List Tok} {n k : Nat} (h : (colonsTo ts n).contains (k : Int) = true) : kindAt ts k = 16 := by
  simp only [colonsTo, List.contains_iff_mem, List.mem_map, List.mem_filter] at h
  obtain ⟨j, ⟨_, hj⟩, he⟩ := h
  have : j = k := by omega
  subst this
  simp only [docColon, Bool.and_eq_true, decide_eq_true_eq] at hj
  exact hj.1.1.1.1
def parseD (ts : List Tok) : List Nd := (nodesD ts (colonsTo ts ts.length) ts.length 0 0).1
theorem parseD_spec (ts : List Tok) (hl : ts.length ≤ 1000000) : PCall C1 13 [.c (.p (rT ts))] fun y => y = .c (.p (rN (parseD ts))) := by
  have hn := nodesD_spec ts (colonsTo ts ts.length) hl (by have := colonsTo_length ts ts.length; omega) (fun k h => docColon_kind h) ts.length 0 0 (by omega) (by omega) (by omega)
  refine Pf (by rfl) (by rfl) fn13 (by rfl) ?_
  simp only [Try.f13, List.length_cons, List.length_nil, List.replicate, List.cons_append, List.nil_append]
  simp -implicitDefEqProofs only [↓yRp, yRt, Nat.reduceAdd, Nat.reduceMul, Nat.reduceSub, Nat.reduceLeDiff, Nat.reduceEqDiff, if_true, if_false, reduceCtorEq, exists_eq_left', ne_eq, implies_true, Nat.reduceBEq]
  refine Rcall_pure (nest_spec ts hl) (by rfl) fun y hy => ?_
  subst hy
  simp -implicitDefEqProofs only [↓yRp, yRt, Nat.reduceAdd, Nat.reduceMul, Nat.reduceSub, Nat.reduceLeDiff, Nat.reduceEqDiff, if_true, if_false, reduceCtorEq, exists_eq_left', ne_eq, implies_true, Nat.reduceBEq]
  refine Rcall_pure (colons_spec ts hl) (by rfl) fun y hy => ?_
  subst hy
  simp -implicitDefEqProofs only [↓yRp, yRt, Nat.reduceAdd, Nat.reduceMul, Nat.reduceSub, Nat.reduceLeDiff, Nat.reduceEqDiff, if_true, if_false, reduceCtorEq, exists_eq_left', ne_eq, implies_true, Nat.reduceBEq]
  refine Rcall_hand 1 [.box (tbC ts (colonsTo ts ts.length) 0)] rfl hn (by simp) rfl (by rfl) fun y s' hy => ?_
  obtain ⟨rfl, rfl⟩ := hy
  refine ⟨rfl, ?_⟩
  simp only [tbC]
  simp -implicitDefEqProofs only [↓yRp, yRt, Nat.reduceAdd, Nat.reduceMul, Nat.reduceSub, Nat.reduceLeDiff, Nat.reduceEqDiff, if_true, if_false, reduceCtorEq, exists_eq_left', ne_eq, implies_true, Nat.reduceBEq]
  rfl
end Go.Vx.Seat
end
/- Are two rows of tokens one? Are two rows of nodes? -/
section
open Go Go.Vx Go.Proofs
set_option linter.unusedSimpArgs false
set_option linter.unusedVariables false
set_option maxRecDepth 10000
set_option maxHeartbeats 4000000
namespace Go.Vx.Seat
attribute [local congr] Rg_at Rt_at Ro_at Ri_at Rc_at Rto_at Rtk_at Rtf_at Rti_at
theorem fn14 : nth C1.P.funcs.toList 14 = some Try.f14 := by kernel_rfl
theorem fn11 : nth C1.P.funcs.toList 11 = some Try.f11 := by kernel_rfl
def Tok.vals (t : Tok) : List Value :=
  [.int .i64 t.kind, .string t.text, .string t.unit, .bool t.neg, .string t.digits, .string t.exp, .bool t.flag, .bool t.sign, .int .i64 t.c0, .int .i64 t.c1, .int .i64 t.c2, .int .i64 t.c3, .int .i64 t.start]
noncomputable def tokEq (t u : Tok) : Bool := match cellsEq t.vals u.vals with | some b => b | none => false
theorem strOf_eq (a b : ByteArray) : strOf a = strOf b ↔ a = b := by
  constructor
  · intro h
    cases a; cases b
    simp only [strOf] at h
    congr 1
    exact Array.toList_inj.mp h
  · intro h; rw [h]
theorem tokEq_iff (t u : Tok) : tokEq t u = true ↔ t = u := by
  cases t; cases u
  simp only [tokEq, Tok.vals, cellsEq, cellEq, if_true, Bool.and_true, Bool.and_eq_true, decide_eq_true_eq, beq_iff_eq, strOf_eq, Tok.mk.injEq]
theorem cellsEq_tok (t u : Tok) : cellsEq t.vals u.vals = some (tokEq t u) := by
  simp only [tokEq, Tok.vals, cellsEq, cellEq, if_true]
theorem zero44 : tyZero Try.prog 44 = some (.agg #[.int .i64 0, .string ⟨#[]⟩, .string ⟨#[]⟩, .bool false, .string ⟨#[]⟩, .string ⟨#[]⟩, .bool false, .bool false, .int .i64 0, .int .i64 0, .int .i64 0, .int .i64 0, .int .i64 0]) := by kernel_rfl
theorem eqs44 : C1.eqs.contains 44 = true := by kernel_rfl
theorem neq_tok (t u : Tok) : xbin Try.prog C1.eqs .neq 44 (.agg ⟨t.vals⟩) (.agg ⟨u.vals⟩) = some (.bool (!tokEq t u)) := by
  have h1 : likes (clist (.agg #[.int .i64 0, .string ⟨#[]⟩, .string ⟨#[]⟩, .bool false, .string ⟨#[]⟩, .string ⟨#[]⟩, .bool false, .bool false, .int .i64 0, .int .i64 0, .int .i64 0, .int .i64 0, .int .i64 0])) t.vals = true := rfl
  have h2 : likes (clist (.agg #[.int .i64 0, .string ⟨#[]⟩, .string ⟨#[]⟩, .bool false, .string ⟨#[]⟩, .string ⟨#[]⟩, .bool false, .bool false, .int .i64 0, .int .i64 0, .int .i64 0, .int .i64 0, .int .i64 0])) u.vals = true := rfl
  simp only [xbin, xbinA, eqs44, if_true, aggEq, zero44]
  rw [h1, h2]
  simp only [Bool.and_self, if_true, cellsEq_tok]
theorem sameTok_spec (l m : List Tok) (hl : l.length ≤ 1000000) : PCall C1 14 [.c (.p (rT l)), .c (.p (rT m))] fun y => ∃ b : Bool, y = yd (.bool b) ∧ (b = true ↔ l = m) := by
  refine Pf (by rfl) (by rfl) fn14 (by rfl) ?_
  simp only [Try.f14, List.length_cons, List.length_nil, List.replicate, List.cons_append, List.nil_append]
  by_cases hlen : l.length = m.length
  · have f1 : eqI (l.length : Nat) (m.length : Nat) = true := by rw [hlen]; exact eqI_true _
    simp -implicitDefEqProofs only [↓yRp, yRt, Nat.reduceAdd, Nat.reduceMul, Nat.reduceSub, Nat.reduceLeDiff, Nat.reduceEqDiff, if_true, if_false, reduceCtorEq, exists_eq_left', ne_eq, implies_true, Nat.reduceBEq, f1]
    refine Rl_inv (fun d e s => ∃ i : Nat, e = [.c (.p (rT l)), .c (.p (rT m)), .c .top, .c .top, .c .top, yd (.int .i64 i), .c .top, .c .top, .c .top, .c .top, .c .top, .c .top, .c .top, .c .top, .c .top, .c .top, .c .top, .c .top, .c .top, .c .top, .c .top, .c .top, .c .top, .c .top, .c .top, .c .top] ∧ s = [] ∧ i + d = l.length ∧ ∀ j, j < i → l[j]? = m[j]?) [true, true, false, false, false, true] l.length [] (by decide) (pinned_zero _) ⟨0, by simp only [yren.eq_1, yren.eq_2, yren.eq_3, yren.eq_4, renV.eq_1, renV.eq_2, renV.eq_3, renC.eq_1, renC.eq_2, renC.eq_3, renC.eq_4, renC.eq_5, renE.eq_1, renE.eq_2, renE.eq_3, renS.eq_1, renB.eq_1, renB.eq_2, renB.eq_3, slotIx_nil, slotIx_cons, nth_zero, nth_succ, yrow.eq_1, yrow.eq_2, Nat.reduceEqDiff, if_true, if_false, List.map_cons, List.map_nil, Nat.zero_add, Nat.add_zero, Nat.le_refl, and_self, and_true, true_and, List.drop_zero, take_map_len, take_map_snoc, snoc_len, List.length_map, List.length_append, List.length_cons, List.length_nil, Nat.reduceAdd, reduceCtorEq, Nat.one_ne_zero, List.set_set]; rfl, rfl, by omega, fun j hj => by omega⟩ ?_
    rintro d e s ⟨i, rfl, rfl, hd, hsame⟩
    by_cases hi : i < l.length
    · obtain ⟨t, ht⟩ := get_lt hi
      obtain ⟨u, hu⟩ := get_lt (show i < m.length by omega)
      have t1 : leI (l.length : Nat) (i : Nat) = false := leI_false (by omega)
      have w1 : wrapK .i64 ((i : Int) + 1) = ((i + 1 : Nat) : Int) := wrap_succ (by omega)
      have hneq := neq_tok t u
      simp only [Tok.vals] at hneq
      simp -implicitDefEqProofs only [↓yRp, yRt, Nat.reduceAdd, Nat.reduceMul, Nat.reduceSub, Nat.reduceLeDiff, Nat.reduceEqDiff, if_true, if_false, reduceCtorEq, exists_eq_left', ne_eq, implies_true, Nat.reduceBEq, t1]
      refine Rd_calm (by rw [C1_P]; kernel_rfl) ?_
      cases hq : tokEq t u with
      | true =>
        rw [hq] at hneq
        have he := (tokEq_iff t u).mp hq
        simp -implicitDefEqProofs only [↓yRp, yRt, Nat.reduceAdd, Nat.reduceMul, Nat.reduceSub, Nat.reduceLeDiff, Nat.reduceEqDiff, if_true, if_false, reduceCtorEq, exists_eq_left', ne_eq, implies_true, Nat.reduceBEq, get_map ht, get_map hu, Tok.pc, hneq, w1]
        refine ⟨d - 1, [], by omega, by decide, pinned_zero _, i + 1, ?_, rfl, by omega, fun j hj => ?_⟩
        · simp only [yren.eq_1, yren.eq_2, yren.eq_3, yren.eq_4, renV.eq_1, renV.eq_2, renV.eq_3, renC.eq_1, renC.eq_2, renC.eq_3, renC.eq_4, renC.eq_5, renE.eq_1, renE.eq_2, renE.eq_3, renS.eq_1, renB.eq_1, renB.eq_2, renB.eq_3, slotIx_nil, slotIx_cons, nth_zero, nth_succ, yrow.eq_1, yrow.eq_2, Nat.reduceEqDiff, if_true, if_false, List.map_cons, List.map_nil, Nat.zero_add, Nat.add_zero, Nat.le_refl, and_self, and_true, true_and, List.drop_zero, take_map_len, take_map_snoc, snoc_len, List.length_map, List.length_append, List.length_cons, List.length_nil, Nat.reduceAdd, reduceCtorEq, Nat.one_ne_zero, List.set_set]
        · by_cases e : j = i
          · subst e; rw [ht, hu, he]
          · exact hsame j (by omega)
      | false =>
        rw [hq] at hneq
        simp -implicitDefEqProofs only [↓yRp, yRt, Nat.reduceAdd, Nat.reduceMul, Nat.reduceSub, Nat.reduceLeDiff, Nat.reduceEqDiff, if_true, if_false, reduceCtorEq, exists_eq_left', ne_eq, implies_true, Nat.reduceBEq, get_map ht, get_map hu, Tok.pc, hneq]
        refine ⟨false, rfl, by simp; intro h; subst h; rw [ht] at hu; cases hu; rw [(tokEq_iff t t).mpr rfl] at hq; cases hq⟩
    · have t1 : leI (l.length : Nat) (i : Nat) = true := leI_true (by omega)
      simp -implicitDefEqProofs only [↓yRp, yRt, Nat.reduceAdd, Nat.reduceMul, Nat.reduceSub, Nat.reduceLeDiff, Nat.reduceEqDiff, if_true, if_false, reduceCtorEq, exists_eq_left', ne_eq, implies_true, Nat.reduceBEq, t1]
      refine ⟨true, rfl, by simp; apply List.ext_getElem?; intro j; by_cases hj : j < i; exact hsame j hj; rw [List.getElem?_eq_none (by omega), List.getElem?_eq_none (by omega)]⟩
  · have f1 : eqI (l.length : Nat) (m.length : Nat) = false := eqI_false (by omega)
    simp -implicitDefEqProofs only [↓yRp, yRt, Nat.reduceAdd, Nat.reduceMul, Nat.reduceSub, Nat.reduceLeDiff, Nat.reduceEqDiff, if_true, if_false, reduceCtorEq, exists_eq_left', ne_eq, implies_true, Nat.reduceBEq, f1]
    refine ⟨false, rfl, by simp; intro h; subst h; exact hlen rfl⟩
theorem sameTok_refl (l : List Tok) (hl : l.length ≤ 1000000) : PCall C1 14 [.c (.p (rT l)), .c (.p (rT l))] fun y => y = yd (.bool true) :=
  (sameTok_spec l l hl).mono fun y ⟨b, h1, h2⟩ => by rw [h1, h2.mpr rfl]

/-- Nodes that are not too many. -/
inductive NdOk : Nd → Prop where
  | mk {k : Int} {h t : List Tok} {ks : List Nd} {o s m : Bool} {a l : Int} : h.length ≤ 1000000 → t.length ≤ 1000000 → ks.length ≤ 1000000 → (∀ x, x ∈ ks → NdOk x) → NdOk (.mk k h t ks o s m a l)
def Refl : Nd → Prop
  | .mk k h t ks o s m a l => h.length ≤ 1000000 ∧ t.length ≤ 1000000 ∧ PCall C1 11 [.c (.p (rN ks)), .c (.p (rN ks))] fun y => y = yd (.bool true)
theorem bool_neq (b : Bool) : (!(b == b)) = false := by simp
theorem under4 : Try.prog.underlying 4 = some .bool := by kernel_rfl
theorem sameNodes_list (ns : List Nd) (hl : ns.length ≤ 1000000) (hr : ∀ x, x ∈ ns → Refl x) : PCall C1 11 [.c (.p (rN ns)), .c (.p (rN ns))] fun y => y = yd (.bool true) := by
  refine Pf (by rfl) (by rfl) fn11 (by rfl) ?_
  simp only [Try.f11, List.length_cons, List.length_nil, List.replicate, List.cons_append, List.nil_append]
  simp -implicitDefEqProofs only [↓yRp, yRt, Nat.reduceAdd, Nat.reduceMul, Nat.reduceSub, Nat.reduceLeDiff, Nat.reduceEqDiff, if_true, if_false, reduceCtorEq, exists_eq_left', ne_eq, implies_true, Nat.reduceBEq, eqI_true]
  refine Rl_inv (fun d e s => ∃ i : Nat, e = [.c (.p (rN ns)), .c (.p (rN ns)), .c .top, .c .top, .c .top, yd (.int .i64 i), .c .top, .c .top, .c .top, .c .top, .c .top, .c .top, .c .top, .c .top, .c .top, .c .top, .c .top, .c .top, .c .top, .c .top, .c .top, .c .top, .c .top, .c .top, .c .top, .c .top, .c .top, .c .top, .c .top, .c .top, .c .top, .c .top, .c .top, .c .top, .c .top, .c .top, .c .top, .c .top, .c .top, .c .top, .c .top, .c .top, .c .top, .c .top, .c .top, .c .top, .c .top, .c .top, .c .top, .c .top, .c .top, .c .top, .c .top, .c .top, .c .top, .c .top, .c .top, .c .top, .c .top, .c .top, .c .top, .c .top, .c .top, .c .top, .c .top, .c .top, .c .top, .c .top, .c .top, .c .top, .c .top, .c .top, .c .top, .c .top, .c .top, .c .top, .c .top, .c .top, .c .top, .c .top, .c .top, .c .top, .c .top, .c .top, .c .top, .c .top, .c .top, .c .top, .c .top, .c .top, .c .top] ∧ s = [] ∧ i + d = ns.length) [true, true, false, false, false, true] ns.length [] (by decide) (pinned_zero _) ⟨0, by simp only [yren.eq_1, yren.eq_2, yren.eq_3, yren.eq_4, renV.eq_1, renV.eq_2, renV.eq_3, renC.eq_1, renC.eq_2, renC.eq_3, renC.eq_4, renC.eq_5, renE.eq_1, renE.eq_2, renE.eq_3, renS.eq_1, renB.eq_1, renB.eq_2, renB.eq_3, slotIx_nil, slotIx_cons, nth_zero, nth_succ, yrow.eq_1, yrow.eq_2, Nat.reduceEqDiff, if_true, if_false, List.map_cons, List.map_nil, Nat.zero_add, Nat.add_zero, Nat.le_refl, and_self, and_true, true_and, List.drop_zero, take_map_len, take_map_snoc, snoc_len, List.length_map, List.length_append, List.length_cons, List.length_nil, Nat.reduceAdd, reduceCtorEq, Nat.one_ne_zero, List.set_set]; rfl, rfl, by omega⟩ ?_
  rintro d e s ⟨i, rfl, rfl, hd⟩
  by_cases hi : i < ns.length
  · obtain ⟨x, hx⟩ := get_lt hi
    have hxr := hr x (List.mem_of_getElem? hx)
    obtain ⟨k0, h0, t0, ks0, o0, s0, m0, a0, l0⟩ := x
    obtain ⟨hh, ht, hk⟩ := hxr
    have t1 : leI (ns.length : Nat) (i : Nat) = false := leI_false (by omega)
    have w1 : wrapK .i64 ((i : Int) + 1) = ((i + 1 : Nat) : Int) := wrap_succ (by omega)
    have hg := get_map (f := Nd.pc) hx
    rw [pc_mk] at hg
    simp -implicitDefEqProofs only [↓yRp, yRt, Nat.reduceAdd, Nat.reduceMul, Nat.reduceSub, Nat.reduceLeDiff, Nat.reduceEqDiff, if_true, if_false, reduceCtorEq, exists_eq_left', ne_eq, implies_true, Nat.reduceBEq, t1, hg, eqI_true]
    refine Rcall_pure (sameTok_refl h0 hh) (by rfl) fun y hy => ?_
    subst hy
    simp -implicitDefEqProofs only [↓yRp, yRt, Nat.reduceAdd, Nat.reduceMul, Nat.reduceSub, Nat.reduceLeDiff, Nat.reduceEqDiff, if_true, if_false, reduceCtorEq, exists_eq_left', ne_eq, implies_true, Nat.reduceBEq]
    refine Rcall_pure (sameTok_refl t0 ht) (by rfl) fun y hy => ?_
    subst hy
    simp -implicitDefEqProofs only [↓yRp, yRt, Nat.reduceAdd, Nat.reduceMul, Nat.reduceSub, Nat.reduceLeDiff, Nat.reduceEqDiff, if_true, if_false, reduceCtorEq, exists_eq_left', ne_eq, implies_true, Nat.reduceBEq]
    refine Rcall_pure hk (by rfl) fun y hy => ?_
    subst hy
    simp -implicitDefEqProofs only [↓yRp, yRt, Nat.reduceAdd, Nat.reduceMul, Nat.reduceSub, Nat.reduceLeDiff, Nat.reduceEqDiff, if_true, if_false, reduceCtorEq, exists_eq_left', ne_eq, implies_true, Nat.reduceBEq, bool_neq, eqI_true, under4, w1]
    refine ⟨d - 1, [], by omega, by decide, pinned_zero _, i + 1, ?_, rfl, by omega⟩
    simp only [yren.eq_1, yren.eq_2, yren.eq_3, yren.eq_4, renV.eq_1, renV.eq_2, renV.eq_3, renC.eq_1, renC.eq_2, renC.eq_3, renC.eq_4, renC.eq_5, renE.eq_1, renE.eq_2, renE.eq_3, renS.eq_1, renB.eq_1, renB.eq_2, renB.eq_3, slotIx_nil, slotIx_cons, nth_zero, nth_succ, yrow.eq_1, yrow.eq_2, Nat.reduceEqDiff, if_true, if_false, List.map_cons, List.map_nil, Nat.zero_add, Nat.add_zero, Nat.le_refl, and_self, and_true, true_and, List.drop_zero, take_map_len, take_map_snoc, snoc_len, List.length_map, List.length_append, List.length_cons, List.length_nil, Nat.reduceAdd, reduceCtorEq, Nat.one_ne_zero, List.set_set]
  · have t1 : leI (ns.length : Nat) (i : Nat) = true := leI_true (by omega)
    simp -implicitDefEqProofs only [↓yRp, yRt, Nat.reduceAdd, Nat.reduceMul, Nat.reduceSub, Nat.reduceLeDiff, Nat.reduceEqDiff, if_true, if_false, reduceCtorEq, exists_eq_left', ne_eq, implies_true, Nat.reduceBEq, t1]
theorem refl_of_ok {x : Nd} (hx : NdOk x) : Refl x := by
  induction hx with
  | mk h1 h2 h3 h4 ih => exact ⟨h1, h2, sameNodes_list _ h3 ih⟩
theorem sameNodes_refl (ns : List Nd) (hl : ns.length ≤ 1000000) (hr : ∀ x, x ∈ ns → NdOk x) : PCall C1 11 [.c (.p (rN ns)), .c (.p (rN ns))] fun y => y = yd (.bool true) :=
  sameNodes_list ns hl fun x hx => refl_of_ok (hr x hx)
end Go.Vx.Seat
end
/- The document's colons are the program's: plain law. -/
section
open Go Go.Vx Go.Proofs
set_option linter.unusedSimpArgs false
set_option linter.unusedVariables false
namespace Go.Vx.Seat
def Shuts (k : Int) : Prop := k = 22 ∨ k = 24 ∨ k = 20
theorem closes_shuts {k : Int} (h : closes k > 0) : Shuts (closes k) := by
  unfold closes at h ⊢
  unfold Shuts
  split
  · simp
  · split
    · simp
    · split
      · simp
      · simp_all
theorem closes_20 {k : Int} (h : closes k = 20) : k = 19 := by
  unfold closes at h
  split at h
  · omega
  · split at h
    · omega
    · split at h <;> omega
theorem openAt_shuts (ts : List Tok) : ∀ (i : Nat) (k : Int), k ∈ openAt ts i → Shuts k
  | 0, k, h => by simp [openAt] at h
  | i + 1, k, h => by
    have ih := openAt_shuts ts i k
    unfold openAt at h
    split at h
    · unfold nestStep at h
      split at h
      · exact ih ((List.dropLast_sublist _).subset h)
      · split at h
        · rename_i hc
          rcases List.mem_append.mp h with h | h
          · exact ih h
          · rw [List.mem_singleton.mp h]; exact closes_shuts hc
        · exact ih h
    · exact ih h
theorem last_shuts {ts : List Tok} {i : Nat} {k : Int} (h : (openAt ts i).getLast? = some k) : Shuts k := openAt_shuts ts i k (List.mem_of_getLast? h)
theorem blocks_mem {o : List Int} (h : allBlocks o = true) {k : Int} (hk : k ∈ o) : k = 20 := by
  have := List.all_eq_true.mp h k hk
  simpa using this
theorem blocks_last {o : List Int} (h : allBlocks o = true) (hn : 0 < o.length) : o.getLast? = some 20 := by
  cases hl : o.getLast? with
  | none => rw [List.getLast?_eq_none_iff.mp hl] at hn; simp at hn
  | some a => rw [blocks_mem h (List.mem_of_getLast? hl)]
/-- What is open there is what is open here and more, and not another block. -/
def Above (ts : List Tok) (o : List Int) (k : Nat) : Prop := ∃ rest, openAt ts k = o ++ rest ∧ rest.head? ≠ some 20
theorem Above.same {ts : List Tok} {o : List Int} {k : Nat} (h : openAt ts k = o) : Above ts o k := ⟨[], by simp [h], by simp⟩
theorem Above.len {ts : List Tok} {o : List Int} {k : Nat} (h : Above ts o k) : o.length ≤ (openAt ts k).length := by
  obtain ⟨r, h1, _⟩ := h; rw [h1]; simp
theorem Above.eq {ts : List Tok} {o : List Int} {k : Nat} (h : Above ts o k) (hl : (openAt ts k).length = o.length) : openAt ts k = o := by
  obtain ⟨r, h1, _⟩ := h
  rw [h1] at hl ⊢
  have : r = [] := by cases r with | nil => rfl | cons a r => simp at hl
  simp [this]
theorem Above.blocks {ts : List Tok} {o : List Int} {k : Nat} (h : Above ts o k) (hb : allBlocks (openAt ts k) = true) : openAt ts k = o := by
  obtain ⟨r, h1, h2⟩ := h
  cases r with
  | nil => simpa using h1
  | cons a r => exact absurd (by rw [List.head?_cons, blocks_mem hb (k := a) (by rw [h1]; simp)]) h2
/-- Does what is looked at stop there? -/
def stopD (ts : List Tok) (n k : Nat) : Prop := (openAt ts k).length = n ∧ (kindAt ts k = 19 ∨ (kindAt ts k = 20 ∧ 0 < n))
theorem getLast_app {o r : List Int} (h : r ≠ []) : (o ++ r).getLast? = r.getLast? := by
  rw [List.getLast?_append]; cases hr : r.getLast? with
  | none => exact absurd (List.getLast?_eq_none_iff.mp hr) h
  | some a => rfl
theorem Above.step {ts : List Tok} {o : List Int} {k : Nat} (h : Above ts o k) (hb : allBlocks o = true) (hk : k < ts.length) (hs : ¬ stopD ts o.length k) : Above ts o (k + 1) := by
  obtain ⟨r, h1, h2⟩ := h
  have ht : ts[k]? = some ts[k] := List.getElem?_eq_getElem hk
  have hkk := kindAt_some ht
  unfold stopD at hs
  rw [Above, openAt_succ ht, ← hkk]
  generalize kindAt ts k = K at hs
  rw [h1] at hs ⊢
  unfold nestStep
  cases r with
  | nil =>
    simp only [List.append_nil] at hs ⊢
    split
    · rename_i hl
      have hm := blocks_mem hb (List.mem_of_getLast? hl)
      have : 0 < o.length := List.length_pos_of_mem (List.mem_of_getLast? hl)
      exact absurd ⟨by simp, .inr ⟨hm, this⟩⟩ hs
    · split
      · refine ⟨[closes K], rfl, fun h => ?_⟩
        have : closes K = 20 := by simpa using h
        exact hs ⟨by simp, .inl (closes_20 this)⟩
      · exact ⟨[], by simp, by simp⟩
  | cons a r =>
    split
    · refine ⟨(a :: r).dropLast, by rw [List.dropLast_append_of_ne_nil (by simp)], ?_⟩
      cases r with
      | nil => simp
      | cons b r => simpa using h2
    · split
      · exact ⟨a :: r ++ [closes K], by simp, by simpa using h2⟩
      · exact ⟨a :: r, rfl, h2⟩
theorem pl_closes {ts : List Tok} {k : Nat} (h : (openAt ts k).getLast? = some (kindAt ts k)) : (pl ts k).1 = (openAt ts k).length - 1 := by
  simp [pl, plOf, h]
theorem pl_open {ts : List Tok} {k : Nat} (h : ¬ (openAt ts k).getLast? = some (kindAt ts k)) : pl ts k = ((openAt ts k).length, allBlocks (openAt ts k), false) := by
  simp [pl, plOf, h]
theorem Above.lt {ts : List Tok} {o : List Int} {k : Nat} (h : Above ts o k) (hb : allBlocks o = true) : (pl ts k).1 < o.length ↔ (openAt ts k).length = o.length ∧ kindAt ts k = 20 ∧ 0 < o.length := by
  have hl := h.len
  by_cases hc : (openAt ts k).getLast? = some (kindAt ts k)
  · rw [pl_closes hc]
    constructor
    · intro h1
      have h2 : (openAt ts k).length = o.length := by omega
      have h3 := h.eq h2
      rw [h3] at hc
      exact ⟨h2, blocks_mem hb (List.mem_of_getLast? hc), List.length_pos_of_mem (List.mem_of_getLast? hc)⟩
    · rintro ⟨h1, h2, h3⟩
      omega
  · rw [pl_open hc]
    constructor
    · intro h1; simp only at h1; omega
    · rintro ⟨h1, h2, h3⟩
      rw [h.eq h1, h2] at hc
      exact absurd (blocks_last hb h3) hc
theorem Above.part {ts : List Tok} {o : List Int} {k : Nat} (h : Above ts o k) (hb : allBlocks o = true) (hn : ¬ (pl ts k).1 < o.length) : ((pl ts k).1 = o.length ∧ partK (kindAt ts k) = true) ↔ ((openAt ts k).length = o.length ∧ partK (kindAt ts k) = true) := by
  by_cases hc : (openAt ts k).getLast? = some (kindAt ts k)
  · have hp := pl_closes hc
    obtain ⟨r, h1, h2⟩ := h
    have hsh := last_shuts hc
    have hlen : (openAt ts k).length = o.length + r.length := by rw [h1]; simp
    cases r with
    | nil =>
      exfalso
      have : 0 < (openAt ts k).length := List.length_pos_of_mem (List.mem_of_getLast? hc)
      simp at hlen
      omega
    | cons a r =>
      constructor
      · rintro ⟨h3, h4⟩
        exfalso
        have hr : r = [] := by
          cases r with
          | nil => rfl
          | cons b r => simp at hlen; omega
        subst hr
        rw [h1, getLast_app (by simp)] at hc
        simp at hc h2
        rcases hsh with h | h | h
        · rw [h] at h4; simp [partK] at h4
        · rw [h] at h4; simp [partK] at h4
        · rw [h] at hc; exact h2 hc
      · rintro ⟨h3, h4⟩
        simp at hlen; omega
  · rw [pl_open hc]
theorem not_last {ts : List Tok} {i : Nat} {k : Int} (h : ¬ Shuts k) : ¬ (openAt ts i).getLast? = some k := fun hl => h (last_shuts hl)
/-! ### The colons -/
theorem plain_behind {ts : List Tok} {i : Nat} (hb : allBlocks (openAt ts i) = true) (hp : (pl ts i).1 = (openAt ts i).length) : ∀ (d k : Nat), k + d = ts.length → Above ts (openAt ts i) k → plainFrom ts i d k = behind ts i d k
  | 0, k, _, _ => by rw [plainFrom, behind]
  | d + 1, k, hd, ha => by
    rw [plainFrom, behind, hp]
    by_cases h1 : (pl ts k).1 < (openAt ts i).length
    · obtain ⟨h2, h3, h4⟩ := (ha.lt hb).mp h1
      rw [if_pos h1, if_pos ⟨h2, by rw [h3]; rfl⟩, h3]; rfl
    · rw [if_neg h1]
      by_cases h2 : (openAt ts k).length = (openAt ts i).length ∧ partK (kindAt ts k) = true
      · rw [if_pos ((ha.part hb h1).mpr h2), if_pos h2]
      · rw [if_neg fun h => h2 ((ha.part hb h1).mp h), if_neg h2]
        refine plain_behind hb hp d (k + 1) (by omega) (ha.step hb (by omega) ?_)
        rintro ⟨h3, h4⟩
        refine h2 ⟨h3, ?_⟩
        rcases h4 with h4 | h4
        · rw [h4]; rfl
        · rw [h4.1]; rfl
theorem part_at (ts : List Tok) (i : Nat) : (partK (kindAt ts i) = true ∧ (pl ts i).2.1 = true) ↔ partAt ts i = true := by
  rw [partAt, Bool.and_eq_true]
  refine and_congr_right fun hp => ?_
  by_cases hc : (openAt ts i).getLast? = some (kindAt ts i)
  · have hsh := last_shuts hc
    have h20 : kindAt ts i = 20 := by
      rcases hsh with h | h | h
      · rw [h] at hp; simp [partK] at hp
      · rw [h] at hp; simp [partK] at hp
      · exact h
    rw [h20] at hc
    have hd : openAt ts i = (openAt ts i).dropLast ++ [20] := by
      obtain ⟨ys, hy⟩ := List.getLast?_eq_some_iff.mp hc
      rw [hy, List.dropLast_concat]
    simp only [pl, plOf, h20, hc, if_pos]
    conv => rhs; rw [hd]
    simp [allBlocks]
  · rw [pl_open hc]
theorem back_add (ts : List Tok) : ∀ (n a b : Nat), back ts n a b = (a + (back ts n 0 0).1, b + (back ts n 0 0).2)
  | 0, a, b => by simp [back]
  | n + 1, a, b => by
    unfold back
    split
    · simp
    · split
      · exact back_add ts n a b
      · split
        · rw [back_add ts n (a + 1) b, back_add ts n (0 + 1) 0]; simp; omega
        · rw [back_add ts n a (b + 1), back_add ts n 0 (0 + 1)]; simp; omega
theorem since_back (ts : List Tok) : ∀ n : Nat, (since ts n).1 = (back ts n 0 0).1 + (back ts n 0 0).2 ∧ ((since ts n).1 = 1 → ((since ts n).2 = true ↔ (back ts n 0 0).1 = 1))
  | 0 => by simp [since, back]
  | n + 1 => by
    obtain ⟨h1, h2⟩ := since_back ts n
    have hp := part_at ts n
    unfold since back
    by_cases hq : quiet (kindAt ts n) = true
    · have hno : ¬ partAt ts n = true := by
        rw [partAt, Bool.and_eq_true]
        rintro ⟨h3, _⟩
        simp [quiet] at hq
        rcases hq with h | h <;> rw [h] at h3 <;> simp [partK] at h3
      rw [if_pos hq, if_neg hno, if_pos hq]
      exact ⟨h1, h2⟩
    · rw [if_neg hq]
      by_cases hpa : partAt ts n = true
      · rw [if_pos (hp.mpr hpa), if_pos hpa]; simp
      · rw [if_neg fun h => hpa (hp.mp h), if_neg hpa, if_neg hq]
        by_cases h3 : kindAt ts n = 1
        · rw [if_pos h3, back_add]; simp [h3]; omega
        · rw [if_neg h3, back_add]; simp [h3]; omega
theorem colon_same (ts : List Tok) {i : Nat} (hi : i < ts.length) : isColon ts i = docColon ts i := by
  rw [Bool.eq_iff_iff, isColon, docColon]
  simp only [Bool.and_eq_true, decide_eq_true_eq]
  by_cases hk : kindAt ts i = 16
  · have hno : ¬ (openAt ts i).getLast? = some (kindAt ts i) := not_last (by rw [hk]; simp [Shuts])
    have hpl := pl_open hno
    obtain ⟨s1, s2⟩ := since_back ts i
    rw [hpl]
    simp only
    by_cases hb : allBlocks (openAt ts i) = true
    · have h1 : plainAt ts i = behind ts i (ts.length - (i + 1)) (i + 1) := by
        refine plain_behind hb (by rw [hpl]) _ _ (by omega) ((Above.same rfl).step hb hi ?_)
        rintro ⟨_, h⟩
        rw [hk] at h; simp at h
      rw [h1]
      constructor
      · rintro ⟨⟨⟨⟨⟨_, _⟩, h2⟩, h3⟩, h4⟩, h5⟩
        have h6 := (s2 h3).mp h4
        refine ⟨⟨⟨⟨hk, by omega⟩, hb⟩, ?_⟩, h5⟩
        exact Prod.ext h6 (by simp only; omega)
      · rintro ⟨⟨⟨⟨_, h2⟩, _⟩, h3⟩, h5⟩
        rw [h3] at s1 s2
        have h4 : (since ts i).1 = 1 := by simpa using s1
        exact ⟨⟨⟨⟨⟨hk, hb⟩, by omega⟩, h4⟩, (s2 h4).mpr rfl⟩, h5⟩
    · simp [hb]
  · simp [hk]
theorem colons_same (ts : List Tok) : colonsP ts ts.length = colonsTo ts ts.length := by
  rw [colonsP, colonsTo]
  congr 1
  refine List.filter_congr fun i hi => colon_same ts (by simpa using hi)
end Go.Vx.Seat
end
/- The document's Parse is the program's: plain law. -/
section
open Go Go.Vx Go.Proofs
set_option linter.unusedSimpArgs false
set_option linter.unusedVariables false
namespace Go.Vx.Seat
def reps (n : Nat) : List Int := List.replicate n 20
theorem reps_len (n : Nat) : (reps n).length = n := by simp [reps]
theorem reps_blocks (n : Nat) : allBlocks (reps n) = true := by simp [reps, allBlocks]
def stopE (ts : List Tok) (deep k : Nat) : Prop := (openAt ts k).length = deep ∧ ((kindAt ts k = 20 ∧ 0 < deep) ∨ kindAt ts k = 19 ∨ kindAt ts k = 17)
theorem stopE_D {ts : List Tok} {deep k : Nat} (h : stopD ts (reps deep).length k) : stopE ts deep k := by
  rw [reps_len] at h
  exact ⟨h.1, h.2.elim (fun h => .inr (.inl h)) (fun h => .inl h)⟩
theorem flat_pl {ts : List Tok} {k : Nat} (h : kindAt ts k = 19 ∨ kindAt ts k = 17) : (pl ts k).1 = (openAt ts k).length := by
  rw [pl_open (not_last (by rcases h with h | h <;> rw [h] <;> simp [Shuts]))]
theorem scan_same (ts : List Tok) (deep : Nat) : ∀ d k : Nat, k + d = ts.length → Above ts (reps deep) k →
    scanP ts deep d k = endD ts deep d k ∧ (∀ p, k ≤ p → p < endD ts deep d k → Above ts (reps deep) p ∧ ¬ stopE ts deep p) ∧ (endD ts deep d k < ts.length → Above ts (reps deep) (endD ts deep d k) ∧ stopE ts deep (endD ts deep d k))
  | 0, k, hd, ha => by
    rw [scanP, endD]
    exact ⟨rfl, fun p h1 h2 => by omega, fun h => by omega⟩
  | d + 1, k, hd, ha => by
    have hlt := ha.lt (reps_blocks deep)
    have hlen := ha.len
    rw [reps_len] at hlt hlen
    by_cases hs : stopE ts deep k
    · have e1 : endD ts deep (d + 1) k = k := by rw [endD]; exact if_pos hs
      rw [e1]
      refine ⟨?_, fun p h1 h2 => by omega, fun _ => ⟨ha, hs⟩⟩
      rw [scanP]
      obtain ⟨h1, h2⟩ := hs
      rcases h2 with h2 | h2
      · rw [if_pos (hlt.mpr ⟨h1, h2.1, h2.2⟩)]
      · have hf := flat_pl h2
        rw [if_neg (by omega), if_pos ⟨by omega, h2⟩]
    · have e1 : endD ts deep (d + 1) k = endD ts deep d (k + 1) := by rw [endD]; exact if_neg hs
      have e2 : scanP ts deep (d + 1) k = scanP ts deep d (k + 1) := by
        rw [scanP, if_neg, if_neg]
        · rintro ⟨h1, h2⟩
          have hf := flat_pl h2
          exact hs ⟨by omega, .inr h2⟩
        · intro h
          obtain ⟨h1, h2, h3⟩ := hlt.mp h
          exact hs ⟨h1, .inl ⟨h2, h3⟩⟩
      rw [e1, e2]
      obtain ⟨h1, h2, h3⟩ := scan_same ts deep d (k + 1) (by omega) (ha.step (reps_blocks deep) (by omega) fun h => hs (stopE_D h))
      refine ⟨h1, fun p hp1 hp2 => ?_, h3⟩
      by_cases hp : p = k
      · subst hp; exact ⟨ha, hs⟩
      · exact h2 p (by omega) hp2
/-! ### Which colon -/
theorem contains_colons (ts : List Tok) (n c : Nat) : (colonsTo ts n).contains (c : Int) = true ↔ c < n ∧ docColon ts c = true := by
  rw [List.contains_iff_mem, colonsTo, List.mem_map]
  constructor
  · rintro ⟨a, ha, he⟩
    have : a = c := by omega
    subst this
    simpa using ha
  · intro h
    exact ⟨c, by simpa using h, rfl⟩
theorem colonAt_some {ts : List Tok} {n i k c : Nat} (h : colonAt (colonsTo ts n) i k = some c) : i ≤ c ∧ c < k ∧ c < n ∧ docColon ts c = true := by
  unfold colonAt at h
  split at h
  · rename_i a hf
    split at h
    · rename_i hlt
      cases h
      have h1 := List.find?_some hf
      have h2 := List.mem_of_find?_eq_some hf
      rw [colonsTo, List.mem_map] at h2
      obtain ⟨b, hb, rfl⟩ := h2
      simp at h1 hb
      simp only [Int.toNat_natCast]
      exact ⟨h1, by omega, hb.1, hb.2⟩
    · cases h
  · cases h
theorem colonsTo_sorted (ts : List Tok) (n : Nat) : (colonsTo ts n).Pairwise (· < ·) := by
  rw [colonsTo, List.pairwise_map]
  exact ((List.pairwise_lt_range).filter _).imp fun h => by omega
theorem colonAt_none {ts : List Tok} {n i k c : Nat} (h : colonAt (colonsTo ts n) i k = none) (h1 : i ≤ c) (h2 : c < k) (h3 : c < n) : docColon ts c = false := by
  rw [← Bool.not_eq_true]
  intro hd
  have hm : (c : Int) ∈ colonsTo ts n := List.contains_iff_mem.mp ((contains_colons ts n c).mpr ⟨h3, hd⟩)
  unfold colonAt at h
  cases hf : List.find? (fun c => decide ((i : Int) ≤ c)) (colonsTo ts n) with
  | none =>
    have := List.find?_eq_none.mp hf c hm
    simp at this; omega
  | some a =>
    rw [hf] at h
    simp only at h
    split at h
    · cases h
    · rename_i hak
      obtain ⟨_, xs, ys, he, has⟩ := List.find?_eq_some_iff_append.mp hf
      have hs := colonsTo_sorted ts n
      rw [he] at hm hs
      rcases List.mem_append.mp hm with hm | hm
      · have := has c hm
        simp at this; omega
      · rcases List.mem_cons.mp hm with hm | hm
        · omega
        · have := List.rel_of_pairwise_cons (List.pairwise_append.mp hs).2.1 hm
          omega
theorem colD_some {ts : List Tok} {cols : List Int} {deep i : Nat} : ∀ {m c : Nat}, colD ts cols deep i m = some c → (openAt ts c).length = deep ∧ cols.contains (c : Int) = true
  | 0, c, h => by cases h
  | m + 1, c, h => by
    unfold colD at h
    split at h
    · rename_i hc; cases h; exact hc
    · exact colD_some h
theorem colD_none {ts : List Tok} {cols : List Int} {deep i : Nat} : ∀ {m : Nat}, colD ts cols deep i m = none → ∀ c, i ≤ c → c < i + m → ¬ ((openAt ts c).length = deep ∧ cols.contains (c : Int) = true)
  | 0, h, c, h1, h2 => by omega
  | m + 1, h, c, h1, h2 => by
    unfold colD at h
    split at h
    · cases h
    · rename_i hn
      by_cases hc : c = i + m
      · subst hc; exact hn
      · exact colD_none h c h1 (by omega)
theorem back_other {ts : List Tok} {c : Nat} (hk : kindAt ts c = 16) : ∀ (n a b : Nat), c < n → (∀ p, c < p → p < n → ¬ partAt ts p = true) → b + 1 ≤ (back ts n a b).2
  | n + 1, a, b, hc, hp => by
    unfold back
    by_cases hn : c = n
    · subst hn
      rw [if_neg (by simp [partAt, hk, partK]), if_neg (by simp [quiet, hk]), if_neg (by omega), back_add]
      simp only; omega
    · have ih := fun a b => back_other hk n a b (by omega) fun p h1 h2 => hp p h1 (by omega)
      rw [if_neg (hp n (by omega) (by omega))]
      split
      · exact ih a b
      · split
        · exact ih (a + 1) b
        · have := ih a (b + 1); omega
theorem docColon_facts {ts : List Tok} {c : Nat} (h : docColon ts c = true) : kindAt ts c = 16 ∧ (openAt ts c).length ≠ 0 ∧ allBlocks (openAt ts c) = true ∧ back ts c 0 0 = (1, 0) := by
  simp [docColon] at h
  exact ⟨h.1.1.1.1, fun h0 => h.1.1.1.2 (List.length_eq_zero_iff.mp h0), h.1.1.2, h.1.2⟩
/-- Among what is looked at there is one colon at most, at the level itself. -/
theorem one_colon {ts : List Tok} {deep i k c c' : Nat} (ha : ∀ p, i ≤ p → p < k → Above ts (reps deep) p ∧ ¬ stopE ts deep p) (h1 : i ≤ c) (h2 : c < c') (h3 : c' < k) (hc : docColon ts c = true) (hc' : docColon ts c' = true) : False := by
  obtain ⟨k1, l1, b1, _⟩ := docColon_facts hc
  obtain ⟨k2, l2, b2, e2⟩ := docColon_facts hc'
  have hd : 0 < deep := by
    have := (ha c h1 (by omega)).1.blocks b1
    rw [this, reps_len] at l1
    omega
  have := back_other k1 c' 0 0 h2 fun p hp1 hp2 hpa => by
    obtain ⟨g1, g2⟩ := ha p (by omega) (by omega)
    rw [partAt, Bool.and_eq_true] at hpa
    refine g2 ⟨by rw [g1.blocks hpa.2, reps_len], ?_⟩
    have := hpa.1
    simp [partK] at this
    rcases this with (h | h) | h
    · exact .inr (.inl h)
    · exact .inl ⟨h, hd⟩
    · exact .inr (.inr h)
  rw [e2] at this
  simp at this
theorem colon_at_same {ts : List Tok} {deep i k m : Nat} (ha : ∀ p, i ≤ p → p < k → Above ts (reps deep) p ∧ ¬ stopE ts deep p) (hk : k ≤ ts.length) (hik : i ≤ k) (hm : m = k - i ∨ (m = k - i + 1 ∧ kindAt ts k ≠ 16)) :
    colonAt (colonsTo ts ts.length) i k = colD ts (colonsTo ts ts.length) deep i m := by
  cases hP : colonAt (colonsTo ts ts.length) i k with
  | some c =>
    obtain ⟨p1, p2, p3, p4⟩ := colonAt_some hP
    obtain ⟨k1, l1, b1, _⟩ := docColon_facts p4
    have hlen : (openAt ts c).length = deep := by rw [(ha c p1 p2).1.blocks b1, reps_len]
    cases hD : colD ts (colonsTo ts ts.length) deep i m with
    | none => exact absurd ⟨hlen, (contains_colons ts _ c).mpr ⟨p3, p4⟩⟩ (colD_none hD c p1 (by omega))
    | some c' =>
      obtain ⟨q1, q2⟩ := colD_le hD
      obtain ⟨_, q3⟩ := colD_some hD
      obtain ⟨q4, q5⟩ := (contains_colons ts _ c').mp q3
      have q6 : c' < k := by
        rcases hm with h | ⟨h, h'⟩
        · omega
        · by_cases hck : c' = k
          · rw [hck] at q5; exact absurd (docColon_facts q5).1 h'
          · omega
      rcases Nat.lt_trichotomy c c' with h | h | h
      · exact (one_colon ha p1 h q6 p4 q5).elim
      · rw [h]
      · exact (one_colon ha q1 h p2 q5 p4).elim
  | none =>
    cases hD : colD ts (colonsTo ts ts.length) deep i m with
    | none => rfl
    | some c' =>
      obtain ⟨q1, q2⟩ := colD_le hD
      obtain ⟨_, q3⟩ := colD_some hD
      obtain ⟨q4, q5⟩ := (contains_colons ts _ c').mp q3
      have q6 : c' < k := by
        rcases hm with h | ⟨h, h'⟩
        · omega
        · by_cases hck : c' = k
          · rw [hck] at q5; exact absurd (docColon_facts q5).1 h'
          · omega
      rw [colonAt_none hP q1 q6 q4] at q5
      cases q5
/-! ### A node, nodes -/
theorem open_same {ts : List Tok} {deep k : Nat} (hk : k < ts.length) (ho : openAt ts k = reps deep) : open_ ts deep k = !shutD ts deep k := by
  have hlt := (Above.same ho).lt (reps_blocks deep)
  rw [reps_len] at hlt
  have hl : (openAt ts k).length = deep := by rw [ho, reps_len]
  rw [Bool.eq_iff_iff, open_, shutD]
  simp only [hk, decide_true, Bool.true_and, Bool.not_eq_true', decide_eq_false_iff_not, Bool.and_eq_false_iff]
  rw [hlt]
  simp only [hl, true_and, not_true_eq_false, or_false]
  omega
theorem reps_block {ts : List Tok} {deep k : Nat} (hk : k < ts.length) (ho : openAt ts k = reps deep) (h : kindAt ts k = 19) : openAt ts (k + 1) = reps (deep + 1) := by
  have ht : ts[k]? = some ts[k] := List.getElem?_eq_getElem hk
  have hn : ¬ (reps deep).getLast? = some 19 := by
    rw [← ho]; exact not_last (by simp [Shuts])
  rw [openAt_succ ht, ← kindAt_some ht, h, nestStep, ho, if_neg hn, if_pos (by decide)]
  rw [show closes 19 = 20 from rfl, reps, reps, List.replicate_succ']
theorem reps_semi {ts : List Tok} {deep k : Nat} (hk : k < ts.length) (ho : openAt ts k = reps deep) (h : kindAt ts k = 17) : openAt ts (k + 1) = reps deep := by
  have ht : ts[k]? = some ts[k] := List.getElem?_eq_getElem hk
  have hn : ¬ (reps deep).getLast? = some 17 := by
    rw [← ho]; exact not_last (by simp [Shuts])
  rw [openAt_succ ht, ← kindAt_some ht, h, nestStep, ho, if_neg hn, if_neg (by decide)]
theorem reps_shut {ts : List Tok} {deep k : Nat} (hk : k < ts.length) (ho : openAt ts k = reps (deep + 1)) (h : kindAt ts k = 20) : openAt ts (k + 1) = reps deep := by
  have ht : ts[k]? = some ts[k] := List.getElem?_eq_getElem hk
  rw [openAt_succ ht, ← kindAt_some ht, h, nestStep, ho, if_pos (blocks_last (reps_blocks _) (by simp [reps]))]
  rw [reps, reps, List.replicate_succ', List.dropLast_concat]
def recOk (ts : List Tok) (cols : List Int) (n : Nat) : Prop := ∀ i deep, i ≤ ts.length → ts.length - i ≤ n → (i < ts.length → openAt ts i = reps deep) →
  nodesP ts cols n i deep = nodesD ts cols n i deep ∧ i ≤ (nodesD ts cols n i deep).2 ∧ (nodesD ts cols n i deep).2 ≤ ts.length ∧
  ((nodesD ts cols n i deep).2 < ts.length → openAt ts (nodesD ts cols n i deep).2 = reps deep ∧ shutD ts deep (nodesD ts cols n i deep).2 = true)
theorem node_same {ts : List Tok} {n i deep : Nat} (hr : recOk ts (colonsTo ts ts.length) n) (hi : i < ts.length) (ho : openAt ts i = reps deep) (hs : shutD ts deep i = false) (hf : ts.length - (i + 1) ≤ n) :
    nodeP ts (colonsTo ts ts.length) (nodesP ts (colonsTo ts ts.length) n) i deep = nodeD ts (colonsTo ts ts.length) (nodesD ts (colonsTo ts ts.length) n) i deep ∧
    i < (nodeD ts (colonsTo ts ts.length) (nodesD ts (colonsTo ts ts.length) n) i deep).2 ∧ (nodeD ts (colonsTo ts ts.length) (nodesD ts (colonsTo ts ts.length) n) i deep).2 ≤ ts.length ∧
    ((nodeD ts (colonsTo ts ts.length) (nodesD ts (colonsTo ts ts.length) n) i deep).2 < ts.length → openAt ts (nodeD ts (colonsTo ts ts.length) (nodesD ts (colonsTo ts ts.length) n) i deep).2 = reps deep) := by
  obtain ⟨e1, ha, hstop⟩ := scan_same ts deep (ts.length - i) i (by omega) (.same ho)
  have hle := endD_le ts deep (ts.length - i) i
  unfold nodeP nodeD
  simp only
  rw [e1]
  generalize endD ts deep (ts.length - i) i = k at ha hstop hle
  by_cases hk : k < ts.length
  · obtain ⟨hab, hlk, hkind⟩ := hstop hk
    have hok := hab.eq (by rw [reps_len]; exact hlk)
    have hop := open_same hk hok
    by_cases h19 : kindAt ts k = 19
    · have hsh : shutD ts deep k = false := by simp [shutD, h19]
      rw [hop, hsh, if_pos ⟨rfl, h19⟩, if_pos ⟨hk, h19⟩]
      obtain ⟨g1, g2, g3, g4⟩ := hr (k + 1) (deep + 1) (by omega) (by omega) fun _ => reps_block hk hok h19
      unfold ruleP
      simp only
      rw [g1]
      refine ⟨rfl, ?_, ?_, ?_⟩
      · split <;> omega
      · split <;> omega
      · split
        · rename_i hlt
          intro _
          obtain ⟨g5, g6⟩ := g4 hlt
          refine reps_shut hlt g5 ?_
          simp [shutD] at g6
          exact g6.1
        · intro h; omega
    · rw [if_neg fun h => h19 h.2, if_neg fun h => h19 h.2, if_pos hk]
      have hcol := colon_at_same (m := k - i + 1) ha (by omega) (by omega) (.inr ⟨rfl, by rcases hkind with h | h | h <;> omega⟩)
      unfold leafP leafD
      simp only
      by_cases h17 : kindAt ts k = 17
      · have hsh : shutD ts deep k = false := by simp [shutD, h17]
        rw [hop, hsh, hcol, h17]
        refine ⟨rfl, ?_, ?_, fun _ => ?_⟩
        · simp; omega
        · simp; omega
        · simpa using reps_semi hk hok h17
      · have h20 : kindAt ts k = 20 ∧ 0 < deep := by rcases hkind with h | h | h <;> first | exact h | omega
        have hsh : shutD ts deep k = true := by simp [shutD, h20.1, h20.2, hlk]
        have hne : k ≠ i := fun h => by rw [h, hs] at hsh; cases hsh
        rw [hop, hsh, hcol, decide_eq_false h17]
        refine ⟨rfl, ?_, ?_, fun _ => ?_⟩
        · simp; omega
        · simp; omega
        · simpa using hok
  · have hkn : k = ts.length := by omega
    have hop : open_ ts deep k = false := by simp [open_, hk]
    rw [hop, if_neg (by simp), if_neg fun h => hk h.1, if_neg hk]
    have hcol := colon_at_same (m := k - i) ha (by omega) (by omega) (.inl rfl)
    unfold leafP leafD
    simp only
    rw [hop, hcol]
    refine ⟨rfl, ?_, ?_, fun h => ?_⟩
    · simp; omega
    · simp; omega
    · simp at h; omega
theorem nodes_same (ts : List Tok) : ∀ n, recOk ts (colonsTo ts ts.length) n
  | 0 => fun i deep h1 h2 h3 => ⟨rfl, Nat.le_refl _, h1, fun h => by simp only [nodesD] at h; omega⟩
  | n + 1 => fun i deep h1 h2 h3 => by
    have ih := nodes_same ts n
    unfold nodesP nodesD
    by_cases hi : i < ts.length
    · have ho := h3 hi
      rw [open_same hi ho]
      cases hs : shutD ts deep i with
      | true => simp [hs, ho, hi, h1]
      | false =>
        obtain ⟨g1, g2, g3, g4⟩ := node_same ih hi ho hs (by omega)
        rw [if_pos (by rfl : (!false) = true), if_pos ⟨hi, rfl⟩]
        simp only
        rw [g1]
        obtain ⟨k1, k2, k3, k4⟩ := ih (nodeD ts (colonsTo ts ts.length) (nodesD ts (colonsTo ts ts.length) n) i deep).2 deep g3 (by omega) g4
        rw [k1]
        exact ⟨rfl, by omega, k3, k4⟩
    · rw [if_neg (by simp [open_, hi]), if_neg fun h => hi h.1]
      exact ⟨rfl, Nat.le_refl _, h1, fun h => absurd h hi⟩
theorem parse_same (ts : List Tok) : parseP ts = parseD ts := by
  rw [parseP, parseD, colons_same]
  rw [(nodes_same ts ts.length 0 0 (by omega) (by omega) fun _ => by simp [openAt, reps]).1]
end Go.Vx.Seat
end
/- The tokens of nodes. -/
section
open Go Go.Vx Go.Proofs
set_option linter.unusedSimpArgs false
set_option linter.unusedVariables false
set_option maxRecDepth 10000
set_option maxHeartbeats 8000000
namespace Go.Vx.Seat
attribute [local congr] Rg_at Rt_at Ro_at Ri_at Rc_at Rto_at Rtk_at Rtf_at Rti_at
theorem fn16 : nth C1.P.funcs.toList 16 = some Try.f16 := by kernel_rfl
theorem fn29 : nth C1.P.funcs.toList 29 = some Try.f29 := by kernel_rfl
theorem fn15 : nth C1.P.funcs.toList 15 = some Try.f15 := by kernel_rfl
theorem xbinI_eql (k k' : IntKind) (a b : Int) : xbinI .eql k k' a b = if k = k' then xint .eql k a b else none := rfl
theorem xbinI_neq (k k' : IntKind) (a b : Int) : xbinI .neq k k' a b = if k = k' then xint .neq k a b else none := rfl
theorem xbinI_lss (k k' : IntKind) (a b : Int) : xbinI .lss k k' a b = if k = k' then xint .lss k a b else none := rfl
theorem xbinI_leq (k k' : IntKind) (a b : Int) : xbinI .leq k k' a b = if k = k' then xint .leq k a b else none := rfl
theorem xbinI_gtr (k k' : IntKind) (a b : Int) : xbinI .gtr k k' a b = if k = k' then xint .gtr k a b else none := rfl
theorem xbinI_geq (k k' : IntKind) (a b : Int) : xbinI .geq k k' a b = if k = k' then xint .geq k a b else none := rfl
theorem xbinI_add (k k' : IntKind) (a b : Int) : xbinI .add k k' a b = if k = k' then xint .add k a b else none := rfl
theorem xbinI_sub (k k' : IntKind) (a b : Int) : xbinI .sub k k' a b = if k = k' then xint .sub k a b else none := rfl
theorem ySource_row (s : Sto) (sz z : Nat) (els : List (List PC)) : ySource s sz (.c (.p (.row z els))) = if z = sz then some els else none := rfl
theorem ySource_own (s : Sto) (sz id z o l : Nat) : ySource s sz (.c (.own id z o l)) = (match yrow s (.c (.own id z o l)) with | some (z, els) => if z = sz then some els else none | none => none) := rfl
theorem ySource_nil (s : Sto) (sz c : Nat) : ySource s sz (.c (.p (.d (.slice none 0 c)))) = some [] := rfl
def mkTok (k a : Int) : Tok := ⟨k, ⟨#[]⟩, ⟨#[]⟩, false, ⟨#[]⟩, ⟨#[]⟩, false, false, 0, 0, 0, 0, a⟩
mutual
def Nd.toks : Nd → List Tok
  | .mk k h t ks o s m a l => h ++ (if k = 2 then mkTok 16 a :: t else []) ++ (if k = 1 then (if o then [mkTok 19 a] else []) ++ toksOf ks ++ (if s then [mkTok 20 l] else []) else []) ++ (if m then [mkTok 17 l] else [])
def toksOf : List Nd → List Tok
  | [] => []
  | n :: ns => n.toks ++ toksOf ns
end
theorem toksOf_map : ∀ ns : List Nd, toksOf ns = (ns.map Nd.toks).flatten
  | [] => by rw [toksOf]; rfl
  | n :: ns => by rw [toksOf, toksOf_map ns]; rfl
theorem toksOf_snoc (ns : List Nd) (x : Nd) : toksOf (ns ++ [x]) = toksOf ns ++ x.toks := by simp [toksOf_map]
theorem toksOf_take {ns : List Nd} {i : Nat} {x : Nd} (h : ns[i]? = some x) : toksOf (ns.take (i + 1)) = toksOf (ns.take i) ++ x.toks := by
  rw [List.take_add_one, h]; exact toksOf_snoc _ _
theorem toksOf_le {ns : List Nd} {i : Nat} {x : Nd} (h : ns[i]? = some x) : (toksOf (ns.take i)).length + x.toks.length ≤ (toksOf ns).length := by
  have h1 : toksOf ns = toksOf (ns.take (i + 1)) ++ toksOf (ns.drop (i + 1)) := by
    rw [toksOf_map, toksOf_map, toksOf_map, ← List.flatten_append, ← List.map_append, List.take_append_drop]
  rw [← List.length_append, ← toksOf_take h, h1, List.length_append]
  omega
theorem bnd {n : Nat} (h : n ≤ 549755813888) : (n * 128 ≤ 70368744177664) = True := by simp; omega
theorem lit1 (k a : Int) : [[PC.d (.int .i64 k), .d (.string ⟨#[]⟩), .d (.string ⟨#[]⟩), .d (.bool false), .d (.string ⟨#[]⟩), .d (.string ⟨#[]⟩), .d (.bool false), .d (.bool false), .d (.int .i64 0), .d (.int .i64 0), .d (.int .i64 0), .d (.int .i64 0), .d (.int .i64 a)]] = [mkTok k a].map Tok.pc := rfl

/-- What a node's tokens are, by what is read of it. -/
def TokSpec : Nd → Prop
  | .mk k h t ks o s m a l => (toksOf ks).length ≤ 1000000 → PCall C1 16 [.c (.p (rN ks))] fun y => y = .c (.p (rT (toksOf ks)))
theorem toksD_list (ns : List Nd) (hl : ns.length ≤ 1000000) (hr : ∀ x, x ∈ ns → TokSpec x) (hb : (toksOf ns).length ≤ 1000000) : PCall C1 16 [.c (.p (rN ns))] fun y => y = .c (.p (rT (toksOf ns))) := by
  refine Pf (by rfl) (by rfl) fn16 (by rfl) ?_
  simp only [Try.f16, List.length_cons, List.length_nil, List.replicate, List.cons_append, List.nil_append]
  simp -implicitDefEqProofs only [↓yRp, yRt, Nat.reduceAdd, Nat.reduceMul, Nat.reduceSub, Nat.reduceLeDiff, Nat.reduceEqDiff, if_true, if_false, reduceCtorEq, exists_eq_left', ne_eq, implies_true, Nat.reduceBEq]
  refine Rl_nil 3 13 (by decide) rfl ?_
  refine Rl_inv (fun d e s => ∃ i : Nat, e = [.c (.p (rN ns)), .c .top, .c .top, .c (.own 0 13 0 (toksOf (ns.take i)).length), yd (.int .i64 i), .c .top, .c .top, .c .top, .c .top, .c .top, .c .top, .c .top, .c .top, .c .top, .c .top, .c .top, .c .top, .c .top, .c .top, .c .top, .c .top, .c .top, .c .top, .c .top, .c .top, .c .top, .c .top, .c .top, .c .top, .c .top, .c .top, .c .top, .c .top, .c .top, .c .top, .c .top, .c .top, .c .top, .c .top, .c .top, .c .top, .c .top, .c .top, .c .top, .c .top, .c .top, .c .top, .c .top, .c .top, .c .top, .c .top, .c .top, .c .top, .c .top, .c .top, .c .top, .c .top, .c .top, .c .top, .c .top, .c .top, .c .top, .c .top, .c .top, .c .top] ∧ s = [.row 13 ((toksOf (ns.take i)).map Tok.pc)] ∧ i + d = ns.length) [true, false, false, true, true] ns.length [0] (by decide) (pinned_zero _) ⟨0, rfl, rfl, by omega⟩ ?_
  rintro d e s ⟨i, rfl, rfl, hd⟩
  by_cases hi : i < ns.length
  · obtain ⟨x, hx⟩ := get_lt hi
    have hxr := hr x (List.mem_of_getElem? hx)
    have hle := toksOf_le hx
    have hsn := toksOf_take hx
    obtain ⟨k0, h0, t0, ks0, o0, s0, m0, a0, l0⟩ := x
    simp only [TokSpec] at hxr
    have t1 : leI (ns.length : Nat) (i : Nat) = false := leI_false (by omega)
    have w1 : wrapK .i64 ((i : Int) + 1) = ((i + 1 : Nat) : Int) := wrap_succ (by omega)
    have hg := get_map (f := Nd.pc) hx
    rw [pc_mk] at hg
    simp only [Nd.toks, List.length_append] at hle
    generalize hac : toksOf (ns.take i) = acc at hle hsn ⊢
    by_cases q1 : k0 = 2
    · have f1 : eqI k0 2 = true := by rw [q1]; rfl
      have f2 : True := trivial
      subst q1
      simp only [if_true, List.length_cons] at hle
      cases m0 with
      | false =>
        simp -implicitDefEqProofs (disch := first | (intros; rename_i h; cases h; done) | ((try simp only [List.length_append, List.length_map, List.length_cons, List.length_nil]); omega)) only [↓yRp, yRt, Nat.reduceAdd, Nat.reduceMul, Nat.reduceSub, Nat.reduceLeDiff, Nat.reduceEqDiff, if_true, if_false, reduceCtorEq, exists_eq_left', ne_eq, implies_true, Nat.reduceBEq, t1, hg, xbinI_eql, xbinI_neq, xbinI_lss, xbinI_leq, xbinI_gtr, xbinI_geq, xbinI_add, xbinI_sub, ySource_row, ySource_own, ySource_nil, bnd, List.take_of_length_le, List.length_append, f1, f2, w1]
        refine Rd_trace ?_
        simp -implicitDefEqProofs (disch := first | (intros; rename_i h; cases h; done) | ((try simp only [List.length_append, List.length_map, List.length_cons, List.length_nil]); omega)) only [↓yRp, yRt, Nat.reduceAdd, Nat.reduceMul, Nat.reduceSub, Nat.reduceLeDiff, Nat.reduceEqDiff, if_true, if_false, reduceCtorEq, exists_eq_left', ne_eq, implies_true, Nat.reduceBEq, xbinI_eql, xbinI_neq, xbinI_lss, xbinI_leq, xbinI_gtr, xbinI_geq, xbinI_add, xbinI_sub, ySource_row, ySource_own, ySource_nil, bnd, List.take_of_length_le, List.length_append, f1, f2, w1]
        refine ⟨d - 1, [5], by omega, by decide, pinned_zero _, i + 1, ?_, ?_, by omega⟩
        · simp only [yren.eq_1, yren.eq_2, yren.eq_3, yren.eq_4, renV.eq_1, renV.eq_2, renV.eq_3, renC.eq_1, renC.eq_2, renC.eq_3, renC.eq_4, renC.eq_5, renE.eq_1, renE.eq_2, renE.eq_3, renS.eq_1, renB.eq_1, renB.eq_2, renB.eq_3, slotIx_nil, slotIx_cons, nth_zero, nth_succ, yrow.eq_1, yrow.eq_2, Nat.reduceEqDiff, if_true, if_false, List.map_cons, List.map_nil, Nat.zero_add, Nat.add_zero, Nat.le_refl, and_self, and_true, true_and, List.drop_zero, take_map_len, take_map_snoc, snoc_len, List.length_map, List.length_append, List.length_cons, List.length_nil, Nat.reduceAdd, reduceCtorEq, Nat.one_ne_zero, List.set_set, hsn, Nd.toks]
          try (simp [Nat.add_assoc] <;> omega)
        · simp only [yren.eq_1, yren.eq_2, yren.eq_3, yren.eq_4, renV.eq_1, renV.eq_2, renV.eq_3, renC.eq_1, renC.eq_2, renC.eq_3, renC.eq_4, renC.eq_5, renE.eq_1, renE.eq_2, renE.eq_3, renS.eq_1, renB.eq_1, renB.eq_2, renB.eq_3, slotIx_nil, slotIx_cons, nth_zero, nth_succ, yrow.eq_1, yrow.eq_2, Nat.reduceEqDiff, if_true, if_false, List.map_cons, List.map_nil, Nat.zero_add, Nat.add_zero, Nat.le_refl, and_self, and_true, true_and, List.drop_zero, take_map_len, take_map_snoc, snoc_len, List.length_map, List.length_append, List.length_cons, List.length_nil, Nat.reduceAdd, reduceCtorEq, Nat.one_ne_zero, List.set_set, hsn, Nd.toks, lit1]
          try simp
      | true =>
        simp -implicitDefEqProofs (disch := first | (intros; rename_i h; cases h; done) | ((try simp only [List.length_append, List.length_map, List.length_cons, List.length_nil]); omega)) only [↓yRp, yRt, Nat.reduceAdd, Nat.reduceMul, Nat.reduceSub, Nat.reduceLeDiff, Nat.reduceEqDiff, if_true, if_false, reduceCtorEq, exists_eq_left', ne_eq, implies_true, Nat.reduceBEq, t1, hg, xbinI_eql, xbinI_neq, xbinI_lss, xbinI_leq, xbinI_gtr, xbinI_geq, xbinI_add, xbinI_sub, ySource_row, ySource_own, ySource_nil, bnd, List.take_of_length_le, List.length_append, f1, f2, w1]
        refine Rd_trace ?_
        simp -implicitDefEqProofs (disch := first | (intros; rename_i h; cases h; done) | ((try simp only [List.length_append, List.length_map, List.length_cons, List.length_nil]); omega)) only [↓yRp, yRt, Nat.reduceAdd, Nat.reduceMul, Nat.reduceSub, Nat.reduceLeDiff, Nat.reduceEqDiff, if_true, if_false, reduceCtorEq, exists_eq_left', ne_eq, implies_true, Nat.reduceBEq, xbinI_eql, xbinI_neq, xbinI_lss, xbinI_leq, xbinI_gtr, xbinI_geq, xbinI_add, xbinI_sub, ySource_row, ySource_own, ySource_nil, bnd, List.take_of_length_le, List.length_append, f1, f2, w1]
        refine ⟨d - 1, [7], by omega, by decide, pinned_zero _, i + 1, ?_, ?_, by omega⟩
        · simp only [yren.eq_1, yren.eq_2, yren.eq_3, yren.eq_4, renV.eq_1, renV.eq_2, renV.eq_3, renC.eq_1, renC.eq_2, renC.eq_3, renC.eq_4, renC.eq_5, renE.eq_1, renE.eq_2, renE.eq_3, renS.eq_1, renB.eq_1, renB.eq_2, renB.eq_3, slotIx_nil, slotIx_cons, nth_zero, nth_succ, yrow.eq_1, yrow.eq_2, Nat.reduceEqDiff, if_true, if_false, List.map_cons, List.map_nil, Nat.zero_add, Nat.add_zero, Nat.le_refl, and_self, and_true, true_and, List.drop_zero, take_map_len, take_map_snoc, snoc_len, List.length_map, List.length_append, List.length_cons, List.length_nil, Nat.reduceAdd, reduceCtorEq, Nat.one_ne_zero, List.set_set, hsn, Nd.toks]
          try (simp [Nat.add_assoc] <;> omega)
        · simp only [yren.eq_1, yren.eq_2, yren.eq_3, yren.eq_4, renV.eq_1, renV.eq_2, renV.eq_3, renC.eq_1, renC.eq_2, renC.eq_3, renC.eq_4, renC.eq_5, renE.eq_1, renE.eq_2, renE.eq_3, renS.eq_1, renB.eq_1, renB.eq_2, renB.eq_3, slotIx_nil, slotIx_cons, nth_zero, nth_succ, yrow.eq_1, yrow.eq_2, Nat.reduceEqDiff, if_true, if_false, List.map_cons, List.map_nil, Nat.zero_add, Nat.add_zero, Nat.le_refl, and_self, and_true, true_and, List.drop_zero, take_map_len, take_map_snoc, snoc_len, List.length_map, List.length_append, List.length_cons, List.length_nil, Nat.reduceAdd, reduceCtorEq, Nat.one_ne_zero, List.set_set, hsn, Nd.toks, lit1]
          try simp
    have f1 : eqI k0 2 = false := eqI_false q1
    by_cases q2 : k0 = 1
    · have f2 : eqI k0 1 = true := by rw [q2]; rfl
      subst q2
      simp only [if_true, List.length_append] at hle
      have hks := hxr (by omega)
      rcases o0 with _ | _ <;> rcases s0 with _ | _ <;> rcases m0 with _ | _
      · skip
        simp -implicitDefEqProofs (disch := first | (intros; rename_i h; cases h; done) | ((try simp only [List.length_append, List.length_map, List.length_cons, List.length_nil]); omega)) only [↓yRp, yRt, Nat.reduceAdd, Nat.reduceMul, Nat.reduceSub, Nat.reduceLeDiff, Nat.reduceEqDiff, if_true, if_false, reduceCtorEq, exists_eq_left', ne_eq, implies_true, Nat.reduceBEq, t1, hg, xbinI_eql, xbinI_neq, xbinI_lss, xbinI_leq, xbinI_gtr, xbinI_geq, xbinI_add, xbinI_sub, ySource_row, ySource_own, ySource_nil, bnd, List.take_of_length_le, List.length_append, f1, f2, w1]
        refine Rcall_pure hks (by rfl) fun y hy => ?_
        subst hy
        simp -implicitDefEqProofs (disch := first | (intros; rename_i h; cases h; done) | ((try simp only [List.length_append, List.length_map, List.length_cons, List.length_nil]); omega)) only [↓yRp, yRt, Nat.reduceAdd, Nat.reduceMul, Nat.reduceSub, Nat.reduceLeDiff, Nat.reduceEqDiff, if_true, if_false, reduceCtorEq, exists_eq_left', ne_eq, implies_true, Nat.reduceBEq, xbinI_eql, xbinI_neq, xbinI_lss, xbinI_leq, xbinI_gtr, xbinI_geq, xbinI_add, xbinI_sub, ySource_row, ySource_own, ySource_nil, bnd, List.take_of_length_le, List.length_append, f1, f2, w1]
        refine ⟨d - 1, [3], by omega, by decide, pinned_zero _, i + 1, ?_, ?_, by omega⟩
        · simp only [yren.eq_1, yren.eq_2, yren.eq_3, yren.eq_4, renV.eq_1, renV.eq_2, renV.eq_3, renC.eq_1, renC.eq_2, renC.eq_3, renC.eq_4, renC.eq_5, renE.eq_1, renE.eq_2, renE.eq_3, renS.eq_1, renB.eq_1, renB.eq_2, renB.eq_3, slotIx_nil, slotIx_cons, nth_zero, nth_succ, yrow.eq_1, yrow.eq_2, Nat.reduceEqDiff, if_true, if_false, List.map_cons, List.map_nil, Nat.zero_add, Nat.add_zero, Nat.le_refl, and_self, and_true, true_and, List.drop_zero, take_map_len, take_map_snoc, snoc_len, List.length_map, List.length_append, List.length_cons, List.length_nil, Nat.reduceAdd, reduceCtorEq, Nat.one_ne_zero, List.set_set, hsn, Nd.toks]
          try (simp [Nat.add_assoc] <;> omega)
        · simp only [yren.eq_1, yren.eq_2, yren.eq_3, yren.eq_4, renV.eq_1, renV.eq_2, renV.eq_3, renC.eq_1, renC.eq_2, renC.eq_3, renC.eq_4, renC.eq_5, renE.eq_1, renE.eq_2, renE.eq_3, renS.eq_1, renB.eq_1, renB.eq_2, renB.eq_3, slotIx_nil, slotIx_cons, nth_zero, nth_succ, yrow.eq_1, yrow.eq_2, Nat.reduceEqDiff, if_true, if_false, List.map_cons, List.map_nil, Nat.zero_add, Nat.add_zero, Nat.le_refl, and_self, and_true, true_and, List.drop_zero, take_map_len, take_map_snoc, snoc_len, List.length_map, List.length_append, List.length_cons, List.length_nil, Nat.reduceAdd, reduceCtorEq, Nat.one_ne_zero, List.set_set, hsn, Nd.toks, lit1]
          try simp
      · skip
        simp -implicitDefEqProofs (disch := first | (intros; rename_i h; cases h; done) | ((try simp only [List.length_append, List.length_map, List.length_cons, List.length_nil]); omega)) only [↓yRp, yRt, Nat.reduceAdd, Nat.reduceMul, Nat.reduceSub, Nat.reduceLeDiff, Nat.reduceEqDiff, if_true, if_false, reduceCtorEq, exists_eq_left', ne_eq, implies_true, Nat.reduceBEq, t1, hg, xbinI_eql, xbinI_neq, xbinI_lss, xbinI_leq, xbinI_gtr, xbinI_geq, xbinI_add, xbinI_sub, ySource_row, ySource_own, ySource_nil, bnd, List.take_of_length_le, List.length_append, f1, f2, w1]
        refine Rcall_pure hks (by rfl) fun y hy => ?_
        subst hy
        simp -implicitDefEqProofs (disch := first | (intros; rename_i h; cases h; done) | ((try simp only [List.length_append, List.length_map, List.length_cons, List.length_nil]); omega)) only [↓yRp, yRt, Nat.reduceAdd, Nat.reduceMul, Nat.reduceSub, Nat.reduceLeDiff, Nat.reduceEqDiff, if_true, if_false, reduceCtorEq, exists_eq_left', ne_eq, implies_true, Nat.reduceBEq, xbinI_eql, xbinI_neq, xbinI_lss, xbinI_leq, xbinI_gtr, xbinI_geq, xbinI_add, xbinI_sub, ySource_row, ySource_own, ySource_nil, bnd, List.take_of_length_le, List.length_append, f1, f2, w1]
        refine ⟨d - 1, [5], by omega, by decide, pinned_zero _, i + 1, ?_, ?_, by omega⟩
        · simp only [yren.eq_1, yren.eq_2, yren.eq_3, yren.eq_4, renV.eq_1, renV.eq_2, renV.eq_3, renC.eq_1, renC.eq_2, renC.eq_3, renC.eq_4, renC.eq_5, renE.eq_1, renE.eq_2, renE.eq_3, renS.eq_1, renB.eq_1, renB.eq_2, renB.eq_3, slotIx_nil, slotIx_cons, nth_zero, nth_succ, yrow.eq_1, yrow.eq_2, Nat.reduceEqDiff, if_true, if_false, List.map_cons, List.map_nil, Nat.zero_add, Nat.add_zero, Nat.le_refl, and_self, and_true, true_and, List.drop_zero, take_map_len, take_map_snoc, snoc_len, List.length_map, List.length_append, List.length_cons, List.length_nil, Nat.reduceAdd, reduceCtorEq, Nat.one_ne_zero, List.set_set, hsn, Nd.toks]
          try (simp [Nat.add_assoc] <;> omega)
        · simp only [yren.eq_1, yren.eq_2, yren.eq_3, yren.eq_4, renV.eq_1, renV.eq_2, renV.eq_3, renC.eq_1, renC.eq_2, renC.eq_3, renC.eq_4, renC.eq_5, renE.eq_1, renE.eq_2, renE.eq_3, renS.eq_1, renB.eq_1, renB.eq_2, renB.eq_3, slotIx_nil, slotIx_cons, nth_zero, nth_succ, yrow.eq_1, yrow.eq_2, Nat.reduceEqDiff, if_true, if_false, List.map_cons, List.map_nil, Nat.zero_add, Nat.add_zero, Nat.le_refl, and_self, and_true, true_and, List.drop_zero, take_map_len, take_map_snoc, snoc_len, List.length_map, List.length_append, List.length_cons, List.length_nil, Nat.reduceAdd, reduceCtorEq, Nat.one_ne_zero, List.set_set, hsn, Nd.toks, lit1]
          try simp
      · skip
        simp -implicitDefEqProofs (disch := first | (intros; rename_i h; cases h; done) | ((try simp only [List.length_append, List.length_map, List.length_cons, List.length_nil]); omega)) only [↓yRp, yRt, Nat.reduceAdd, Nat.reduceMul, Nat.reduceSub, Nat.reduceLeDiff, Nat.reduceEqDiff, if_true, if_false, reduceCtorEq, exists_eq_left', ne_eq, implies_true, Nat.reduceBEq, t1, hg, xbinI_eql, xbinI_neq, xbinI_lss, xbinI_leq, xbinI_gtr, xbinI_geq, xbinI_add, xbinI_sub, ySource_row, ySource_own, ySource_nil, bnd, List.take_of_length_le, List.length_append, f1, f2, w1]
        refine Rcall_pure hks (by rfl) fun y hy => ?_
        subst hy
        simp -implicitDefEqProofs (disch := first | (intros; rename_i h; cases h; done) | ((try simp only [List.length_append, List.length_map, List.length_cons, List.length_nil]); omega)) only [↓yRp, yRt, Nat.reduceAdd, Nat.reduceMul, Nat.reduceSub, Nat.reduceLeDiff, Nat.reduceEqDiff, if_true, if_false, reduceCtorEq, exists_eq_left', ne_eq, implies_true, Nat.reduceBEq, xbinI_eql, xbinI_neq, xbinI_lss, xbinI_leq, xbinI_gtr, xbinI_geq, xbinI_add, xbinI_sub, ySource_row, ySource_own, ySource_nil, bnd, List.take_of_length_le, List.length_append, f1, f2, w1]
        refine ⟨d - 1, [5], by omega, by decide, pinned_zero _, i + 1, ?_, ?_, by omega⟩
        · simp only [yren.eq_1, yren.eq_2, yren.eq_3, yren.eq_4, renV.eq_1, renV.eq_2, renV.eq_3, renC.eq_1, renC.eq_2, renC.eq_3, renC.eq_4, renC.eq_5, renE.eq_1, renE.eq_2, renE.eq_3, renS.eq_1, renB.eq_1, renB.eq_2, renB.eq_3, slotIx_nil, slotIx_cons, nth_zero, nth_succ, yrow.eq_1, yrow.eq_2, Nat.reduceEqDiff, if_true, if_false, List.map_cons, List.map_nil, Nat.zero_add, Nat.add_zero, Nat.le_refl, and_self, and_true, true_and, List.drop_zero, take_map_len, take_map_snoc, snoc_len, List.length_map, List.length_append, List.length_cons, List.length_nil, Nat.reduceAdd, reduceCtorEq, Nat.one_ne_zero, List.set_set, hsn, Nd.toks]
          try (simp [Nat.add_assoc] <;> omega)
        · simp only [yren.eq_1, yren.eq_2, yren.eq_3, yren.eq_4, renV.eq_1, renV.eq_2, renV.eq_3, renC.eq_1, renC.eq_2, renC.eq_3, renC.eq_4, renC.eq_5, renE.eq_1, renE.eq_2, renE.eq_3, renS.eq_1, renB.eq_1, renB.eq_2, renB.eq_3, slotIx_nil, slotIx_cons, nth_zero, nth_succ, yrow.eq_1, yrow.eq_2, Nat.reduceEqDiff, if_true, if_false, List.map_cons, List.map_nil, Nat.zero_add, Nat.add_zero, Nat.le_refl, and_self, and_true, true_and, List.drop_zero, take_map_len, take_map_snoc, snoc_len, List.length_map, List.length_append, List.length_cons, List.length_nil, Nat.reduceAdd, reduceCtorEq, Nat.one_ne_zero, List.set_set, hsn, Nd.toks, lit1]
          try simp
      · skip
        simp -implicitDefEqProofs (disch := first | (intros; rename_i h; cases h; done) | ((try simp only [List.length_append, List.length_map, List.length_cons, List.length_nil]); omega)) only [↓yRp, yRt, Nat.reduceAdd, Nat.reduceMul, Nat.reduceSub, Nat.reduceLeDiff, Nat.reduceEqDiff, if_true, if_false, reduceCtorEq, exists_eq_left', ne_eq, implies_true, Nat.reduceBEq, t1, hg, xbinI_eql, xbinI_neq, xbinI_lss, xbinI_leq, xbinI_gtr, xbinI_geq, xbinI_add, xbinI_sub, ySource_row, ySource_own, ySource_nil, bnd, List.take_of_length_le, List.length_append, f1, f2, w1]
        refine Rcall_pure hks (by rfl) fun y hy => ?_
        subst hy
        simp -implicitDefEqProofs (disch := first | (intros; rename_i h; cases h; done) | ((try simp only [List.length_append, List.length_map, List.length_cons, List.length_nil]); omega)) only [↓yRp, yRt, Nat.reduceAdd, Nat.reduceMul, Nat.reduceSub, Nat.reduceLeDiff, Nat.reduceEqDiff, if_true, if_false, reduceCtorEq, exists_eq_left', ne_eq, implies_true, Nat.reduceBEq, xbinI_eql, xbinI_neq, xbinI_lss, xbinI_leq, xbinI_gtr, xbinI_geq, xbinI_add, xbinI_sub, ySource_row, ySource_own, ySource_nil, bnd, List.take_of_length_le, List.length_append, f1, f2, w1]
        refine ⟨d - 1, [7], by omega, by decide, pinned_zero _, i + 1, ?_, ?_, by omega⟩
        · simp only [yren.eq_1, yren.eq_2, yren.eq_3, yren.eq_4, renV.eq_1, renV.eq_2, renV.eq_3, renC.eq_1, renC.eq_2, renC.eq_3, renC.eq_4, renC.eq_5, renE.eq_1, renE.eq_2, renE.eq_3, renS.eq_1, renB.eq_1, renB.eq_2, renB.eq_3, slotIx_nil, slotIx_cons, nth_zero, nth_succ, yrow.eq_1, yrow.eq_2, Nat.reduceEqDiff, if_true, if_false, List.map_cons, List.map_nil, Nat.zero_add, Nat.add_zero, Nat.le_refl, and_self, and_true, true_and, List.drop_zero, take_map_len, take_map_snoc, snoc_len, List.length_map, List.length_append, List.length_cons, List.length_nil, Nat.reduceAdd, reduceCtorEq, Nat.one_ne_zero, List.set_set, hsn, Nd.toks]
          try (simp [Nat.add_assoc] <;> omega)
        · simp only [yren.eq_1, yren.eq_2, yren.eq_3, yren.eq_4, renV.eq_1, renV.eq_2, renV.eq_3, renC.eq_1, renC.eq_2, renC.eq_3, renC.eq_4, renC.eq_5, renE.eq_1, renE.eq_2, renE.eq_3, renS.eq_1, renB.eq_1, renB.eq_2, renB.eq_3, slotIx_nil, slotIx_cons, nth_zero, nth_succ, yrow.eq_1, yrow.eq_2, Nat.reduceEqDiff, if_true, if_false, List.map_cons, List.map_nil, Nat.zero_add, Nat.add_zero, Nat.le_refl, and_self, and_true, true_and, List.drop_zero, take_map_len, take_map_snoc, snoc_len, List.length_map, List.length_append, List.length_cons, List.length_nil, Nat.reduceAdd, reduceCtorEq, Nat.one_ne_zero, List.set_set, hsn, Nd.toks, lit1]
          try simp
      · skip
        simp -implicitDefEqProofs (disch := first | (intros; rename_i h; cases h; done) | ((try simp only [List.length_append, List.length_map, List.length_cons, List.length_nil]); omega)) only [↓yRp, yRt, Nat.reduceAdd, Nat.reduceMul, Nat.reduceSub, Nat.reduceLeDiff, Nat.reduceEqDiff, if_true, if_false, reduceCtorEq, exists_eq_left', ne_eq, implies_true, Nat.reduceBEq, t1, hg, xbinI_eql, xbinI_neq, xbinI_lss, xbinI_leq, xbinI_gtr, xbinI_geq, xbinI_add, xbinI_sub, ySource_row, ySource_own, ySource_nil, bnd, List.take_of_length_le, List.length_append, f1, f2, w1]
        refine Rcall_pure hks (by rfl) fun y hy => ?_
        subst hy
        simp -implicitDefEqProofs (disch := first | (intros; rename_i h; cases h; done) | ((try simp only [List.length_append, List.length_map, List.length_cons, List.length_nil]); omega)) only [↓yRp, yRt, Nat.reduceAdd, Nat.reduceMul, Nat.reduceSub, Nat.reduceLeDiff, Nat.reduceEqDiff, if_true, if_false, reduceCtorEq, exists_eq_left', ne_eq, implies_true, Nat.reduceBEq, xbinI_eql, xbinI_neq, xbinI_lss, xbinI_leq, xbinI_gtr, xbinI_geq, xbinI_add, xbinI_sub, ySource_row, ySource_own, ySource_nil, bnd, List.take_of_length_le, List.length_append, f1, f2, w1]
        refine ⟨d - 1, [5], by omega, by decide, pinned_zero _, i + 1, ?_, ?_, by omega⟩
        · simp only [yren.eq_1, yren.eq_2, yren.eq_3, yren.eq_4, renV.eq_1, renV.eq_2, renV.eq_3, renC.eq_1, renC.eq_2, renC.eq_3, renC.eq_4, renC.eq_5, renE.eq_1, renE.eq_2, renE.eq_3, renS.eq_1, renB.eq_1, renB.eq_2, renB.eq_3, slotIx_nil, slotIx_cons, nth_zero, nth_succ, yrow.eq_1, yrow.eq_2, Nat.reduceEqDiff, if_true, if_false, List.map_cons, List.map_nil, Nat.zero_add, Nat.add_zero, Nat.le_refl, and_self, and_true, true_and, List.drop_zero, take_map_len, take_map_snoc, snoc_len, List.length_map, List.length_append, List.length_cons, List.length_nil, Nat.reduceAdd, reduceCtorEq, Nat.one_ne_zero, List.set_set, hsn, Nd.toks]
          try (simp [Nat.add_assoc] <;> omega)
        · simp only [yren.eq_1, yren.eq_2, yren.eq_3, yren.eq_4, renV.eq_1, renV.eq_2, renV.eq_3, renC.eq_1, renC.eq_2, renC.eq_3, renC.eq_4, renC.eq_5, renE.eq_1, renE.eq_2, renE.eq_3, renS.eq_1, renB.eq_1, renB.eq_2, renB.eq_3, slotIx_nil, slotIx_cons, nth_zero, nth_succ, yrow.eq_1, yrow.eq_2, Nat.reduceEqDiff, if_true, if_false, List.map_cons, List.map_nil, Nat.zero_add, Nat.add_zero, Nat.le_refl, and_self, and_true, true_and, List.drop_zero, take_map_len, take_map_snoc, snoc_len, List.length_map, List.length_append, List.length_cons, List.length_nil, Nat.reduceAdd, reduceCtorEq, Nat.one_ne_zero, List.set_set, hsn, Nd.toks, lit1]
          try simp
      · skip
        simp -implicitDefEqProofs (disch := first | (intros; rename_i h; cases h; done) | ((try simp only [List.length_append, List.length_map, List.length_cons, List.length_nil]); omega)) only [↓yRp, yRt, Nat.reduceAdd, Nat.reduceMul, Nat.reduceSub, Nat.reduceLeDiff, Nat.reduceEqDiff, if_true, if_false, reduceCtorEq, exists_eq_left', ne_eq, implies_true, Nat.reduceBEq, t1, hg, xbinI_eql, xbinI_neq, xbinI_lss, xbinI_leq, xbinI_gtr, xbinI_geq, xbinI_add, xbinI_sub, ySource_row, ySource_own, ySource_nil, bnd, List.take_of_length_le, List.length_append, f1, f2, w1]
        refine Rcall_pure hks (by rfl) fun y hy => ?_
        subst hy
        simp -implicitDefEqProofs (disch := first | (intros; rename_i h; cases h; done) | ((try simp only [List.length_append, List.length_map, List.length_cons, List.length_nil]); omega)) only [↓yRp, yRt, Nat.reduceAdd, Nat.reduceMul, Nat.reduceSub, Nat.reduceLeDiff, Nat.reduceEqDiff, if_true, if_false, reduceCtorEq, exists_eq_left', ne_eq, implies_true, Nat.reduceBEq, xbinI_eql, xbinI_neq, xbinI_lss, xbinI_leq, xbinI_gtr, xbinI_geq, xbinI_add, xbinI_sub, ySource_row, ySource_own, ySource_nil, bnd, List.take_of_length_le, List.length_append, f1, f2, w1]
        refine ⟨d - 1, [7], by omega, by decide, pinned_zero _, i + 1, ?_, ?_, by omega⟩
        · simp only [yren.eq_1, yren.eq_2, yren.eq_3, yren.eq_4, renV.eq_1, renV.eq_2, renV.eq_3, renC.eq_1, renC.eq_2, renC.eq_3, renC.eq_4, renC.eq_5, renE.eq_1, renE.eq_2, renE.eq_3, renS.eq_1, renB.eq_1, renB.eq_2, renB.eq_3, slotIx_nil, slotIx_cons, nth_zero, nth_succ, yrow.eq_1, yrow.eq_2, Nat.reduceEqDiff, if_true, if_false, List.map_cons, List.map_nil, Nat.zero_add, Nat.add_zero, Nat.le_refl, and_self, and_true, true_and, List.drop_zero, take_map_len, take_map_snoc, snoc_len, List.length_map, List.length_append, List.length_cons, List.length_nil, Nat.reduceAdd, reduceCtorEq, Nat.one_ne_zero, List.set_set, hsn, Nd.toks]
          try (simp [Nat.add_assoc] <;> omega)
        · simp only [yren.eq_1, yren.eq_2, yren.eq_3, yren.eq_4, renV.eq_1, renV.eq_2, renV.eq_3, renC.eq_1, renC.eq_2, renC.eq_3, renC.eq_4, renC.eq_5, renE.eq_1, renE.eq_2, renE.eq_3, renS.eq_1, renB.eq_1, renB.eq_2, renB.eq_3, slotIx_nil, slotIx_cons, nth_zero, nth_succ, yrow.eq_1, yrow.eq_2, Nat.reduceEqDiff, if_true, if_false, List.map_cons, List.map_nil, Nat.zero_add, Nat.add_zero, Nat.le_refl, and_self, and_true, true_and, List.drop_zero, take_map_len, take_map_snoc, snoc_len, List.length_map, List.length_append, List.length_cons, List.length_nil, Nat.reduceAdd, reduceCtorEq, Nat.one_ne_zero, List.set_set, hsn, Nd.toks, lit1]
          try simp
      · skip
        simp -implicitDefEqProofs (disch := first | (intros; rename_i h; cases h; done) | ((try simp only [List.length_append, List.length_map, List.length_cons, List.length_nil]); omega)) only [↓yRp, yRt, Nat.reduceAdd, Nat.reduceMul, Nat.reduceSub, Nat.reduceLeDiff, Nat.reduceEqDiff, if_true, if_false, reduceCtorEq, exists_eq_left', ne_eq, implies_true, Nat.reduceBEq, t1, hg, xbinI_eql, xbinI_neq, xbinI_lss, xbinI_leq, xbinI_gtr, xbinI_geq, xbinI_add, xbinI_sub, ySource_row, ySource_own, ySource_nil, bnd, List.take_of_length_le, List.length_append, f1, f2, w1]
        refine Rcall_pure hks (by rfl) fun y hy => ?_
        subst hy
        simp -implicitDefEqProofs (disch := first | (intros; rename_i h; cases h; done) | ((try simp only [List.length_append, List.length_map, List.length_cons, List.length_nil]); omega)) only [↓yRp, yRt, Nat.reduceAdd, Nat.reduceMul, Nat.reduceSub, Nat.reduceLeDiff, Nat.reduceEqDiff, if_true, if_false, reduceCtorEq, exists_eq_left', ne_eq, implies_true, Nat.reduceBEq, xbinI_eql, xbinI_neq, xbinI_lss, xbinI_leq, xbinI_gtr, xbinI_geq, xbinI_add, xbinI_sub, ySource_row, ySource_own, ySource_nil, bnd, List.take_of_length_le, List.length_append, f1, f2, w1]
        refine ⟨d - 1, [7], by omega, by decide, pinned_zero _, i + 1, ?_, ?_, by omega⟩
        · simp only [yren.eq_1, yren.eq_2, yren.eq_3, yren.eq_4, renV.eq_1, renV.eq_2, renV.eq_3, renC.eq_1, renC.eq_2, renC.eq_3, renC.eq_4, renC.eq_5, renE.eq_1, renE.eq_2, renE.eq_3, renS.eq_1, renB.eq_1, renB.eq_2, renB.eq_3, slotIx_nil, slotIx_cons, nth_zero, nth_succ, yrow.eq_1, yrow.eq_2, Nat.reduceEqDiff, if_true, if_false, List.map_cons, List.map_nil, Nat.zero_add, Nat.add_zero, Nat.le_refl, and_self, and_true, true_and, List.drop_zero, take_map_len, take_map_snoc, snoc_len, List.length_map, List.length_append, List.length_cons, List.length_nil, Nat.reduceAdd, reduceCtorEq, Nat.one_ne_zero, List.set_set, hsn, Nd.toks]
          try (simp [Nat.add_assoc] <;> omega)
        · simp only [yren.eq_1, yren.eq_2, yren.eq_3, yren.eq_4, renV.eq_1, renV.eq_2, renV.eq_3, renC.eq_1, renC.eq_2, renC.eq_3, renC.eq_4, renC.eq_5, renE.eq_1, renE.eq_2, renE.eq_3, renS.eq_1, renB.eq_1, renB.eq_2, renB.eq_3, slotIx_nil, slotIx_cons, nth_zero, nth_succ, yrow.eq_1, yrow.eq_2, Nat.reduceEqDiff, if_true, if_false, List.map_cons, List.map_nil, Nat.zero_add, Nat.add_zero, Nat.le_refl, and_self, and_true, true_and, List.drop_zero, take_map_len, take_map_snoc, snoc_len, List.length_map, List.length_append, List.length_cons, List.length_nil, Nat.reduceAdd, reduceCtorEq, Nat.one_ne_zero, List.set_set, hsn, Nd.toks, lit1]
          try simp
      · skip
        simp -implicitDefEqProofs (disch := first | (intros; rename_i h; cases h; done) | ((try simp only [List.length_append, List.length_map, List.length_cons, List.length_nil]); omega)) only [↓yRp, yRt, Nat.reduceAdd, Nat.reduceMul, Nat.reduceSub, Nat.reduceLeDiff, Nat.reduceEqDiff, if_true, if_false, reduceCtorEq, exists_eq_left', ne_eq, implies_true, Nat.reduceBEq, t1, hg, xbinI_eql, xbinI_neq, xbinI_lss, xbinI_leq, xbinI_gtr, xbinI_geq, xbinI_add, xbinI_sub, ySource_row, ySource_own, ySource_nil, bnd, List.take_of_length_le, List.length_append, f1, f2, w1]
        refine Rcall_pure hks (by rfl) fun y hy => ?_
        subst hy
        simp -implicitDefEqProofs (disch := first | (intros; rename_i h; cases h; done) | ((try simp only [List.length_append, List.length_map, List.length_cons, List.length_nil]); omega)) only [↓yRp, yRt, Nat.reduceAdd, Nat.reduceMul, Nat.reduceSub, Nat.reduceLeDiff, Nat.reduceEqDiff, if_true, if_false, reduceCtorEq, exists_eq_left', ne_eq, implies_true, Nat.reduceBEq, xbinI_eql, xbinI_neq, xbinI_lss, xbinI_leq, xbinI_gtr, xbinI_geq, xbinI_add, xbinI_sub, ySource_row, ySource_own, ySource_nil, bnd, List.take_of_length_le, List.length_append, f1, f2, w1]
        refine ⟨d - 1, [9], by omega, by decide, pinned_zero _, i + 1, ?_, ?_, by omega⟩
        · simp only [yren.eq_1, yren.eq_2, yren.eq_3, yren.eq_4, renV.eq_1, renV.eq_2, renV.eq_3, renC.eq_1, renC.eq_2, renC.eq_3, renC.eq_4, renC.eq_5, renE.eq_1, renE.eq_2, renE.eq_3, renS.eq_1, renB.eq_1, renB.eq_2, renB.eq_3, slotIx_nil, slotIx_cons, nth_zero, nth_succ, yrow.eq_1, yrow.eq_2, Nat.reduceEqDiff, if_true, if_false, List.map_cons, List.map_nil, Nat.zero_add, Nat.add_zero, Nat.le_refl, and_self, and_true, true_and, List.drop_zero, take_map_len, take_map_snoc, snoc_len, List.length_map, List.length_append, List.length_cons, List.length_nil, Nat.reduceAdd, reduceCtorEq, Nat.one_ne_zero, List.set_set, hsn, Nd.toks]
          try (simp [Nat.add_assoc] <;> omega)
        · simp only [yren.eq_1, yren.eq_2, yren.eq_3, yren.eq_4, renV.eq_1, renV.eq_2, renV.eq_3, renC.eq_1, renC.eq_2, renC.eq_3, renC.eq_4, renC.eq_5, renE.eq_1, renE.eq_2, renE.eq_3, renS.eq_1, renB.eq_1, renB.eq_2, renB.eq_3, slotIx_nil, slotIx_cons, nth_zero, nth_succ, yrow.eq_1, yrow.eq_2, Nat.reduceEqDiff, if_true, if_false, List.map_cons, List.map_nil, Nat.zero_add, Nat.add_zero, Nat.le_refl, and_self, and_true, true_and, List.drop_zero, take_map_len, take_map_snoc, snoc_len, List.length_map, List.length_append, List.length_cons, List.length_nil, Nat.reduceAdd, reduceCtorEq, Nat.one_ne_zero, List.set_set, hsn, Nd.toks, lit1]
          try simp
    · have f2 : eqI k0 1 = false := eqI_false q2
      rw [if_neg q1, if_neg q2] at hle
      cases m0 with
      | false =>
        simp -implicitDefEqProofs (disch := first | (intros; rename_i h; cases h; done) | ((try simp only [List.length_append, List.length_map, List.length_cons, List.length_nil]); omega)) only [↓yRp, yRt, Nat.reduceAdd, Nat.reduceMul, Nat.reduceSub, Nat.reduceLeDiff, Nat.reduceEqDiff, if_true, if_false, reduceCtorEq, exists_eq_left', ne_eq, implies_true, Nat.reduceBEq, t1, hg, xbinI_eql, xbinI_neq, xbinI_lss, xbinI_leq, xbinI_gtr, xbinI_geq, xbinI_add, xbinI_sub, ySource_row, ySource_own, ySource_nil, bnd, List.take_of_length_le, List.length_append, f1, f2, w1]
        refine ⟨d - 1, [2], by omega, by decide, pinned_zero _, i + 1, ?_, ?_, by omega⟩
        · simp only [yren.eq_1, yren.eq_2, yren.eq_3, yren.eq_4, renV.eq_1, renV.eq_2, renV.eq_3, renC.eq_1, renC.eq_2, renC.eq_3, renC.eq_4, renC.eq_5, renE.eq_1, renE.eq_2, renE.eq_3, renS.eq_1, renB.eq_1, renB.eq_2, renB.eq_3, slotIx_nil, slotIx_cons, nth_zero, nth_succ, yrow.eq_1, yrow.eq_2, Nat.reduceEqDiff, if_true, if_false, List.map_cons, List.map_nil, Nat.zero_add, Nat.add_zero, Nat.le_refl, and_self, and_true, true_and, List.drop_zero, take_map_len, take_map_snoc, snoc_len, List.length_map, List.length_append, List.length_cons, List.length_nil, Nat.reduceAdd, reduceCtorEq, Nat.one_ne_zero, List.set_set, hsn, Nd.toks, if_neg q1, if_neg q2]
          try (simp [Nat.add_assoc] <;> omega)
        · simp only [yren.eq_1, yren.eq_2, yren.eq_3, yren.eq_4, renV.eq_1, renV.eq_2, renV.eq_3, renC.eq_1, renC.eq_2, renC.eq_3, renC.eq_4, renC.eq_5, renE.eq_1, renE.eq_2, renE.eq_3, renS.eq_1, renB.eq_1, renB.eq_2, renB.eq_3, slotIx_nil, slotIx_cons, nth_zero, nth_succ, yrow.eq_1, yrow.eq_2, Nat.reduceEqDiff, if_true, if_false, List.map_cons, List.map_nil, Nat.zero_add, Nat.add_zero, Nat.le_refl, and_self, and_true, true_and, List.drop_zero, take_map_len, take_map_snoc, snoc_len, List.length_map, List.length_append, List.length_cons, List.length_nil, Nat.reduceAdd, reduceCtorEq, Nat.one_ne_zero, List.set_set, hsn, Nd.toks, lit1, if_neg q1, if_neg q2]
          try simp
      | true =>
        simp -implicitDefEqProofs (disch := first | (intros; rename_i h; cases h; done) | ((try simp only [List.length_append, List.length_map, List.length_cons, List.length_nil]); omega)) only [↓yRp, yRt, Nat.reduceAdd, Nat.reduceMul, Nat.reduceSub, Nat.reduceLeDiff, Nat.reduceEqDiff, if_true, if_false, reduceCtorEq, exists_eq_left', ne_eq, implies_true, Nat.reduceBEq, t1, hg, xbinI_eql, xbinI_neq, xbinI_lss, xbinI_leq, xbinI_gtr, xbinI_geq, xbinI_add, xbinI_sub, ySource_row, ySource_own, ySource_nil, bnd, List.take_of_length_le, List.length_append, f1, f2, w1]
        refine ⟨d - 1, [4], by omega, by decide, pinned_zero _, i + 1, ?_, ?_, by omega⟩
        · simp only [yren.eq_1, yren.eq_2, yren.eq_3, yren.eq_4, renV.eq_1, renV.eq_2, renV.eq_3, renC.eq_1, renC.eq_2, renC.eq_3, renC.eq_4, renC.eq_5, renE.eq_1, renE.eq_2, renE.eq_3, renS.eq_1, renB.eq_1, renB.eq_2, renB.eq_3, slotIx_nil, slotIx_cons, nth_zero, nth_succ, yrow.eq_1, yrow.eq_2, Nat.reduceEqDiff, if_true, if_false, List.map_cons, List.map_nil, Nat.zero_add, Nat.add_zero, Nat.le_refl, and_self, and_true, true_and, List.drop_zero, take_map_len, take_map_snoc, snoc_len, List.length_map, List.length_append, List.length_cons, List.length_nil, Nat.reduceAdd, reduceCtorEq, Nat.one_ne_zero, List.set_set, hsn, Nd.toks, if_neg q1, if_neg q2]
          try (simp [Nat.add_assoc] <;> omega)
        · simp only [yren.eq_1, yren.eq_2, yren.eq_3, yren.eq_4, renV.eq_1, renV.eq_2, renV.eq_3, renC.eq_1, renC.eq_2, renC.eq_3, renC.eq_4, renC.eq_5, renE.eq_1, renE.eq_2, renE.eq_3, renS.eq_1, renB.eq_1, renB.eq_2, renB.eq_3, slotIx_nil, slotIx_cons, nth_zero, nth_succ, yrow.eq_1, yrow.eq_2, Nat.reduceEqDiff, if_true, if_false, List.map_cons, List.map_nil, Nat.zero_add, Nat.add_zero, Nat.le_refl, and_self, and_true, true_and, List.drop_zero, take_map_len, take_map_snoc, snoc_len, List.length_map, List.length_append, List.length_cons, List.length_nil, Nat.reduceAdd, reduceCtorEq, Nat.one_ne_zero, List.set_set, hsn, Nd.toks, lit1, if_neg q1, if_neg q2]
          try simp
  · have t1 : leI (ns.length : Nat) (i : Nat) = true := leI_true (by omega)
    have : i = ns.length := by omega
    subst this
    simp -implicitDefEqProofs only [↓yRp, yRt, Nat.reduceAdd, Nat.reduceMul, Nat.reduceSub, Nat.reduceLeDiff, Nat.reduceEqDiff, if_true, if_false, reduceCtorEq, exists_eq_left', ne_eq, implies_true, Nat.reduceBEq, t1, List.take_length]
end Go.Vx.Seat
end
/- The tokens of nodes, behind others: the program's. -/
section
open Go Go.Vx Go.Proofs
set_option linter.unusedSimpArgs false
set_option linter.unusedVariables false
set_option maxRecDepth 10000
set_option maxHeartbeats 8000000
namespace Go.Vx.Seat
attribute [local congr] Rg_at Rt_at Ro_at Ri_at Rc_at Rto_at Rtk_at Rtf_at Rti_at
def TokSpecP : Nd → Prop
  | .mk k h t ks o s m a l => ∀ out : List Tok, out.length + (toksOf ks).length ≤ 2000000 → YC C1 false 29 [.c (.own 0 13 0 (out.map Tok.pc).length), .c (.p (rN ks))] [.row 13 (out.map Tok.pc)] (KOwn 13 ((out ++ toksOf ks).map Tok.pc))
theorem toksP_list (ns : List Nd) (hl : ns.length ≤ 1000000) (hr : ∀ x, x ∈ ns → TokSpecP x) (out : List Tok) (hb : out.length + (toksOf ns).length ≤ 2000000) :
    YC C1 false 29 [.c (.own 0 13 0 (out.map Tok.pc).length), .c (.p (rN ns))] [.row 13 (out.map Tok.pc)] (KOwn 13 ((out ++ toksOf ns).map Tok.pc)) := by
  refine Yf0 [] (by rfl) (by rfl) fn29 (by rfl) ?_
  simp only [Try.f29, List.length_cons, List.length_nil, List.replicate, List.cons_append, List.nil_append]
  simp -implicitDefEqProofs only [↓yRp, yRt, Nat.reduceAdd, Nat.reduceMul, Nat.reduceSub, Nat.reduceLeDiff, Nat.reduceEqDiff, if_true, if_false, reduceCtorEq, exists_eq_left', ne_eq, implies_true, Nat.reduceBEq]
  refine Rl_alias 0 0 rfl rfl ?_
  refine Rl_inv (fun d e s => ∃ i : Nat, e = [.c (.own 1 13 0 (out ++ toksOf (ns.take i)).length), .c .top, .c .top, .c .top, .c .top, .c .top, .c .top, .c (.p (rN ns)), yd (.int .i64 ns.length), yd (.int .i64 i), .c .top, .c .top, .c .top, .c .top, .c .top, .c .top, .c .top, .c .top, .c .top, .c .top, .c .top, .c .top, .c .top, .c .top, .c .top, .c .top, .c .top, .c .top, .c .top, .c .top, .c .top, .c .top, .c .top, .c .top, .c .top, .c .top, .c .top, .c .top, .c .top, .c .top, .c .top, .c .top, .c .top, .c .top, .c .top, .c .top, .c .top, .c .top, .c .top, .c .top, .c .top, .c .top, .c .top, .c .top, .c .top, .c .top, .c .top, .c .top, .c .top, .c .top, .c .top, .c .top, .c .top, .c .top, .c .top, .c .top, .c .top, .c .top, .c .top, .c .top, .c .top, .c .top, .c .top] ∧ s = [.dead, .row 13 ((out ++ toksOf (ns.take i)).map Tok.pc)] ∧ i + d = ns.length) [true, false, false, false, false, false, false, true, true, true] ns.length [0, 1] (by decide) (pinned_one _) ⟨0, by simp [toksOf]; rfl, by simp [toksOf]; rfl, by omega⟩ ?_
  rintro d e s ⟨i, rfl, rfl, hd⟩
  by_cases hi : i < ns.length
  · obtain ⟨x, hx⟩ := get_lt hi
    have hxr := hr x (List.mem_of_getElem? hx)
    have hle := toksOf_le hx
    have hsn : out ++ toksOf (ns.take (i + 1)) = (out ++ toksOf (ns.take i)) ++ x.toks := by rw [toksOf_take hx, List.append_assoc]
    have hle : (out ++ toksOf (ns.take i)).length + x.toks.length ≤ 2000000 := by rw [List.length_append]; omega
    obtain ⟨k0, h0, t0, ks0, o0, s0, m0, a0, l0⟩ := x
    simp only [TokSpecP] at hxr
    have t1 : leI (ns.length : Nat) (i : Nat) = false := leI_false (by omega)
    have w1 : wrapK .i64 ((i : Int) + 1) = ((i + 1 : Nat) : Int) := wrap_succ (by omega)
    have hg := get_map (f := Nd.pc) hx
    rw [pc_mk] at hg
    generalize hac : out ++ toksOf (ns.take i) = acc at hle hsn ⊢
    have hsl : out.length + (toksOf (ns.take (i + 1))).length = (acc ++ (Nd.mk k0 h0 t0 ks0 o0 s0 m0 a0 l0).toks).length := by rw [← List.length_append, hsn]
    have hsm : out.map Tok.pc ++ (toksOf (ns.take (i + 1))).map Tok.pc = (acc ++ (Nd.mk k0 h0 t0 ks0 o0 s0 m0 a0 l0).toks).map Tok.pc := by rw [← List.map_append, hsn]
    simp only [Nd.toks, List.length_append] at hle
    by_cases q1 : k0 = 2
    · have f1 : eqI k0 2 = true := by rw [q1]; rfl
      have f2 : eqI k0 1 = false := by rw [q1]; rfl
      subst q1
      simp only [if_true, List.length_cons] at hle
      cases m0 with
      | false =>
        simp -implicitDefEqProofs (disch := first | (intros; rename_i h; cases h; done) | ((try simp only [List.length_append, List.length_map, List.length_cons, List.length_nil]); omega)) only [↓yRp, yRt, Nat.reduceAdd, Nat.reduceMul, Nat.reduceSub, Nat.reduceLeDiff, Nat.reduceEqDiff, if_true, if_false, reduceCtorEq, exists_eq_left', ne_eq, implies_true, Nat.reduceBEq, t1, hg, xbinI_eql, xbinI_neq, xbinI_lss, xbinI_leq, xbinI_gtr, xbinI_geq, xbinI_add, xbinI_sub, ySource_row, ySource_own, ySource_nil, bnd, List.take_of_length_le, List.length_append, f1, f2, w1]
        refine ⟨d - 1, [0, 6], by omega, by decide, pinned_one _, i + 1, ?_, ?_, by omega⟩
        · rw [hsl]
          simp only [yren.eq_1, yren.eq_2, yren.eq_3, yren.eq_4, renV.eq_1, renV.eq_2, renV.eq_3, renC.eq_1, renC.eq_2, renC.eq_3, renC.eq_4, renC.eq_5, renE.eq_1, renE.eq_2, renE.eq_3, renS.eq_1, renB.eq_1, renB.eq_2, renB.eq_3, slotIx_nil, slotIx_cons, nth_zero, nth_succ, yrow.eq_1, yrow.eq_2, Nat.reduceEqDiff, if_true, if_false, List.map_cons, List.map_nil, Nat.zero_add, Nat.add_zero, Nat.le_refl, and_self, and_true, true_and, List.drop_zero, take_map_len, take_map_snoc, snoc_len, List.length_map, List.length_append, List.length_cons, List.length_nil, Nat.reduceAdd, reduceCtorEq, Nat.one_ne_zero, List.set_set, Nd.toks]
          try (simp [Nat.add_assoc] <;> omega)
        · rw [hsn]
          simp only [yren.eq_1, yren.eq_2, yren.eq_3, yren.eq_4, renV.eq_1, renV.eq_2, renV.eq_3, renC.eq_1, renC.eq_2, renC.eq_3, renC.eq_4, renC.eq_5, renE.eq_1, renE.eq_2, renE.eq_3, renS.eq_1, renB.eq_1, renB.eq_2, renB.eq_3, slotIx_nil, slotIx_cons, nth_zero, nth_succ, yrow.eq_1, yrow.eq_2, Nat.reduceEqDiff, if_true, if_false, List.map_cons, List.map_nil, Nat.zero_add, Nat.add_zero, Nat.le_refl, and_self, and_true, true_and, List.drop_zero, take_map_len, take_map_snoc, snoc_len, List.length_map, List.length_append, List.length_cons, List.length_nil, Nat.reduceAdd, reduceCtorEq, Nat.one_ne_zero, List.set_set, Nd.toks, lit1]
          try simp
      | true =>
        simp -implicitDefEqProofs (disch := first | (intros; rename_i h; cases h; done) | ((try simp only [List.length_append, List.length_map, List.length_cons, List.length_nil]); omega)) only [↓yRp, yRt, Nat.reduceAdd, Nat.reduceMul, Nat.reduceSub, Nat.reduceLeDiff, Nat.reduceEqDiff, if_true, if_false, reduceCtorEq, exists_eq_left', ne_eq, implies_true, Nat.reduceBEq, t1, hg, xbinI_eql, xbinI_neq, xbinI_lss, xbinI_leq, xbinI_gtr, xbinI_geq, xbinI_add, xbinI_sub, ySource_row, ySource_own, ySource_nil, bnd, List.take_of_length_le, List.length_append, f1, f2, w1]
        refine ⟨d - 1, [0, 8], by omega, by decide, pinned_one _, i + 1, ?_, ?_, by omega⟩
        · rw [hsl]
          simp only [yren.eq_1, yren.eq_2, yren.eq_3, yren.eq_4, renV.eq_1, renV.eq_2, renV.eq_3, renC.eq_1, renC.eq_2, renC.eq_3, renC.eq_4, renC.eq_5, renE.eq_1, renE.eq_2, renE.eq_3, renS.eq_1, renB.eq_1, renB.eq_2, renB.eq_3, slotIx_nil, slotIx_cons, nth_zero, nth_succ, yrow.eq_1, yrow.eq_2, Nat.reduceEqDiff, if_true, if_false, List.map_cons, List.map_nil, Nat.zero_add, Nat.add_zero, Nat.le_refl, and_self, and_true, true_and, List.drop_zero, take_map_len, take_map_snoc, snoc_len, List.length_map, List.length_append, List.length_cons, List.length_nil, Nat.reduceAdd, reduceCtorEq, Nat.one_ne_zero, List.set_set, Nd.toks]
          try (simp [Nat.add_assoc] <;> omega)
        · rw [hsn]
          simp only [yren.eq_1, yren.eq_2, yren.eq_3, yren.eq_4, renV.eq_1, renV.eq_2, renV.eq_3, renC.eq_1, renC.eq_2, renC.eq_3, renC.eq_4, renC.eq_5, renE.eq_1, renE.eq_2, renE.eq_3, renS.eq_1, renB.eq_1, renB.eq_2, renB.eq_3, slotIx_nil, slotIx_cons, nth_zero, nth_succ, yrow.eq_1, yrow.eq_2, Nat.reduceEqDiff, if_true, if_false, List.map_cons, List.map_nil, Nat.zero_add, Nat.add_zero, Nat.le_refl, and_self, and_true, true_and, List.drop_zero, take_map_len, take_map_snoc, snoc_len, List.length_map, List.length_append, List.length_cons, List.length_nil, Nat.reduceAdd, reduceCtorEq, Nat.one_ne_zero, List.set_set, Nd.toks, lit1]
          try simp
    have f1 : eqI k0 2 = false := eqI_false q1
    by_cases q2 : k0 = 1
    · have f2 : eqI k0 1 = true := by rw [q2]; rfl
      subst q2
      simp only [if_true, List.length_append] at hle
      rcases o0 with _ | _ <;> rcases s0 with _ | _ <;> rcases m0 with _ | _
      · simp -implicitDefEqProofs (disch := first | (intros; rename_i h; cases h; done) | ((try simp only [List.length_append, List.length_map, List.length_cons, List.length_nil]); omega)) only [↓yRp, yRt, Nat.reduceAdd, Nat.reduceMul, Nat.reduceSub, Nat.reduceLeDiff, Nat.reduceEqDiff, if_true, if_false, reduceCtorEq, exists_eq_left', ne_eq, implies_true, Nat.reduceBEq, t1, hg, xbinI_eql, xbinI_neq, xbinI_lss, xbinI_leq, xbinI_gtr, xbinI_geq, xbinI_add, xbinI_sub, ySource_row, ySource_own, ySource_nil, bnd, List.take_of_length_le, List.length_append, f1, f2, w1]
        have hks := hxr (acc ++ h0) (by simp at hle ⊢; omega)
        refine Rcall_own' (els := (acc ++ h0).map Tok.pc) (n' := (acc ++ h0 ++ toksOf ks0).length) (by simp) (by simp) (by rfl) (by first | (simp [lit1]; done) | (simp [lit1]; omega)) hks ?_
        simp -implicitDefEqProofs (disch := first | (intros; rename_i h; cases h; done) | ((try simp only [List.length_append, List.length_map, List.length_cons, List.length_nil]); omega)) only [↓yRp, yRt, Nat.reduceAdd, Nat.reduceMul, Nat.reduceSub, Nat.reduceLeDiff, Nat.reduceEqDiff, if_true, if_false, reduceCtorEq, exists_eq_left', ne_eq, implies_true, Nat.reduceBEq, List.map_append, xbinI_eql, xbinI_neq, xbinI_lss, xbinI_leq, xbinI_gtr, xbinI_geq, xbinI_add, xbinI_sub, ySource_row, ySource_own, ySource_nil, bnd, List.take_of_length_le, List.length_append, f1, f2, w1]
        refine ⟨d - 1, [0, 4], by omega, by decide, pinned_one _, i + 1, ?_, ?_, by omega⟩
        · rw [hsl]
          simp only [yren.eq_1, yren.eq_2, yren.eq_3, yren.eq_4, renV.eq_1, renV.eq_2, renV.eq_3, renC.eq_1, renC.eq_2, renC.eq_3, renC.eq_4, renC.eq_5, renE.eq_1, renE.eq_2, renE.eq_3, renS.eq_1, renB.eq_1, renB.eq_2, renB.eq_3, slotIx_nil, slotIx_cons, nth_zero, nth_succ, yrow.eq_1, yrow.eq_2, Nat.reduceEqDiff, if_true, if_false, List.map_cons, List.map_nil, Nat.zero_add, Nat.add_zero, Nat.le_refl, and_self, and_true, true_and, List.drop_zero, take_map_len, take_map_snoc, snoc_len, List.length_map, List.length_append, List.length_cons, List.length_nil, Nat.reduceAdd, reduceCtorEq, Nat.one_ne_zero, List.set_set, Nd.toks]
          try (simp [Nat.add_assoc] <;> omega)
        · rw [hsm]
          simp only [yren.eq_1, yren.eq_2, yren.eq_3, yren.eq_4, renV.eq_1, renV.eq_2, renV.eq_3, renC.eq_1, renC.eq_2, renC.eq_3, renC.eq_4, renC.eq_5, renE.eq_1, renE.eq_2, renE.eq_3, renS.eq_1, renB.eq_1, renB.eq_2, renB.eq_3, slotIx_nil, slotIx_cons, nth_zero, nth_succ, yrow.eq_1, yrow.eq_2, Nat.reduceEqDiff, if_true, if_false, List.map_cons, List.map_nil, Nat.zero_add, Nat.add_zero, Nat.le_refl, and_self, and_true, true_and, List.drop_zero, take_map_len, take_map_snoc, snoc_len, List.length_map, List.length_append, List.length_cons, List.length_nil, Nat.reduceAdd, reduceCtorEq, Nat.one_ne_zero, List.set_set, Nd.toks, lit1]
          try simp
      · simp -implicitDefEqProofs (disch := first | (intros; rename_i h; cases h; done) | ((try simp only [List.length_append, List.length_map, List.length_cons, List.length_nil]); omega)) only [↓yRp, yRt, Nat.reduceAdd, Nat.reduceMul, Nat.reduceSub, Nat.reduceLeDiff, Nat.reduceEqDiff, if_true, if_false, reduceCtorEq, exists_eq_left', ne_eq, implies_true, Nat.reduceBEq, t1, hg, xbinI_eql, xbinI_neq, xbinI_lss, xbinI_leq, xbinI_gtr, xbinI_geq, xbinI_add, xbinI_sub, ySource_row, ySource_own, ySource_nil, bnd, List.take_of_length_le, List.length_append, f1, f2, w1]
        have hks := hxr (acc ++ h0) (by simp at hle ⊢; omega)
        refine Rcall_own' (els := (acc ++ h0).map Tok.pc) (n' := (acc ++ h0 ++ toksOf ks0).length) (by simp) (by simp) (by rfl) (by first | (simp [lit1]; done) | (simp [lit1]; omega)) hks ?_
        simp -implicitDefEqProofs (disch := first | (intros; rename_i h; cases h; done) | ((try simp only [List.length_append, List.length_map, List.length_cons, List.length_nil]); omega)) only [↓yRp, yRt, Nat.reduceAdd, Nat.reduceMul, Nat.reduceSub, Nat.reduceLeDiff, Nat.reduceEqDiff, if_true, if_false, reduceCtorEq, exists_eq_left', ne_eq, implies_true, Nat.reduceBEq, List.map_append, xbinI_eql, xbinI_neq, xbinI_lss, xbinI_leq, xbinI_gtr, xbinI_geq, xbinI_add, xbinI_sub, ySource_row, ySource_own, ySource_nil, bnd, List.take_of_length_le, List.length_append, f1, f2, w1]
        refine ⟨d - 1, [0, 6], by omega, by decide, pinned_one _, i + 1, ?_, ?_, by omega⟩
        · rw [hsl]
          simp only [yren.eq_1, yren.eq_2, yren.eq_3, yren.eq_4, renV.eq_1, renV.eq_2, renV.eq_3, renC.eq_1, renC.eq_2, renC.eq_3, renC.eq_4, renC.eq_5, renE.eq_1, renE.eq_2, renE.eq_3, renS.eq_1, renB.eq_1, renB.eq_2, renB.eq_3, slotIx_nil, slotIx_cons, nth_zero, nth_succ, yrow.eq_1, yrow.eq_2, Nat.reduceEqDiff, if_true, if_false, List.map_cons, List.map_nil, Nat.zero_add, Nat.add_zero, Nat.le_refl, and_self, and_true, true_and, List.drop_zero, take_map_len, take_map_snoc, snoc_len, List.length_map, List.length_append, List.length_cons, List.length_nil, Nat.reduceAdd, reduceCtorEq, Nat.one_ne_zero, List.set_set, Nd.toks]
          try (simp [Nat.add_assoc] <;> omega)
        · rw [hsm]
          simp only [yren.eq_1, yren.eq_2, yren.eq_3, yren.eq_4, renV.eq_1, renV.eq_2, renV.eq_3, renC.eq_1, renC.eq_2, renC.eq_3, renC.eq_4, renC.eq_5, renE.eq_1, renE.eq_2, renE.eq_3, renS.eq_1, renB.eq_1, renB.eq_2, renB.eq_3, slotIx_nil, slotIx_cons, nth_zero, nth_succ, yrow.eq_1, yrow.eq_2, Nat.reduceEqDiff, if_true, if_false, List.map_cons, List.map_nil, Nat.zero_add, Nat.add_zero, Nat.le_refl, and_self, and_true, true_and, List.drop_zero, take_map_len, take_map_snoc, snoc_len, List.length_map, List.length_append, List.length_cons, List.length_nil, Nat.reduceAdd, reduceCtorEq, Nat.one_ne_zero, List.set_set, Nd.toks, lit1]
          try simp
      · simp -implicitDefEqProofs (disch := first | (intros; rename_i h; cases h; done) | ((try simp only [List.length_append, List.length_map, List.length_cons, List.length_nil]); omega)) only [↓yRp, yRt, Nat.reduceAdd, Nat.reduceMul, Nat.reduceSub, Nat.reduceLeDiff, Nat.reduceEqDiff, if_true, if_false, reduceCtorEq, exists_eq_left', ne_eq, implies_true, Nat.reduceBEq, t1, hg, xbinI_eql, xbinI_neq, xbinI_lss, xbinI_leq, xbinI_gtr, xbinI_geq, xbinI_add, xbinI_sub, ySource_row, ySource_own, ySource_nil, bnd, List.take_of_length_le, List.length_append, f1, f2, w1]
        have hks := hxr (acc ++ h0) (by simp at hle ⊢; omega)
        refine Rcall_own' (els := (acc ++ h0).map Tok.pc) (n' := (acc ++ h0 ++ toksOf ks0).length) (by simp) (by simp) (by rfl) (by first | (simp [lit1]; done) | (simp [lit1]; omega)) hks ?_
        simp -implicitDefEqProofs (disch := first | (intros; rename_i h; cases h; done) | ((try simp only [List.length_append, List.length_map, List.length_cons, List.length_nil]); omega)) only [↓yRp, yRt, Nat.reduceAdd, Nat.reduceMul, Nat.reduceSub, Nat.reduceLeDiff, Nat.reduceEqDiff, if_true, if_false, reduceCtorEq, exists_eq_left', ne_eq, implies_true, Nat.reduceBEq, List.map_append, xbinI_eql, xbinI_neq, xbinI_lss, xbinI_leq, xbinI_gtr, xbinI_geq, xbinI_add, xbinI_sub, ySource_row, ySource_own, ySource_nil, bnd, List.take_of_length_le, List.length_append, f1, f2, w1]
        refine ⟨d - 1, [0, 6], by omega, by decide, pinned_one _, i + 1, ?_, ?_, by omega⟩
        · rw [hsl]
          simp only [yren.eq_1, yren.eq_2, yren.eq_3, yren.eq_4, renV.eq_1, renV.eq_2, renV.eq_3, renC.eq_1, renC.eq_2, renC.eq_3, renC.eq_4, renC.eq_5, renE.eq_1, renE.eq_2, renE.eq_3, renS.eq_1, renB.eq_1, renB.eq_2, renB.eq_3, slotIx_nil, slotIx_cons, nth_zero, nth_succ, yrow.eq_1, yrow.eq_2, Nat.reduceEqDiff, if_true, if_false, List.map_cons, List.map_nil, Nat.zero_add, Nat.add_zero, Nat.le_refl, and_self, and_true, true_and, List.drop_zero, take_map_len, take_map_snoc, snoc_len, List.length_map, List.length_append, List.length_cons, List.length_nil, Nat.reduceAdd, reduceCtorEq, Nat.one_ne_zero, List.set_set, Nd.toks]
          try (simp [Nat.add_assoc] <;> omega)
        · rw [hsm]
          simp only [yren.eq_1, yren.eq_2, yren.eq_3, yren.eq_4, renV.eq_1, renV.eq_2, renV.eq_3, renC.eq_1, renC.eq_2, renC.eq_3, renC.eq_4, renC.eq_5, renE.eq_1, renE.eq_2, renE.eq_3, renS.eq_1, renB.eq_1, renB.eq_2, renB.eq_3, slotIx_nil, slotIx_cons, nth_zero, nth_succ, yrow.eq_1, yrow.eq_2, Nat.reduceEqDiff, if_true, if_false, List.map_cons, List.map_nil, Nat.zero_add, Nat.add_zero, Nat.le_refl, and_self, and_true, true_and, List.drop_zero, take_map_len, take_map_snoc, snoc_len, List.length_map, List.length_append, List.length_cons, List.length_nil, Nat.reduceAdd, reduceCtorEq, Nat.one_ne_zero, List.set_set, Nd.toks, lit1]
          try simp
      · simp -implicitDefEqProofs (disch := first | (intros; rename_i h; cases h; done) | ((try simp only [List.length_append, List.length_map, List.length_cons, List.length_nil]); omega)) only [↓yRp, yRt, Nat.reduceAdd, Nat.reduceMul, Nat.reduceSub, Nat.reduceLeDiff, Nat.reduceEqDiff, if_true, if_false, reduceCtorEq, exists_eq_left', ne_eq, implies_true, Nat.reduceBEq, t1, hg, xbinI_eql, xbinI_neq, xbinI_lss, xbinI_leq, xbinI_gtr, xbinI_geq, xbinI_add, xbinI_sub, ySource_row, ySource_own, ySource_nil, bnd, List.take_of_length_le, List.length_append, f1, f2, w1]
        have hks := hxr (acc ++ h0) (by simp at hle ⊢; omega)
        refine Rcall_own' (els := (acc ++ h0).map Tok.pc) (n' := (acc ++ h0 ++ toksOf ks0).length) (by simp) (by simp) (by rfl) (by first | (simp [lit1]; done) | (simp [lit1]; omega)) hks ?_
        simp -implicitDefEqProofs (disch := first | (intros; rename_i h; cases h; done) | ((try simp only [List.length_append, List.length_map, List.length_cons, List.length_nil]); omega)) only [↓yRp, yRt, Nat.reduceAdd, Nat.reduceMul, Nat.reduceSub, Nat.reduceLeDiff, Nat.reduceEqDiff, if_true, if_false, reduceCtorEq, exists_eq_left', ne_eq, implies_true, Nat.reduceBEq, List.map_append, xbinI_eql, xbinI_neq, xbinI_lss, xbinI_leq, xbinI_gtr, xbinI_geq, xbinI_add, xbinI_sub, ySource_row, ySource_own, ySource_nil, bnd, List.take_of_length_le, List.length_append, f1, f2, w1]
        refine ⟨d - 1, [0, 8], by omega, by decide, pinned_one _, i + 1, ?_, ?_, by omega⟩
        · rw [hsl]
          simp only [yren.eq_1, yren.eq_2, yren.eq_3, yren.eq_4, renV.eq_1, renV.eq_2, renV.eq_3, renC.eq_1, renC.eq_2, renC.eq_3, renC.eq_4, renC.eq_5, renE.eq_1, renE.eq_2, renE.eq_3, renS.eq_1, renB.eq_1, renB.eq_2, renB.eq_3, slotIx_nil, slotIx_cons, nth_zero, nth_succ, yrow.eq_1, yrow.eq_2, Nat.reduceEqDiff, if_true, if_false, List.map_cons, List.map_nil, Nat.zero_add, Nat.add_zero, Nat.le_refl, and_self, and_true, true_and, List.drop_zero, take_map_len, take_map_snoc, snoc_len, List.length_map, List.length_append, List.length_cons, List.length_nil, Nat.reduceAdd, reduceCtorEq, Nat.one_ne_zero, List.set_set, Nd.toks]
          try (simp [Nat.add_assoc] <;> omega)
        · rw [hsm]
          simp only [yren.eq_1, yren.eq_2, yren.eq_3, yren.eq_4, renV.eq_1, renV.eq_2, renV.eq_3, renC.eq_1, renC.eq_2, renC.eq_3, renC.eq_4, renC.eq_5, renE.eq_1, renE.eq_2, renE.eq_3, renS.eq_1, renB.eq_1, renB.eq_2, renB.eq_3, slotIx_nil, slotIx_cons, nth_zero, nth_succ, yrow.eq_1, yrow.eq_2, Nat.reduceEqDiff, if_true, if_false, List.map_cons, List.map_nil, Nat.zero_add, Nat.add_zero, Nat.le_refl, and_self, and_true, true_and, List.drop_zero, take_map_len, take_map_snoc, snoc_len, List.length_map, List.length_append, List.length_cons, List.length_nil, Nat.reduceAdd, reduceCtorEq, Nat.one_ne_zero, List.set_set, Nd.toks, lit1]
          try simp
      · simp -implicitDefEqProofs (disch := first | (intros; rename_i h; cases h; done) | ((try simp only [List.length_append, List.length_map, List.length_cons, List.length_nil]); omega)) only [↓yRp, yRt, Nat.reduceAdd, Nat.reduceMul, Nat.reduceSub, Nat.reduceLeDiff, Nat.reduceEqDiff, if_true, if_false, reduceCtorEq, exists_eq_left', ne_eq, implies_true, Nat.reduceBEq, t1, hg, xbinI_eql, xbinI_neq, xbinI_lss, xbinI_leq, xbinI_gtr, xbinI_geq, xbinI_add, xbinI_sub, ySource_row, ySource_own, ySource_nil, bnd, List.take_of_length_le, List.length_append, f1, f2, w1]
        have hks := hxr (acc ++ h0 ++ [mkTok 19 a0]) (by simp at hle ⊢; omega)
        refine Rcall_own' (els := (acc ++ h0 ++ [mkTok 19 a0]).map Tok.pc) (n' := (acc ++ h0 ++ [mkTok 19 a0] ++ toksOf ks0).length) (by first | (simp; done) | (simp; omega)) (by first | (simp; done) | (simp; omega)) (by rfl) (by first | (simp [lit1]; done) | (simp [lit1]; omega)) hks ?_
        simp -implicitDefEqProofs (disch := first | (intros; rename_i h; cases h; done) | ((try simp only [List.length_append, List.length_map, List.length_cons, List.length_nil]); omega)) only [↓yRp, yRt, Nat.reduceAdd, Nat.reduceMul, Nat.reduceSub, Nat.reduceLeDiff, Nat.reduceEqDiff, if_true, if_false, reduceCtorEq, exists_eq_left', ne_eq, implies_true, Nat.reduceBEq, List.map_append, xbinI_eql, xbinI_neq, xbinI_lss, xbinI_leq, xbinI_gtr, xbinI_geq, xbinI_add, xbinI_sub, ySource_row, ySource_own, ySource_nil, bnd, List.take_of_length_le, List.length_append, f1, f2, w1]
        refine ⟨d - 1, [0, 6], by omega, by decide, pinned_one _, i + 1, ?_, ?_, by omega⟩
        · rw [hsl]
          simp only [yren.eq_1, yren.eq_2, yren.eq_3, yren.eq_4, renV.eq_1, renV.eq_2, renV.eq_3, renC.eq_1, renC.eq_2, renC.eq_3, renC.eq_4, renC.eq_5, renE.eq_1, renE.eq_2, renE.eq_3, renS.eq_1, renB.eq_1, renB.eq_2, renB.eq_3, slotIx_nil, slotIx_cons, nth_zero, nth_succ, yrow.eq_1, yrow.eq_2, Nat.reduceEqDiff, if_true, if_false, List.map_cons, List.map_nil, Nat.zero_add, Nat.add_zero, Nat.le_refl, and_self, and_true, true_and, List.drop_zero, take_map_len, take_map_snoc, snoc_len, List.length_map, List.length_append, List.length_cons, List.length_nil, Nat.reduceAdd, reduceCtorEq, Nat.one_ne_zero, List.set_set, Nd.toks]
          try (simp [Nat.add_assoc] <;> omega)
        · rw [hsm]
          simp only [yren.eq_1, yren.eq_2, yren.eq_3, yren.eq_4, renV.eq_1, renV.eq_2, renV.eq_3, renC.eq_1, renC.eq_2, renC.eq_3, renC.eq_4, renC.eq_5, renE.eq_1, renE.eq_2, renE.eq_3, renS.eq_1, renB.eq_1, renB.eq_2, renB.eq_3, slotIx_nil, slotIx_cons, nth_zero, nth_succ, yrow.eq_1, yrow.eq_2, Nat.reduceEqDiff, if_true, if_false, List.map_cons, List.map_nil, Nat.zero_add, Nat.add_zero, Nat.le_refl, and_self, and_true, true_and, List.drop_zero, take_map_len, take_map_snoc, snoc_len, List.length_map, List.length_append, List.length_cons, List.length_nil, Nat.reduceAdd, reduceCtorEq, Nat.one_ne_zero, List.set_set, Nd.toks, lit1]
          try simp
      · simp -implicitDefEqProofs (disch := first | (intros; rename_i h; cases h; done) | ((try simp only [List.length_append, List.length_map, List.length_cons, List.length_nil]); omega)) only [↓yRp, yRt, Nat.reduceAdd, Nat.reduceMul, Nat.reduceSub, Nat.reduceLeDiff, Nat.reduceEqDiff, if_true, if_false, reduceCtorEq, exists_eq_left', ne_eq, implies_true, Nat.reduceBEq, t1, hg, xbinI_eql, xbinI_neq, xbinI_lss, xbinI_leq, xbinI_gtr, xbinI_geq, xbinI_add, xbinI_sub, ySource_row, ySource_own, ySource_nil, bnd, List.take_of_length_le, List.length_append, f1, f2, w1]
        have hks := hxr (acc ++ h0 ++ [mkTok 19 a0]) (by simp at hle ⊢; omega)
        refine Rcall_own' (els := (acc ++ h0 ++ [mkTok 19 a0]).map Tok.pc) (n' := (acc ++ h0 ++ [mkTok 19 a0] ++ toksOf ks0).length) (by first | (simp; done) | (simp; omega)) (by first | (simp; done) | (simp; omega)) (by rfl) (by first | (simp [lit1]; done) | (simp [lit1]; omega)) hks ?_
        simp -implicitDefEqProofs (disch := first | (intros; rename_i h; cases h; done) | ((try simp only [List.length_append, List.length_map, List.length_cons, List.length_nil]); omega)) only [↓yRp, yRt, Nat.reduceAdd, Nat.reduceMul, Nat.reduceSub, Nat.reduceLeDiff, Nat.reduceEqDiff, if_true, if_false, reduceCtorEq, exists_eq_left', ne_eq, implies_true, Nat.reduceBEq, List.map_append, xbinI_eql, xbinI_neq, xbinI_lss, xbinI_leq, xbinI_gtr, xbinI_geq, xbinI_add, xbinI_sub, ySource_row, ySource_own, ySource_nil, bnd, List.take_of_length_le, List.length_append, f1, f2, w1]
        refine ⟨d - 1, [0, 8], by omega, by decide, pinned_one _, i + 1, ?_, ?_, by omega⟩
        · rw [hsl]
          simp only [yren.eq_1, yren.eq_2, yren.eq_3, yren.eq_4, renV.eq_1, renV.eq_2, renV.eq_3, renC.eq_1, renC.eq_2, renC.eq_3, renC.eq_4, renC.eq_5, renE.eq_1, renE.eq_2, renE.eq_3, renS.eq_1, renB.eq_1, renB.eq_2, renB.eq_3, slotIx_nil, slotIx_cons, nth_zero, nth_succ, yrow.eq_1, yrow.eq_2, Nat.reduceEqDiff, if_true, if_false, List.map_cons, List.map_nil, Nat.zero_add, Nat.add_zero, Nat.le_refl, and_self, and_true, true_and, List.drop_zero, take_map_len, take_map_snoc, snoc_len, List.length_map, List.length_append, List.length_cons, List.length_nil, Nat.reduceAdd, reduceCtorEq, Nat.one_ne_zero, List.set_set, Nd.toks]
          try (simp [Nat.add_assoc] <;> omega)
        · rw [hsm]
          simp only [yren.eq_1, yren.eq_2, yren.eq_3, yren.eq_4, renV.eq_1, renV.eq_2, renV.eq_3, renC.eq_1, renC.eq_2, renC.eq_3, renC.eq_4, renC.eq_5, renE.eq_1, renE.eq_2, renE.eq_3, renS.eq_1, renB.eq_1, renB.eq_2, renB.eq_3, slotIx_nil, slotIx_cons, nth_zero, nth_succ, yrow.eq_1, yrow.eq_2, Nat.reduceEqDiff, if_true, if_false, List.map_cons, List.map_nil, Nat.zero_add, Nat.add_zero, Nat.le_refl, and_self, and_true, true_and, List.drop_zero, take_map_len, take_map_snoc, snoc_len, List.length_map, List.length_append, List.length_cons, List.length_nil, Nat.reduceAdd, reduceCtorEq, Nat.one_ne_zero, List.set_set, Nd.toks, lit1]
          try simp
      · simp -implicitDefEqProofs (disch := first | (intros; rename_i h; cases h; done) | ((try simp only [List.length_append, List.length_map, List.length_cons, List.length_nil]); omega)) only [↓yRp, yRt, Nat.reduceAdd, Nat.reduceMul, Nat.reduceSub, Nat.reduceLeDiff, Nat.reduceEqDiff, if_true, if_false, reduceCtorEq, exists_eq_left', ne_eq, implies_true, Nat.reduceBEq, t1, hg, xbinI_eql, xbinI_neq, xbinI_lss, xbinI_leq, xbinI_gtr, xbinI_geq, xbinI_add, xbinI_sub, ySource_row, ySource_own, ySource_nil, bnd, List.take_of_length_le, List.length_append, f1, f2, w1]
        have hks := hxr (acc ++ h0 ++ [mkTok 19 a0]) (by simp at hle ⊢; omega)
        refine Rcall_own' (els := (acc ++ h0 ++ [mkTok 19 a0]).map Tok.pc) (n' := (acc ++ h0 ++ [mkTok 19 a0] ++ toksOf ks0).length) (by first | (simp; done) | (simp; omega)) (by first | (simp; done) | (simp; omega)) (by rfl) (by first | (simp [lit1]; done) | (simp [lit1]; omega)) hks ?_
        simp -implicitDefEqProofs (disch := first | (intros; rename_i h; cases h; done) | ((try simp only [List.length_append, List.length_map, List.length_cons, List.length_nil]); omega)) only [↓yRp, yRt, Nat.reduceAdd, Nat.reduceMul, Nat.reduceSub, Nat.reduceLeDiff, Nat.reduceEqDiff, if_true, if_false, reduceCtorEq, exists_eq_left', ne_eq, implies_true, Nat.reduceBEq, List.map_append, xbinI_eql, xbinI_neq, xbinI_lss, xbinI_leq, xbinI_gtr, xbinI_geq, xbinI_add, xbinI_sub, ySource_row, ySource_own, ySource_nil, bnd, List.take_of_length_le, List.length_append, f1, f2, w1]
        refine ⟨d - 1, [0, 8], by omega, by decide, pinned_one _, i + 1, ?_, ?_, by omega⟩
        · rw [hsl]
          simp only [yren.eq_1, yren.eq_2, yren.eq_3, yren.eq_4, renV.eq_1, renV.eq_2, renV.eq_3, renC.eq_1, renC.eq_2, renC.eq_3, renC.eq_4, renC.eq_5, renE.eq_1, renE.eq_2, renE.eq_3, renS.eq_1, renB.eq_1, renB.eq_2, renB.eq_3, slotIx_nil, slotIx_cons, nth_zero, nth_succ, yrow.eq_1, yrow.eq_2, Nat.reduceEqDiff, if_true, if_false, List.map_cons, List.map_nil, Nat.zero_add, Nat.add_zero, Nat.le_refl, and_self, and_true, true_and, List.drop_zero, take_map_len, take_map_snoc, snoc_len, List.length_map, List.length_append, List.length_cons, List.length_nil, Nat.reduceAdd, reduceCtorEq, Nat.one_ne_zero, List.set_set, Nd.toks]
          try (simp [Nat.add_assoc] <;> omega)
        · rw [hsm]
          simp only [yren.eq_1, yren.eq_2, yren.eq_3, yren.eq_4, renV.eq_1, renV.eq_2, renV.eq_3, renC.eq_1, renC.eq_2, renC.eq_3, renC.eq_4, renC.eq_5, renE.eq_1, renE.eq_2, renE.eq_3, renS.eq_1, renB.eq_1, renB.eq_2, renB.eq_3, slotIx_nil, slotIx_cons, nth_zero, nth_succ, yrow.eq_1, yrow.eq_2, Nat.reduceEqDiff, if_true, if_false, List.map_cons, List.map_nil, Nat.zero_add, Nat.add_zero, Nat.le_refl, and_self, and_true, true_and, List.drop_zero, take_map_len, take_map_snoc, snoc_len, List.length_map, List.length_append, List.length_cons, List.length_nil, Nat.reduceAdd, reduceCtorEq, Nat.one_ne_zero, List.set_set, Nd.toks, lit1]
          try simp
      · simp -implicitDefEqProofs (disch := first | (intros; rename_i h; cases h; done) | ((try simp only [List.length_append, List.length_map, List.length_cons, List.length_nil]); omega)) only [↓yRp, yRt, Nat.reduceAdd, Nat.reduceMul, Nat.reduceSub, Nat.reduceLeDiff, Nat.reduceEqDiff, if_true, if_false, reduceCtorEq, exists_eq_left', ne_eq, implies_true, Nat.reduceBEq, t1, hg, xbinI_eql, xbinI_neq, xbinI_lss, xbinI_leq, xbinI_gtr, xbinI_geq, xbinI_add, xbinI_sub, ySource_row, ySource_own, ySource_nil, bnd, List.take_of_length_le, List.length_append, f1, f2, w1]
        have hks := hxr (acc ++ h0 ++ [mkTok 19 a0]) (by simp at hle ⊢; omega)
        refine Rcall_own' (els := (acc ++ h0 ++ [mkTok 19 a0]).map Tok.pc) (n' := (acc ++ h0 ++ [mkTok 19 a0] ++ toksOf ks0).length) (by first | (simp; done) | (simp; omega)) (by first | (simp; done) | (simp; omega)) (by rfl) (by first | (simp [lit1]; done) | (simp [lit1]; omega)) hks ?_
        simp -implicitDefEqProofs (disch := first | (intros; rename_i h; cases h; done) | ((try simp only [List.length_append, List.length_map, List.length_cons, List.length_nil]); omega)) only [↓yRp, yRt, Nat.reduceAdd, Nat.reduceMul, Nat.reduceSub, Nat.reduceLeDiff, Nat.reduceEqDiff, if_true, if_false, reduceCtorEq, exists_eq_left', ne_eq, implies_true, Nat.reduceBEq, List.map_append, xbinI_eql, xbinI_neq, xbinI_lss, xbinI_leq, xbinI_gtr, xbinI_geq, xbinI_add, xbinI_sub, ySource_row, ySource_own, ySource_nil, bnd, List.take_of_length_le, List.length_append, f1, f2, w1]
        refine ⟨d - 1, [0, 10], by omega, by decide, pinned_one _, i + 1, ?_, ?_, by omega⟩
        · rw [hsl]
          simp only [yren.eq_1, yren.eq_2, yren.eq_3, yren.eq_4, renV.eq_1, renV.eq_2, renV.eq_3, renC.eq_1, renC.eq_2, renC.eq_3, renC.eq_4, renC.eq_5, renE.eq_1, renE.eq_2, renE.eq_3, renS.eq_1, renB.eq_1, renB.eq_2, renB.eq_3, slotIx_nil, slotIx_cons, nth_zero, nth_succ, yrow.eq_1, yrow.eq_2, Nat.reduceEqDiff, if_true, if_false, List.map_cons, List.map_nil, Nat.zero_add, Nat.add_zero, Nat.le_refl, and_self, and_true, true_and, List.drop_zero, take_map_len, take_map_snoc, snoc_len, List.length_map, List.length_append, List.length_cons, List.length_nil, Nat.reduceAdd, reduceCtorEq, Nat.one_ne_zero, List.set_set, Nd.toks]
          try (simp [Nat.add_assoc] <;> omega)
        · rw [hsm]
          simp only [yren.eq_1, yren.eq_2, yren.eq_3, yren.eq_4, renV.eq_1, renV.eq_2, renV.eq_3, renC.eq_1, renC.eq_2, renC.eq_3, renC.eq_4, renC.eq_5, renE.eq_1, renE.eq_2, renE.eq_3, renS.eq_1, renB.eq_1, renB.eq_2, renB.eq_3, slotIx_nil, slotIx_cons, nth_zero, nth_succ, yrow.eq_1, yrow.eq_2, Nat.reduceEqDiff, if_true, if_false, List.map_cons, List.map_nil, Nat.zero_add, Nat.add_zero, Nat.le_refl, and_self, and_true, true_and, List.drop_zero, take_map_len, take_map_snoc, snoc_len, List.length_map, List.length_append, List.length_cons, List.length_nil, Nat.reduceAdd, reduceCtorEq, Nat.one_ne_zero, List.set_set, Nd.toks, lit1]
          try simp
    · have f2 : eqI k0 1 = false := eqI_false q2
      rw [if_neg q1, if_neg q2] at hle
      cases m0 with
      | false =>
        simp -implicitDefEqProofs (disch := first | (intros; rename_i h; cases h; done) | ((try simp only [List.length_append, List.length_map, List.length_cons, List.length_nil]); omega)) only [↓yRp, yRt, Nat.reduceAdd, Nat.reduceMul, Nat.reduceSub, Nat.reduceLeDiff, Nat.reduceEqDiff, if_true, if_false, reduceCtorEq, exists_eq_left', ne_eq, implies_true, Nat.reduceBEq, t1, hg, xbinI_eql, xbinI_neq, xbinI_lss, xbinI_leq, xbinI_gtr, xbinI_geq, xbinI_add, xbinI_sub, ySource_row, ySource_own, ySource_nil, bnd, List.take_of_length_le, List.length_append, f1, f2, w1]
        refine ⟨d - 1, [0, 3], by omega, by decide, pinned_one _, i + 1, ?_, ?_, by omega⟩
        · rw [hsl]
          simp only [yren.eq_1, yren.eq_2, yren.eq_3, yren.eq_4, renV.eq_1, renV.eq_2, renV.eq_3, renC.eq_1, renC.eq_2, renC.eq_3, renC.eq_4, renC.eq_5, renE.eq_1, renE.eq_2, renE.eq_3, renS.eq_1, renB.eq_1, renB.eq_2, renB.eq_3, slotIx_nil, slotIx_cons, nth_zero, nth_succ, yrow.eq_1, yrow.eq_2, Nat.reduceEqDiff, if_true, if_false, List.map_cons, List.map_nil, Nat.zero_add, Nat.add_zero, Nat.le_refl, and_self, and_true, true_and, List.drop_zero, take_map_len, take_map_snoc, snoc_len, List.length_map, List.length_append, List.length_cons, List.length_nil, Nat.reduceAdd, reduceCtorEq, Nat.one_ne_zero, List.set_set, Nd.toks, if_neg q1, if_neg q2]
          try (simp [Nat.add_assoc] <;> omega)
        · rw [hsn]
          simp only [yren.eq_1, yren.eq_2, yren.eq_3, yren.eq_4, renV.eq_1, renV.eq_2, renV.eq_3, renC.eq_1, renC.eq_2, renC.eq_3, renC.eq_4, renC.eq_5, renE.eq_1, renE.eq_2, renE.eq_3, renS.eq_1, renB.eq_1, renB.eq_2, renB.eq_3, slotIx_nil, slotIx_cons, nth_zero, nth_succ, yrow.eq_1, yrow.eq_2, Nat.reduceEqDiff, if_true, if_false, List.map_cons, List.map_nil, Nat.zero_add, Nat.add_zero, Nat.le_refl, and_self, and_true, true_and, List.drop_zero, take_map_len, take_map_snoc, snoc_len, List.length_map, List.length_append, List.length_cons, List.length_nil, Nat.reduceAdd, reduceCtorEq, Nat.one_ne_zero, List.set_set, Nd.toks, lit1, if_neg q1, if_neg q2]
          try simp
      | true =>
        simp -implicitDefEqProofs (disch := first | (intros; rename_i h; cases h; done) | ((try simp only [List.length_append, List.length_map, List.length_cons, List.length_nil]); omega)) only [↓yRp, yRt, Nat.reduceAdd, Nat.reduceMul, Nat.reduceSub, Nat.reduceLeDiff, Nat.reduceEqDiff, if_true, if_false, reduceCtorEq, exists_eq_left', ne_eq, implies_true, Nat.reduceBEq, t1, hg, xbinI_eql, xbinI_neq, xbinI_lss, xbinI_leq, xbinI_gtr, xbinI_geq, xbinI_add, xbinI_sub, ySource_row, ySource_own, ySource_nil, bnd, List.take_of_length_le, List.length_append, f1, f2, w1]
        refine ⟨d - 1, [0, 5], by omega, by decide, pinned_one _, i + 1, ?_, ?_, by omega⟩
        · rw [hsl]
          simp only [yren.eq_1, yren.eq_2, yren.eq_3, yren.eq_4, renV.eq_1, renV.eq_2, renV.eq_3, renC.eq_1, renC.eq_2, renC.eq_3, renC.eq_4, renC.eq_5, renE.eq_1, renE.eq_2, renE.eq_3, renS.eq_1, renB.eq_1, renB.eq_2, renB.eq_3, slotIx_nil, slotIx_cons, nth_zero, nth_succ, yrow.eq_1, yrow.eq_2, Nat.reduceEqDiff, if_true, if_false, List.map_cons, List.map_nil, Nat.zero_add, Nat.add_zero, Nat.le_refl, and_self, and_true, true_and, List.drop_zero, take_map_len, take_map_snoc, snoc_len, List.length_map, List.length_append, List.length_cons, List.length_nil, Nat.reduceAdd, reduceCtorEq, Nat.one_ne_zero, List.set_set, Nd.toks, if_neg q1, if_neg q2]
          try (simp [Nat.add_assoc] <;> omega)
        · rw [hsn]
          simp only [yren.eq_1, yren.eq_2, yren.eq_3, yren.eq_4, renV.eq_1, renV.eq_2, renV.eq_3, renC.eq_1, renC.eq_2, renC.eq_3, renC.eq_4, renC.eq_5, renE.eq_1, renE.eq_2, renE.eq_3, renS.eq_1, renB.eq_1, renB.eq_2, renB.eq_3, slotIx_nil, slotIx_cons, nth_zero, nth_succ, yrow.eq_1, yrow.eq_2, Nat.reduceEqDiff, if_true, if_false, List.map_cons, List.map_nil, Nat.zero_add, Nat.add_zero, Nat.le_refl, and_self, and_true, true_and, List.drop_zero, take_map_len, take_map_snoc, snoc_len, List.length_map, List.length_append, List.length_cons, List.length_nil, Nat.reduceAdd, reduceCtorEq, Nat.one_ne_zero, List.set_set, Nd.toks, lit1, if_neg q1, if_neg q2]
          try simp
  · have t1 : leI (ns.length : Nat) (i : Nat) = true := leI_true (by omega)
    have : i = ns.length := by omega
    subst this
    simp -implicitDefEqProofs only [↓yRp, yRt, Nat.reduceAdd, Nat.reduceMul, Nat.reduceSub, Nat.reduceLeDiff, Nat.reduceEqDiff, if_true, if_false, reduceCtorEq, exists_eq_left', ne_eq, implies_true, Nat.reduceBEq, t1, List.take_length]
    refine ⟨[0, 1], by decide, pinned_one _, .inr ⟨?_, ?_⟩⟩
    · rw [List.length_map]; rfl
    · simp only [yren.eq_1, yren.eq_2, yren.eq_3, yren.eq_4, renV.eq_1, renV.eq_2, renV.eq_3, renC.eq_1, renC.eq_2, renC.eq_3, renC.eq_4, renC.eq_5, renE.eq_1, renE.eq_2, renE.eq_3, renS.eq_1, renB.eq_1, renB.eq_2, renB.eq_3, slotIx_nil, slotIx_cons, nth_zero, nth_succ, yrow.eq_1, yrow.eq_2, Nat.reduceEqDiff, if_true, if_false, List.map_cons, List.map_nil, Nat.zero_add, Nat.add_zero, Nat.le_refl, and_self, and_true, true_and, List.drop_zero, take_map_len, take_map_snoc, snoc_len, List.length_map, List.length_append, List.length_cons, List.length_nil, Nat.reduceAdd, reduceCtorEq, Nat.one_ne_zero, List.set_set]
end Go.Vx.Seat
end
/- Few: tokens and nodes that are not too many. -/
section
open Go Go.Vx Go.Proofs
set_option linter.unusedSimpArgs false
set_option linter.unusedVariables false
set_option maxRecDepth 10000
set_option maxHeartbeats 8000000
namespace Go.Vx.Seat
attribute [local congr] Rg_at Rt_at Ro_at Ri_at Rc_at Rto_at Rtk_at Rtf_at Rti_at
theorem fn23 : nth C1.P.funcs.toList 23 = some Try.f23 := by kernel_rfl
theorem fn9 : nth C1.P.funcs.toList 9 = some Try.f9 := by kernel_rfl
theorem fn24 : nth C1.P.funcs.toList 24 = some Try.f24 := by kernel_rfl
theorem fn10 : nth C1.P.funcs.toList 10 = some Try.f10 := by kernel_rfl
def maxL : Nat := 70368744177664
theorem wrap_suc {i : Nat} (h : i < 9223372036854775807) : wrapK .i64 (((i : Nat) : Int) + 1) = ((i + 1 : Nat) : Int) := by rw [wrapK_eq, IntKind.wrap_i64]; omega
theorem len_le {n k : Nat} : leI ((n : Nat) : Int) ((k : Nat) : Int) = decide (n ≤ k) := by rw [leI_eq]; congr 1; simp
theorem few16_spec (t : Tok) : PCall C1 23 [t.yv] fun y => ∃ b : Bool, y = yd (.bool b) ∧ (b = true → (strOf t.text).length ≤ 200 ∧ (strOf t.unit).length ≤ 100) := by
  refine Pf (by rfl) (by rfl) fn23 (by rfl) ?_
  simp only [Try.f23, List.length_cons, List.length_nil, List.replicate, List.cons_append, List.nil_append]
  simp only [Tok.yv, Tok.cs, Tok.pc, List.map_cons, List.map_nil]
  by_cases h1 : (strOf t.text).length ≤ 200
  · have f1 : leI ((strOf t.text).length : Nat) 200 = true := leI_true (by omega)
    by_cases h2 : (strOf t.unit).length ≤ 100
    · have f2 : leI ((strOf t.unit).length : Nat) 100 = true := leI_true (by omega)
      by_cases h3 : (strOf t.digits).length ≤ 100
      · have f3 : leI ((strOf t.digits).length : Nat) 100 = true := leI_true (by omega)
        simp -implicitDefEqProofs only [↓yRp, yRt, Nat.reduceAdd, Nat.reduceMul, Nat.reduceSub, Nat.reduceLeDiff, Nat.reduceEqDiff, if_true, if_false, reduceCtorEq, exists_eq_left', ne_eq, implies_true, Nat.reduceBEq, opLen.eq_1, f1, f2, f3]
        exact ⟨_, rfl, fun _ => ⟨h1, h2⟩⟩
      · have f3 : leI ((strOf t.digits).length : Nat) 100 = false := leI_false (by omega)
        simp -implicitDefEqProofs only [↓yRp, yRt, Nat.reduceAdd, Nat.reduceMul, Nat.reduceSub, Nat.reduceLeDiff, Nat.reduceEqDiff, if_true, if_false, reduceCtorEq, exists_eq_left', ne_eq, implies_true, Nat.reduceBEq, opLen.eq_1, f1, f2, f3]
        exact ⟨false, rfl, fun h => by cases h⟩
    · have f2 : leI ((strOf t.unit).length : Nat) 100 = false := leI_false (by omega)
      simp -implicitDefEqProofs only [↓yRp, yRt, Nat.reduceAdd, Nat.reduceMul, Nat.reduceSub, Nat.reduceLeDiff, Nat.reduceEqDiff, if_true, if_false, reduceCtorEq, exists_eq_left', ne_eq, implies_true, Nat.reduceBEq, opLen.eq_1, f1, f2]
      exact ⟨false, rfl, fun h => by cases h⟩
  · have f1 : leI ((strOf t.text).length : Nat) 200 = false := leI_false (by omega)
    simp -implicitDefEqProofs only [↓yRp, yRt, Nat.reduceAdd, Nat.reduceMul, Nat.reduceSub, Nat.reduceLeDiff, Nat.reduceEqDiff, if_true, if_false, reduceCtorEq, exists_eq_left', ne_eq, implies_true, Nat.reduceBEq, opLen.eq_1, f1]
    exact ⟨false, rfl, fun h => by cases h⟩
theorem few_spec (ts : List Tok) (hl : ts.length ≤ maxL) : PCall C1 9 [.c (.p (rT ts))] fun y => ∃ b : Bool, y = yd (.bool b) ∧ (b = true → ts.length ≤ 600) := by
  unfold maxL at hl
  refine Pf (by rfl) (by rfl) fn9 (by rfl) ?_
  simp only [Try.f9, List.length_cons, List.length_nil, List.replicate, List.cons_append, List.nil_append]
  simp -implicitDefEqProofs only [↓yRp, yRt, Nat.reduceAdd, Nat.reduceMul, Nat.reduceSub, Nat.reduceLeDiff, Nat.reduceEqDiff, if_true, if_false, reduceCtorEq, exists_eq_left', ne_eq, implies_true, Nat.reduceBEq]
  refine Rl_inv (fun d e s => ∃ i n : Nat, e = [.c (.p (rT ts)), .c .top, .c .top, yd (.int .i64 n), yd (.int .i64 i), .c .top, .c .top, .c .top, .c .top, .c .top, .c .top, .c .top, .c .top, .c .top, .c .top, .c .top, .c .top, .c .top, .c .top, .c .top, .c .top, .c .top, .c .top, .c .top, .c .top, .c .top, .c .top, .c .top, .c .top, .c .top, .c .top, .c .top, .c .top, .c .top, .c .top] ∧ s = [] ∧ i + d = ts.length ∧ i ≤ n ∧ n ≤ 400 * i) [true, false, false, true, true] ts.length [] (by decide) (pinned_zero _) ⟨0, 0, by simp only [yren.eq_1, yren.eq_2, yren.eq_3, yren.eq_4, renV.eq_1, renV.eq_2, renV.eq_3, renC.eq_1, renC.eq_2, renC.eq_3, renC.eq_4, renC.eq_5, renE.eq_1, renE.eq_2, renE.eq_3, renS.eq_1, renB.eq_1, renB.eq_2, renB.eq_3, slotIx_nil, slotIx_cons, nth_zero, nth_succ, yrow.eq_1, yrow.eq_2, Nat.reduceEqDiff, if_true, if_false, List.map_cons, List.map_nil, Nat.zero_add, Nat.add_zero, Nat.le_refl, and_self, and_true, true_and, List.drop_zero, take_map_len, take_map_snoc, snoc_len, List.length_map, List.length_append, List.length_cons, List.length_nil, Nat.reduceAdd, reduceCtorEq, Nat.one_ne_zero, List.set_set]; rfl, rfl, by omega, by omega, by omega⟩ ?_
  rintro d e s ⟨i, n, rfl, rfl, hd, hn1, hn2⟩
  by_cases hi : i < ts.length
  · obtain ⟨t, ht⟩ := get_lt hi
    have t1 : leI (ts.length : Nat) (i : Nat) = false := leI_false (by omega)
    have w1 : wrapK .i64 ((i : Int) + 1) = ((i + 1 : Nat) : Int) := wrap_suc (by omega)
    simp -implicitDefEqProofs only [↓yRp, yRt, Nat.reduceAdd, Nat.reduceMul, Nat.reduceSub, Nat.reduceLeDiff, Nat.reduceEqDiff, if_true, if_false, reduceCtorEq, exists_eq_left', ne_eq, implies_true, Nat.reduceBEq, t1, get_map ht, Tok.pc]
    refine Rcall_pure (few16_spec t) (by rfl) fun y hy => ?_
    obtain ⟨b, rfl, hb⟩ := hy
    cases b with
    | false =>
      simp -implicitDefEqProofs only [↓yRp, yRt, Nat.reduceAdd, Nat.reduceMul, Nat.reduceSub, Nat.reduceLeDiff, Nat.reduceEqDiff, if_true, if_false, reduceCtorEq, exists_eq_left', ne_eq, implies_true, Nat.reduceBEq]
      exact ⟨false, rfl, fun h => by cases h⟩
    | true =>
      obtain ⟨hb1, hb2⟩ := hb rfl
      have w2 : wrapK .i64 ((n : Int) + 1) = ((n + 1 : Nat) : Int) := wrap_suc (by omega)
      have w3 : wrapK .i64 (((n + 1 : Nat) : Int) + ((strOf t.text).length : Nat)) = ((n + 1 + (strOf t.text).length : Nat) : Int) := by
        rw [show ((n + 1 : Nat) : Int) + ((strOf t.text).length : Nat) = ((n + 1 + (strOf t.text).length : Nat) : Int) by omega]; exact wrap_nat (by omega)
      have w4 : wrapK .i64 (((n + 1 + (strOf t.text).length : Nat) : Int) + ((strOf t.unit).length : Nat)) = ((n + 1 + (strOf t.text).length + (strOf t.unit).length : Nat) : Int) := by
        rw [show ((n + 1 + (strOf t.text).length : Nat) : Int) + ((strOf t.unit).length : Nat) = ((n + 1 + (strOf t.text).length + (strOf t.unit).length : Nat) : Int) by omega]; exact wrap_nat (by omega)
      simp -implicitDefEqProofs only [↓yRp, yRt, Nat.reduceAdd, Nat.reduceMul, Nat.reduceSub, Nat.reduceLeDiff, Nat.reduceEqDiff, if_true, if_false, reduceCtorEq, exists_eq_left', ne_eq, implies_true, Nat.reduceBEq]
      refine Rd_calm (by rw [C1_P]; kernel_rfl) ?_
      simp -implicitDefEqProofs only [↓yRp, yRt, Nat.reduceAdd, Nat.reduceMul, Nat.reduceSub, Nat.reduceLeDiff, Nat.reduceEqDiff, if_true, if_false, reduceCtorEq, exists_eq_left', ne_eq, implies_true, Nat.reduceBEq, get_map ht, Tok.pc, opLen.eq_1, w1, w2, w3, w4]
      refine ⟨d - 1, [], by omega, by decide, pinned_zero _, i + 1, n + 1 + (strOf t.text).length + (strOf t.unit).length, ?_, rfl, by omega, by omega, by omega⟩
      simp only [yren.eq_1, yren.eq_2, yren.eq_3, yren.eq_4, renV.eq_1, renV.eq_2, renV.eq_3, renC.eq_1, renC.eq_2, renC.eq_3, renC.eq_4, renC.eq_5, renE.eq_1, renE.eq_2, renE.eq_3, renS.eq_1, renB.eq_1, renB.eq_2, renB.eq_3, slotIx_nil, slotIx_cons, nth_zero, nth_succ, yrow.eq_1, yrow.eq_2, Nat.reduceEqDiff, if_true, if_false, List.map_cons, List.map_nil, Nat.zero_add, Nat.add_zero, Nat.le_refl, and_self, and_true, true_and, List.drop_zero, take_map_len, take_map_snoc, snoc_len, List.length_map, List.length_append, List.length_cons, List.length_nil, Nat.reduceAdd, reduceCtorEq, Nat.one_ne_zero, List.set_set]
  · have t1 : leI (ts.length : Nat) (i : Nat) = true := leI_true (by omega)
    simp -implicitDefEqProofs only [↓yRp, yRt, Nat.reduceAdd, Nat.reduceMul, Nat.reduceSub, Nat.reduceLeDiff, Nat.reduceEqDiff, if_true, if_false, reduceCtorEq, exists_eq_left', ne_eq, implies_true, Nat.reduceBEq, t1]
    refine ⟨_, rfl, fun h => ?_⟩
    rw [leI_eq] at h
    simp at h
    omega
/-- How much nodes weigh. -/
inductive NdMax : Nd → Prop where
  | mk {k : Int} {h t : List Tok} {ks : List Nd} {o s m : Bool} {a l : Int} : h.length ≤ maxL → t.length ≤ maxL → ks.length ≤ maxL → (∀ x, x ∈ ks → NdMax x) → NdMax (.mk k h t ks o s m a l)
/-- Nodes that weigh no more than so much. -/
inductive Wt : List Nd → Nat → Prop where
  | nil : Wt [] 0
  | snoc {ns : List Nd} {n w : Nat} {k : Int} {h t : List Tok} {ks : List Nd} {o s m : Bool} {a l : Int} : Wt ns n → Wt ks w → Wt (ns ++ [.mk k h t ks o s m a l]) (n + 1 + h.length + t.length + w)
def SizeSpec : Nd → Prop
  | .mk k h t ks o s m a l => h.length ≤ maxL ∧ t.length ≤ maxL ∧ ∀ d : Nat, d ≤ 101 → PCall C1 24 [.c (.p (rN ks)), yd (.int .i64 d)] fun y => ∃ v : Nat, y = yd (.int .i64 v) ∧ v ≤ 3000 * (102 - d) ∧ (v < 1000 → Wt ks v)
theorem size_list (ns : List Nd) (hl : ns.length ≤ maxL) (hr : ∀ x, x ∈ ns → SizeSpec x) (d0 : Nat) (hd0 : d0 ≤ 101) : PCall C1 24 [.c (.p (rN ns)), yd (.int .i64 d0)] fun y => ∃ v : Nat, y = yd (.int .i64 v) ∧ v ≤ 3000 * (102 - d0) ∧ (v < 1000 → Wt ns v) := by
  unfold maxL at hl
  refine Pf (by rfl) (by rfl) fn24 (by rfl) ?_
  simp only [Try.f24, List.length_cons, List.length_nil, List.replicate, List.cons_append, List.nil_append]
  by_cases h100 : 100 < d0
  · have f0 : leI (d0 : Nat) 100 = false := leI_false (by omega)
    simp -implicitDefEqProofs only [↓yRp, yRt, Nat.reduceAdd, Nat.reduceMul, Nat.reduceSub, Nat.reduceLeDiff, Nat.reduceEqDiff, if_true, if_false, reduceCtorEq, exists_eq_left', ne_eq, implies_true, Nat.reduceBEq, f0]
    exact ⟨1000, rfl, by omega, fun h => by omega⟩
  have f0 : leI (d0 : Nat) 100 = true := leI_true (by omega)
  simp -implicitDefEqProofs only [↓yRp, yRt, Nat.reduceAdd, Nat.reduceMul, Nat.reduceSub, Nat.reduceLeDiff, Nat.reduceEqDiff, if_true, if_false, reduceCtorEq, exists_eq_left', ne_eq, implies_true, Nat.reduceBEq, f0]
  refine Rl_inv (fun d e s => ∃ i n : Nat, e = [.c (.p (rN ns)), yd (.int .i64 d0), .c .top, .c .top, .c .top, yd (.int .i64 n), yd (.int .i64 i), .c .top, .c .top, .c .top, .c .top, .c .top, .c .top, .c .top, .c .top, .c .top, .c .top, .c .top, .c .top, .c .top, .c .top, .c .top, .c .top, .c .top, .c .top, .c .top, .c .top, .c .top, .c .top, .c .top, .c .top, .c .top, .c .top, .c .top, .c .top, .c .top, .c .top, .c .top, .c .top, .c .top, .c .top, .c .top, .c .top, .c .top, .c .top, .c .top, .c .top, .c .top, .c .top, .c .top, .c .top, .c .top, .c .top, .c .top, .c .top, .c .top, .c .top, .c .top, .c .top, .c .top, .c .top] ∧ s = [] ∧ i + d = ns.length ∧ n ≤ 3000 * (102 - d0) ∧ (n < 1000 → Wt (ns.take i) n)) [true, true, false, false, false, true, true] ns.length [] (by decide) (pinned_zero _) ⟨0, 0, by simp only [yren.eq_1, yren.eq_2, yren.eq_3, yren.eq_4, renV.eq_1, renV.eq_2, renV.eq_3, renC.eq_1, renC.eq_2, renC.eq_3, renC.eq_4, renC.eq_5, renE.eq_1, renE.eq_2, renE.eq_3, renS.eq_1, renB.eq_1, renB.eq_2, renB.eq_3, slotIx_nil, slotIx_cons, nth_zero, nth_succ, yrow.eq_1, yrow.eq_2, Nat.reduceEqDiff, if_true, if_false, List.map_cons, List.map_nil, Nat.zero_add, Nat.add_zero, Nat.le_refl, and_self, and_true, true_and, List.drop_zero, take_map_len, take_map_snoc, snoc_len, List.length_map, List.length_append, List.length_cons, List.length_nil, Nat.reduceAdd, reduceCtorEq, Nat.one_ne_zero, List.set_set]; rfl, rfl, by omega, by omega, by simpa using Wt.nil⟩ ?_
  rintro d e s ⟨i, n, rfl, rfl, hd, hn1, hwt⟩
  by_cases hi : i < ns.length
  · obtain ⟨x, hx⟩ := get_lt hi
    have hxr := hr x (List.mem_of_getElem? hx)
    obtain ⟨k0, h0, t0, ks0, o0, s0, m0, a0, l0⟩ := x
    obtain ⟨hh, ht, hks⟩ := hxr
    have t1 : leI (ns.length : Nat) (i : Nat) = false := leI_false (by omega)
    by_cases hn : n < 1000
    · have t2 : leI 1000 (n : Nat) = false := leI_false (by omega)
      have w1 : wrapK .i64 ((i : Int) + 1) = ((i + 1 : Nat) : Int) := wrap_suc (by omega)
      have wd : wrapK .i64 ((d0 : Int) + 1) = ((d0 + 1 : Nat) : Int) := wrap_suc (by omega)
      have hg := get_map (f := Nd.pc) hx
      rw [pc_mk] at hg
      simp -implicitDefEqProofs only [↓yRp, yRt, Nat.reduceAdd, Nat.reduceMul, Nat.reduceSub, Nat.reduceLeDiff, Nat.reduceEqDiff, if_true, if_false, reduceCtorEq, exists_eq_left', ne_eq, implies_true, Nat.reduceBEq, t1, t2, hg]
      refine Rcall_pure (few_spec h0 hh) (by rfl) fun y hy => ?_
      obtain ⟨b, rfl, hb⟩ := hy
      cases b with
      | false =>
        simp -implicitDefEqProofs only [↓yRp, yRt, Nat.reduceAdd, Nat.reduceMul, Nat.reduceSub, Nat.reduceLeDiff, Nat.reduceEqDiff, if_true, if_false, reduceCtorEq, exists_eq_left', ne_eq, implies_true, Nat.reduceBEq]
        exact ⟨1000, rfl, by omega, fun h => by omega⟩
      | true =>
        have hb := hb rfl
        simp -implicitDefEqProofs only [↓yRp, yRt, Nat.reduceAdd, Nat.reduceMul, Nat.reduceSub, Nat.reduceLeDiff, Nat.reduceEqDiff, if_true, if_false, reduceCtorEq, exists_eq_left', ne_eq, implies_true, Nat.reduceBEq, hg]
        refine Rcall_pure (few_spec t0 ht) (by rfl) fun y hy => ?_
        obtain ⟨b, rfl, hb2⟩ := hy
        cases b with
        | false =>
          simp -implicitDefEqProofs only [↓yRp, yRt, Nat.reduceAdd, Nat.reduceMul, Nat.reduceSub, Nat.reduceLeDiff, Nat.reduceEqDiff, if_true, if_false, reduceCtorEq, exists_eq_left', ne_eq, implies_true, Nat.reduceBEq]
          exact ⟨1000, rfl, by omega, fun h => by omega⟩
        | true =>
          have hb2 := hb2 rfl
          have w2 : wrapK .i64 ((n : Int) + 1) = ((n + 1 : Nat) : Int) := wrap_suc (by omega)
          have w3 : wrapK .i64 (((n + 1 : Nat) : Int) + (h0.length : Nat)) = ((n + 1 + h0.length : Nat) : Int) := by
            rw [show ((n + 1 : Nat) : Int) + (h0.length : Nat) = ((n + 1 + h0.length : Nat) : Int) by omega]; exact wrap_nat (by omega)
          have w4 : wrapK .i64 (((n + 1 + h0.length : Nat) : Int) + (t0.length : Nat)) = ((n + 1 + h0.length + t0.length : Nat) : Int) := by
            rw [show ((n + 1 + h0.length : Nat) : Int) + (t0.length : Nat) = ((n + 1 + h0.length + t0.length : Nat) : Int) by omega]; exact wrap_nat (by omega)
          simp -implicitDefEqProofs only [↓yRp, yRt, Nat.reduceAdd, Nat.reduceMul, Nat.reduceSub, Nat.reduceLeDiff, Nat.reduceEqDiff, if_true, if_false, reduceCtorEq, exists_eq_left', ne_eq, implies_true, Nat.reduceBEq]
          refine Rd_calm (by rw [C1_P]; kernel_rfl) ?_
          simp -implicitDefEqProofs only [↓yRp, yRt, Nat.reduceAdd, Nat.reduceMul, Nat.reduceSub, Nat.reduceLeDiff, Nat.reduceEqDiff, if_true, if_false, reduceCtorEq, exists_eq_left', ne_eq, implies_true, Nat.reduceBEq, hg, w1, w2, w3, w4, wd]
          refine Rcall_pure (hks (d0 + 1) (by omega)) (by rfl) fun y hy => ?_
          obtain ⟨v, rfl, hv1, hv2⟩ := hy
          have w5 : wrapK .i64 (((n + 1 + h0.length + t0.length : Nat) : Int) + (v : Nat)) = ((n + 1 + h0.length + t0.length + v : Nat) : Int) := by
            rw [show ((n + 1 + h0.length + t0.length : Nat) : Int) + (v : Nat) = ((n + 1 + h0.length + t0.length + v : Nat) : Int) by omega]; exact wrap_nat (by omega)
          simp -implicitDefEqProofs only [↓yRp, yRt, Nat.reduceAdd, Nat.reduceMul, Nat.reduceSub, Nat.reduceLeDiff, Nat.reduceEqDiff, if_true, if_false, reduceCtorEq, exists_eq_left', ne_eq, implies_true, Nat.reduceBEq, w1, w5]
          by_cases hv : v < 1000
          · refine ⟨d - 1, [], by omega, by decide, pinned_zero _, i + 1, n + 1 + h0.length + t0.length + v, ?_, rfl, by omega, by omega, ?_⟩
            · simp only [yren.eq_1, yren.eq_2, yren.eq_3, yren.eq_4, renV.eq_1, renV.eq_2, renV.eq_3, renC.eq_1, renC.eq_2, renC.eq_3, renC.eq_4, renC.eq_5, renE.eq_1, renE.eq_2, renE.eq_3, renS.eq_1, renB.eq_1, renB.eq_2, renB.eq_3, slotIx_nil, slotIx_cons, nth_zero, nth_succ, yrow.eq_1, yrow.eq_2, Nat.reduceEqDiff, if_true, if_false, List.map_cons, List.map_nil, Nat.zero_add, Nat.add_zero, Nat.le_refl, and_self, and_true, true_and, List.drop_zero, take_map_len, take_map_snoc, snoc_len, List.length_map, List.length_append, List.length_cons, List.length_nil, Nat.reduceAdd, reduceCtorEq, Nat.one_ne_zero, List.set_set]
            · rw [List.take_add_one, hx]; exact fun _ => Wt.snoc (hwt hn) (hv2 hv)
          · refine ⟨d - 1, [], by omega, by decide, pinned_zero _, i + 1, n + 1 + h0.length + t0.length + v, ?_, rfl, by omega, by omega, fun h => by omega⟩
            simp only [yren.eq_1, yren.eq_2, yren.eq_3, yren.eq_4, renV.eq_1, renV.eq_2, renV.eq_3, renC.eq_1, renC.eq_2, renC.eq_3, renC.eq_4, renC.eq_5, renE.eq_1, renE.eq_2, renE.eq_3, renS.eq_1, renB.eq_1, renB.eq_2, renB.eq_3, slotIx_nil, slotIx_cons, nth_zero, nth_succ, yrow.eq_1, yrow.eq_2, Nat.reduceEqDiff, if_true, if_false, List.map_cons, List.map_nil, Nat.zero_add, Nat.add_zero, Nat.le_refl, and_self, and_true, true_and, List.drop_zero, take_map_len, take_map_snoc, snoc_len, List.length_map, List.length_append, List.length_cons, List.length_nil, Nat.reduceAdd, reduceCtorEq, Nat.one_ne_zero, List.set_set]
    · have t2 : leI 1000 (n : Nat) = true := leI_true (by omega)
      simp -implicitDefEqProofs only [↓yRp, yRt, Nat.reduceAdd, Nat.reduceMul, Nat.reduceSub, Nat.reduceLeDiff, Nat.reduceEqDiff, if_true, if_false, reduceCtorEq, exists_eq_left', ne_eq, implies_true, Nat.reduceBEq, t1, t2]
      exact ⟨n, rfl, hn1, fun h => by omega⟩
  · have t1 : leI (ns.length : Nat) (i : Nat) = true := leI_true (by omega)
    have : i = ns.length := by omega
    subst this
    rw [List.take_length] at hwt
    simp -implicitDefEqProofs only [↓yRp, yRt, Nat.reduceAdd, Nat.reduceMul, Nat.reduceSub, Nat.reduceLeDiff, Nat.reduceEqDiff, if_true, if_false, reduceCtorEq, exists_eq_left', ne_eq, implies_true, Nat.reduceBEq, t1]
    exact ⟨n, rfl, hn1, hwt⟩
end Go.Vx.Seat
end
/- Few nodes: the ring of size round a law's trees; tokens of nodes, whole. -/
section
open Go Go.Vx Go.Proofs
set_option linter.unusedSimpArgs false
set_option linter.unusedVariables false
set_option maxRecDepth 10000
set_option maxHeartbeats 8000000
namespace Go.Vx.Seat
attribute [local congr] Rg_at Rt_at Ro_at Ri_at Rc_at Rto_at Rtk_at Rtf_at Rti_at
theorem Wt.small {ns : List Nd} {n : Nat} (hw : Wt ns n) : ns.length ≤ n ∧ (toksOf ns).length ≤ 5 * n := by
  induction hw with
  | nil => simp [toksOf]
  | @snoc ns n w k h t ks o s m a l h1 h2 ih1 ih2 =>
    refine ⟨by simp; omega, ?_⟩
    rw [toksOf_snoc, List.length_append, Nd.toks]
    have e1 : (if k = 2 then mkTok 16 a :: t else []).length ≤ t.length + 1 := by split <;> simp
    have e2 : (if k = 1 then (if o then [mkTok 19 a] else []) ++ toksOf ks ++ (if s then [mkTok 20 l] else []) else []).length ≤ (toksOf ks).length + 2 := by
      split
      · cases o <;> cases s <;> simp
      · simp
    have e3 : (if m then [mkTok 17 l] else []).length ≤ 1 := by split <;> simp
    simp only [List.length_append] at e2 ⊢
    omega
theorem Wt.toks {ns : List Nd} {n : Nat} (hw : Wt ns n) : n ≤ 1000 → ∀ x, x ∈ ns → TokSpec x ∧ TokSpecP x := by
  induction hw with
  | nil => intro _ x hx; simp at hx
  | @snoc ns n w k h t ks o s m a l h1 h2 ih1 ih2 =>
    intro hn x hx
    rcases List.mem_append.mp hx with hx | hx
    · exact ih1 (by omega) x hx
    · obtain rfl := List.mem_singleton.mp hx
      have hs := h2.small
      have ih := ih2 (by omega)
      exact ⟨fun hb => toksD_list ks (by omega) (fun y hy => (ih y hy).1) hb, fun out hb => toksP_list ks (by omega) (fun y hy => (ih y hy).2) out hb⟩
theorem tokensD_spec {ns : List Nd} {n : Nat} (hw : Wt ns n) (hn : n ≤ 1000) : PCall C1 16 [.c (.p (rN ns))] fun y => y = .c (.p (rT (toksOf ns))) :=
  have hs := hw.small
  toksD_list ns (by omega) (fun x hx => (hw.toks hn x hx).1) (by omega)
theorem tokensP_spec {ns : List Nd} {n : Nat} (hw : Wt ns n) (hn : n ≤ 1000) : PCall C1 15 [.c (.p (rN ns))] fun y => y = .c (.p (rT (toksOf ns))) := by
  have hs := hw.small
  have hc := toksP_list ns (by omega) (fun x hx => (hw.toks hn x hx).2) [] (by simp; omega)
  rw [List.nil_append] at hc
  refine Pf (by rfl) (by rfl) fn15 (by rfl) ?_
  simp only [Try.f15, List.length_cons, List.length_nil, List.replicate, List.cons_append, List.nil_append]
  simp -implicitDefEqProofs only [↓yRp, yRt, Nat.reduceAdd, Nat.reduceMul, Nat.reduceSub, Nat.reduceLeDiff, Nat.reduceEqDiff, if_true, if_false, reduceCtorEq, exists_eq_left', ne_eq, implies_true, Nat.reduceBEq]
  refine Rcall_own_nil (by decide) (by rfl) hc ?_
  simp -implicitDefEqProofs only [↓yRp, yRt, Nat.reduceAdd, Nat.reduceMul, Nat.reduceSub, Nat.reduceLeDiff, Nat.reduceEqDiff, if_true, if_false, reduceCtorEq, exists_eq_left', ne_eq, implies_true, Nat.reduceBEq]
theorem size_of_max {x : Nd} (hx : NdMax x) : SizeSpec x := by
  induction hx with
  | mk h1 h2 h3 h4 ih => exact ⟨h1, h2, fun d hd => size_list _ h3 ih d hd⟩
theorem fewN_spec (ns : List Nd) (hl : ns.length ≤ maxL) (hx : ∀ x, x ∈ ns → NdMax x) : PCall C1 10 [.c (.p (rN ns))] fun y => ∃ b : Bool, y = yd (.bool b) ∧ (b = true → ∃ n, n ≤ 200 ∧ Wt ns n) := by
  refine Pf (by rfl) (by rfl) fn10 (by rfl) ?_
  simp only [Try.f10, List.length_cons, List.length_nil, List.replicate, List.cons_append, List.nil_append]
  simp -implicitDefEqProofs only [↓yRp, yRt, Nat.reduceAdd, Nat.reduceMul, Nat.reduceSub, Nat.reduceLeDiff, Nat.reduceEqDiff, if_true, if_false, reduceCtorEq, exists_eq_left', ne_eq, implies_true, Nat.reduceBEq]
  refine Rcall_pure (size_list ns hl (fun x h => size_of_max (hx x h)) 0 (by omega)) (by rfl) fun y hy => ?_
  obtain ⟨v, rfl, hv1, hv2⟩ := hy
  by_cases hv : v ≤ 200
  · have t1 : leI (v : Nat) 200 = true := leI_true (by omega)
    simp -implicitDefEqProofs only [↓yRp, yRt, Nat.reduceAdd, Nat.reduceMul, Nat.reduceSub, Nat.reduceLeDiff, Nat.reduceEqDiff, if_true, if_false, reduceCtorEq, exists_eq_left', ne_eq, implies_true, Nat.reduceBEq, t1]
    exact ⟨true, rfl, fun _ => ⟨v, hv, hv2 (by omega)⟩⟩
  · have t1 : leI (v : Nat) 200 = false := leI_false (by omega)
    simp -implicitDefEqProofs only [↓yRp, yRt, Nat.reduceAdd, Nat.reduceMul, Nat.reduceSub, Nat.reduceLeDiff, Nat.reduceEqDiff, if_true, if_false, reduceCtorEq, exists_eq_left', ne_eq, implies_true, Nat.reduceBEq, t1]
    exact ⟨false, rfl, fun h => by cases h⟩
end Go.Vx.Seat
end
/- What Parse gives is not too much. -/
section
open Go Go.Vx Go.Proofs
set_option linter.unusedSimpArgs false
set_option linter.unusedVariables false
namespace Go.Vx.Seat
theorem nodesP_few (ts : List Tok) (cols : List Int) : ∀ n i depth, (nodesP ts cols n i depth).1.length ≤ n
  | 0, i, depth => by simp [nodesP]
  | n + 1, i, depth => by
    unfold nodesP
    split
    · have := nodesP_few ts cols n (nodeP ts cols (nodesP ts cols n) i depth).2 depth
      simp only [List.length_cons]
      omega
    · simp
theorem slice_le {ts : List Tok} (a b : Nat) (hl : ts.length ≤ 1000000) : (slice ts a b).length ≤ 1000000 := slice_len ts a _ hl
theorem nodesP_ok {ts : List Tok} {cols : List Int} (hl : ts.length ≤ 1000000) : ∀ n, n ≤ 1000000 → ∀ i depth x, x ∈ (nodesP ts cols n i depth).1 → NdOk x
  | 0, _, i, depth, x, hx => by simp [nodesP] at hx
  | n + 1, hn, i, depth, x, hx => by
    have ih := nodesP_ok (cols := cols) hl n (by omega)
    unfold nodesP at hx
    split at hx
    · rcases List.mem_cons.mp hx with hx | hx
      · subst hx
        unfold nodeP
        simp only
        split
        · unfold ruleP
          simp only
          refine .mk (slice_le _ _ hl) (by simp) ?_ (ih _ _)
          have := nodesP_few ts cols n (scanP ts depth (ts.length - i) i + 1) (depth + 1)
          omega
        · unfold leafP
          simp only
          split
          · exact .mk (slice_le _ _ hl) (slice_le _ _ hl) (by simp) (by simp)
          · exact .mk (slice_le _ _ hl) (by simp) (by simp) (by simp)
      · exact ih _ _ x hx
    · simp at hx
theorem parse_refl (ts : List Tok) (hl : ts.length ≤ 1000000) : PCall C1 11 [.c (.p (rN (parseP ts))), .c (.p (rN (parseD ts)))] fun y => y = yd (.bool true) := by
  rw [← parse_same]
  refine sameNodes_refl (parseP ts) ?_ (nodesP_ok hl _ hl 0 0)
  exact Nat.le_trans (nodesP_few ts _ _ 0 0) hl
end Go.Vx.Seat
end
/- CtreeTells: the walk. -/
section
open Go Go.Vx Go.Proofs
set_option linter.unusedSimpArgs false
set_option linter.unusedVariables false
set_option maxRecDepth 10000
set_option maxHeartbeats 8000000
namespace Go.Vx.Seat
attribute [local congr] Rg_at Rt_at Ro_at Ri_at Rc_at Rto_at Rtk_at Rtf_at Rti_at
theorem fn3 : nth C1.P.funcs.toList 3 = some Try.f3 := by kernel_rfl
theorem give1 (ts : List Tok) : yfzC [.row 13 (ts.map Tok.pc)] (.own 0 13 0 ts.length) = some (.p (rT ts), [.dead]) := by
  have h : nth [Ent.row 13 (ts.map Tok.pc)] 0 = some (.row 13 (ts.map Tok.pc)) := rfl
  simp [yfzC, yrow, h, List.take_of_length_le]
theorem alive_spec : PCall C1 8 [] fun y => y = yd (.bool true) := PCall_told0 (by rfl) (by rfl)
theorem tells_spec (ts : List Tok) (ns : List Nd) (hl : ts.length ≤ maxL) (hn : ns.length ≤ maxL) (hx : ∀ x, x ∈ ns → NdMax x) : PCall C1 3 [.c (.p (rT ts)), .c (.p (rN ns))] fun y => y = yd (.bool true) := by
  refine Pf (by rfl) (by rfl) fn3 (by rfl) ?_
  simp only [Try.f3, List.length_cons, List.length_nil, List.replicate, List.cons_append, List.nil_append]
  simp -implicitDefEqProofs only [↓yRp, yRt, Nat.reduceAdd, Nat.reduceMul, Nat.reduceSub, Nat.reduceLeDiff, Nat.reduceEqDiff, if_true, if_false, reduceCtorEq, exists_eq_left', ne_eq, implies_true, Nat.reduceBEq]
  refine Rcall_pure alive_spec (by rfl) fun y hy => ?_
  subst hy
  simp -implicitDefEqProofs only [↓yRp, yRt, Nat.reduceAdd, Nat.reduceMul, Nat.reduceSub, Nat.reduceLeDiff, Nat.reduceEqDiff, if_true, if_false, reduceCtorEq, exists_eq_left', ne_eq, implies_true, Nat.reduceBEq]
  refine Rcall_pure (few_spec ts hl) (by rfl) fun y hy => ?_
  obtain ⟨b, rfl, hb⟩ := hy
  cases b with
  | false => 
    simp -implicitDefEqProofs only [↓yRp, yRt, Nat.reduceAdd, Nat.reduceMul, Nat.reduceSub, Nat.reduceLeDiff, Nat.reduceEqDiff, if_true, if_false, reduceCtorEq, exists_eq_left', ne_eq, implies_true, Nat.reduceBEq]
  | true =>
    have hb := hb rfl
    simp -implicitDefEqProofs only [↓yRp, yRt, Nat.reduceAdd, Nat.reduceMul, Nat.reduceSub, Nat.reduceLeDiff, Nat.reduceEqDiff, if_true, if_false, reduceCtorEq, exists_eq_left', ne_eq, implies_true, Nat.reduceBEq]
    refine Rcall_pure (fewN_spec ns hn hx) (by rfl) fun y hy => ?_
    obtain ⟨b, rfl, hb2⟩ := hy
    cases b with
    | false =>
      simp -implicitDefEqProofs only [↓yRp, yRt, Nat.reduceAdd, Nat.reduceMul, Nat.reduceSub, Nat.reduceLeDiff, Nat.reduceEqDiff, if_true, if_false, reduceCtorEq, exists_eq_left', ne_eq, implies_true, Nat.reduceBEq]
    | true =>
      obtain ⟨n, hn1, hw⟩ := hb2 rfl
      have hg : (ts.length * 128 ≤ 70368744177664) = True := bnd (by omega)
      simp -implicitDefEqProofs only [↓yRp, yRt, Nat.reduceAdd, Nat.reduceMul, Nat.reduceSub, Nat.reduceLeDiff, Nat.reduceEqDiff, if_true, if_false, reduceCtorEq, exists_eq_left', ne_eq, implies_true, Nat.reduceBEq, hg]
      refine Rcall_give (give1 ts) (parseP_spec ts (by omega)) (by rfl) fun y hy => ?_
      subst hy
      simp -implicitDefEqProofs only [↓yRp, yRt, Nat.reduceAdd, Nat.reduceMul, Nat.reduceSub, Nat.reduceLeDiff, Nat.reduceEqDiff, if_true, if_false, reduceCtorEq, exists_eq_left', ne_eq, implies_true, Nat.reduceBEq]
      refine Rcall_pure (parseD_spec ts (by omega)) (by rfl) fun y hy => ?_
      subst hy
      simp -implicitDefEqProofs only [↓yRp, yRt, Nat.reduceAdd, Nat.reduceMul, Nat.reduceSub, Nat.reduceLeDiff, Nat.reduceEqDiff, if_true, if_false, reduceCtorEq, exists_eq_left', ne_eq, implies_true, Nat.reduceBEq]
      refine Rcall_pure (parse_refl ts (by omega)) (by rfl) fun y hy => ?_
      subst hy
      simp -implicitDefEqProofs only [↓yRp, yRt, Nat.reduceAdd, Nat.reduceMul, Nat.reduceSub, Nat.reduceLeDiff, Nat.reduceEqDiff, if_true, if_false, reduceCtorEq, exists_eq_left', ne_eq, implies_true, Nat.reduceBEq]
      refine Rcall_pure (tokensP_spec hw (by omega)) (by rfl) fun y hy => ?_
      subst hy
      simp -implicitDefEqProofs only [↓yRp, yRt, Nat.reduceAdd, Nat.reduceMul, Nat.reduceSub, Nat.reduceLeDiff, Nat.reduceEqDiff, if_true, if_false, reduceCtorEq, exists_eq_left', ne_eq, implies_true, Nat.reduceBEq]
      refine Rcall_pure (tokensD_spec hw (by omega)) (by rfl) fun y hy => ?_
      subst hy
      simp -implicitDefEqProofs only [↓yRp, yRt, Nat.reduceAdd, Nat.reduceMul, Nat.reduceSub, Nat.reduceLeDiff, Nat.reduceEqDiff, if_true, if_false, reduceCtorEq, exists_eq_left', ne_eq, implies_true, Nat.reduceBEq]
      have hs := hw.small
      refine Rcall_pure (sameTok_refl (toksOf ns) (by omega)) (by rfl) fun y hy => ?_
      subst hy
      simp -implicitDefEqProofs only [↓yRp, yRt, Nat.reduceAdd, Nat.reduceMul, Nat.reduceSub, Nat.reduceLeDiff, Nat.reduceEqDiff, if_true, if_false, reduceCtorEq, exists_eq_left', ne_eq, implies_true, Nat.reduceBEq]
end Go.Vx.Seat
end
