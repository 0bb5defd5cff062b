/- Texts joined: VyC9 VyC10 VyD0 VyE1 VyE2 VyN7 VyN8 VyF2 VyE3 VyE4a VyE4 VyE5 VyF3 VyP1 VyQ0 VyQ3 VyQ4 VyR1 VyR3. -/
import Derived.Test.YtbndpenalacjaaaVm40
import Derived.Test.YtbndpenalacjaaaVm39
import Derived.Test.YtbndpenalacjaaaVyOwn
import Derived.Test.YtbndpenalacjaaaVyGive
import Derived.Test.YtbndpenalacjaaaVm37
import Derived.Test.YtbndpenalacjaaaVyLay1
import Derived.OpenShut
set_option linter.unusedSimpArgs false
set_option linter.unusedVariables false
section
open Go Go.Vx Go.Proofs
set_option maxRecDepth 10000
set_option maxHeartbeats 8000000
namespace Go.Vx.Seat
attribute [local irreducible] Rg Rt Ro Ri Rc Rto Rtk Rtf Rti Rw Rl Rd Rcall Rtcall kf
structure ColsOk (ts : List Tok) (cols : List Int) : Prop where
  rise : Rising cols
  len : cols.length ≤ 1000000
  place : ∀ c, c ∈ cols → ∃ k : Nat, c = (k : Int) ∧ k < ts.length
theorem find_stands {l : List Int} {n : Int} : ∀ {k : Nat}, Stands l n k → l.find? (fun c => decide (n ≤ c)) = l[k]? := by
  induction l with
  | nil => intro k _; rfl
  | cons a l ih =>
    intro k ⟨h1, h2, h3⟩
    cases k with
    | zero =>
      have := h3 0 a (Nat.le_refl _) rfl
      simp [this]
    | succ k =>
      have h4 := h2 0 a (by omega) rfl
      rw [List.find?_cons_of_neg (by simp; omega), List.getElem?_cons_succ]
      refine ih ⟨by simpa using h1, fun j b hj hb => h2 (j + 1) b (by omega) (by simpa using hb), fun j b hj hb => h3 (j + 1) b (by omega) (by simpa using hb)⟩
theorem node_spec (ts : List Tok) (cols : List Int) (n : Nat) (hl : ts.length ≤ 1000000) (hc : ColsOk ts cols) (hn : NodesSpec ts cols n) (hin : In ts (nodesP ts cols n)) (i depth : Nat) (hi : i < ts.length) (hdi : depth ≤ i) (hf : ts.length - (i + 1) ≤ n) :
    YC C1 false 44 [.c (.ptr 0 0 0 0), yd (.int .i64 depth)] [.box (pbC ts cols i)] fun y s => y = .agg (nodeP ts cols (nodesP ts cols n) i depth).1.cs ∧ s = [.box (pbC ts cols (nodeP ts cols (nodesP ts cols n) i depth).2)] := by
  refine Yf0 [0, 13, 13, 9, 0, 0, 0, 0, 0] (by rfl) (by rfl) fn44 (by rfl) ?_
  simp only [Try.f44, List.length_cons, List.length_nil, List.replicate, List.cons_append, List.nil_append, pbC]
  simp -implicitDefEqProofs only [↓yP, yT, Nat.reduceLeDiff]
  refine Rl_inv (fun d e s => ∃ k : Nat, e = [.c (.ptr 0 0 0 0), yd (.int .i64 depth), Tp, Tp, .c (.ptr 1 0 0 0), yd (.int .i64 i), Tp, Tp, Tp, Tp, Tp, Tp, Tp, Tp, Tp, Tp, Tp, Tp, Tp, Tp, Tp, Tp, Tp, Tp, Tp, Tp, Tp, Tp, Tp, Tp, Tp, Tp, Tp, Tp, Tp, Tp, Tp, Tp, Tp, Tp, Tp, Tp, Tp, Tp, Tp, Tp, Tp, Tp, Tp, Tp, Tp, Tp, Tp, Tp, Tp, Tp, Tp, Tp, Tp, Tp, Tp, Tp, Tp, Tp, Tp, Tp, Tp, Tp, Tp, Tp, Tp, Tp, Tp, Tp, Tp, Tp, Tp, Tp, Tp, Tp, Tp, Tp, Tp, Tp, Tp, Tp, Tp, Tp, Tp, Tp, Tp, Tp, Tp, Tp, Tp, Tp, Tp, Tp, Tp, Tp, Tp, Tp, Tp, Tp, Tp, Tp, Tp, Tp, Tp, Tp, Tp, Tp, Tp, Tp, Tp, Tp, Tp, Tp, Tp, Tp, Tp, Tp, Tp, Tp, Tp, Tp, Tp, Tp, Tp, Tp, Tp, Tp, Tp, Tp, Tp, Tp, Tp, Tp, Tp, Tp, Tp, Tp, Tp, Tp, Tp, Tp, Tp, Tp] ∧ s = [.box (pbC ts cols k), .box (pds [.int .i64 0, .slice none 0 0, .slice none 0 0, .slice none 0 0, .bool false, .bool false, .bool false, .int .i64 0, .int .i64 0])] ∧ k + d = ts.length ∧ i ≤ k ∧ scanP ts depth d k = scanP ts depth (ts.length - i) i)
    [true, true, false, false, true, true] (ts.length - i) [0, 1] (by decide) (pinned_one _) ⟨i, by simp only [yE, reduceCtorEq], by simp only [yE]; rfl, by omega, by omega, rfl⟩ ?_
  rintro d e s ⟨k, rfl, rfl, hd, hik, hscan⟩
  simp only [pbC, pds, List.map_cons, List.map_nil]
  by_cases hk : k < ts.length
  · obtain ⟨t, ht⟩ := get_lt hk
    have hkk := kindAt_some ht
    have t1 : leI (ts.length : Nat) (k : Nat) = false := leI_false (by omega)
    have w1 : wrapK .i64 ((k : Int) + 1) = ((k + 1 : Nat) : Int) := wrap_succ (by omega)
    have hd1 : d = (d - 1) + 1 := by omega
    simp -implicitDefEqProofs only [↓yP]
    refine Rd_calm (by rw [C1_P]; kernel_rfl) ?_
    simp -implicitDefEqProofs only [↓yP, yT, t1]
    refine Rcall_lend rfl (shut_spec ts cols k depth hk) (by rfl) fun y hy => ⟨by rw [hy]; rfl, ?_⟩
    subst hy
    by_cases hsh : (pl ts k).1 < depth
    · have hop : open_ ts depth k = false := by simp [open_, hsh]
      have hsc : scanP ts depth (ts.length - i) i = k := by rw [← hscan, hd1, scanP, if_pos hsh]
      have hnode : nodeP ts cols (nodesP ts cols n) i depth = leafP ts cols depth i k := by
        simp only [nodeP, hsc, hop]; rw [if_neg (by simp)]
      simp -implicitDefEqProofs only [↓yP, yT, decide_eq_true hsh]
      refine Rcall_lendF rfl (clone_spec ts cols k i k hik (by omega) hl) (by rfl) fun y hy => ?_
      subst hy
      simp -implicitDefEqProofs only [↓yP, yT, Nat.reduceAdd, Nat.reduceLeDiff, reduceCtorEq]
      refine Rcall_lend rfl (colon_spec ts cols k i hc.rise hc.len) (by rfl) fun y hy => ⟨by obtain ⟨_, _, _, rfl, _⟩ := hy; rfl, ?_⟩
      obtain ⟨p, c, b, rfl, hstd, hb, hbc⟩ := hy
      have hfind := find_stands hstd
      cases b with
      | true =>
        obtain ⟨a, ha, hak⟩ := hb.mp rfl
        have hca := hbc rfl
        rw [ha] at hca
        have hac : a = c := Option.some.inj hca
        subst hac
        have hia := hstd.2.2 p a (Nat.le_refl _) ha
        obtain ⟨cc, rfl, hcc⟩ := hc.place a (List.mem_of_getElem? ha)
        have hcol : colonAt cols i k = some cc := by rw [colonAt, hfind, ha]; simp only; rw [if_pos hak]; rfl
        obtain ⟨u, hu⟩ := get_lt hcc
        have hsu := startAt_some hu
        have w4 : wrapK .i64 ((cc : Int) + 1) = ((cc + 1 : Nat) : Int) := wrap_succ (by omega)
        simp -implicitDefEqProofs only [↓yP, yT]
        refine Rd_calm (by rw [C1_P]; kernel_rfl) ?_
        simp -implicitDefEqProofs only [↓yP, yT]
        refine Rcall_lendF rfl (clone_spec ts cols k i cc (by omega) (by omega) hl) (by rfl) fun y hy => ?_
        subst hy
        simp -implicitDefEqProofs only [yT, w4]
        refine Rcall_lendF rfl (clone_spec ts cols k (cc + 1) k (by omega) (by omega) hl) (by rfl) fun y hy => ?_
        subst hy
        simp -implicitDefEqProofs only [↓yP, yT, Nat.reduceAdd, Nat.reduceLeDiff, reduceCtorEq, get_map hu, Tok.pc]
        refine Rd_calm (by rw [C1_P]; kernel_rfl) ?_
        simp -implicitDefEqProofs only [↓yP, yT, t1]
        refine Rcall_lend rfl (shut_spec ts cols k depth hk) (by rfl) fun y hy => ⟨by rw [hy]; rfl, ?_⟩
        subst hy
        simp -implicitDefEqProofs only [↓yP, yT, Nat.reduceAdd, reduceCtorEq, decide_eq_true hsh]
        refine ⟨[0], by decide, pinned_one _, ?_, ?_⟩
        · simp only [hnode, leafP, hop, hcol, hsu, Bool.false_eq_true, if_false, Nd.cs, pc_mk, List.map_cons, List.map_nil]
          rfl
        · simp only [hnode, leafP, hop, hcol, Bool.false_eq_true, if_false]
          rfl
      | false =>
        have hcol : colonAt cols i k = none := by
          rw [colonAt, hfind]
          cases hq : cols[p]? with
          | none => rfl
          | some a =>
            simp only
            rw [if_neg fun ha => by have := hb.mpr ⟨a, hq, ha⟩; cases this]
        simp -implicitDefEqProofs only [↓yP, yT]
        refine Rd_calm (by rw [C1_P]; kernel_rfl) ?_
        simp -implicitDefEqProofs only [↓yP, yT, t1]
        refine Rcall_lend rfl (shut_spec ts cols k depth hk) (by rfl) fun y hy => ⟨by rw [hy]; rfl, ?_⟩
        subst hy
        simp -implicitDefEqProofs only [↓yP, yT, Nat.reduceAdd, reduceCtorEq, decide_eq_true hsh]
        refine ⟨[0], by decide, pinned_one _, ?_, ?_⟩
        · simp only [hnode, leafP, hop, hcol, Bool.false_eq_true, if_false, Nd.cs, pc_mk, List.map_cons, List.map_nil]
          rfl
        · simp only [hnode, leafP, hop, hcol, Bool.false_eq_true, if_false]
          rfl
    · have hop : open_ ts depth k = true := by simp [open_, hsh, hk]
      have hst := startAt_some ht
      simp -implicitDefEqProofs only [↓yP, yT, decide_eq_false hsh]
      refine Rd_calm (by rw [C1_P]; kernel_rfl) ?_
      simp -implicitDefEqProofs only [↓yP, yT, Nat.reduceAdd, reduceCtorEq, get_map ht, Tok.pc]
      refine Rd_calm (by rw [C1_P]; kernel_rfl) ?_
      by_cases hdp : depth < (pl ts k).1
      · have t2 : leI ((pl ts k).1 : Nat) (depth : Nat) = false := leI_false (by omega)
        simp -implicitDefEqProofs only [↓yP, yT, Nat.reduceAdd, reduceCtorEq, plGet hk, t2, w1]
        refine ⟨d - 1, [0, 1], by omega, by decide, pinned_one _, k + 1, ?_, ?_, by omega, by omega, ?_⟩
        · simp only [yE, reduceCtorEq]
        · simp only [yE]
        · rw [← hscan, hd1, scanP, if_neg hsh, if_neg (by omega)]; rfl
      have t2 : leI ((pl ts k).1 : Nat) (depth : Nat) = true := leI_true (by omega)
      by_cases q1 : t.kind = 19
      · have f1 : eqI t.kind 19 = true := by rw [q1]; rfl
        have hsc : scanP ts depth (ts.length - i) i = k := by rw [← hscan, hd1, scanP, if_neg hsh, if_pos ⟨by omega, .inl (by rw [hkk]; exact q1)⟩]
        have hnode : nodeP ts cols (nodesP ts cols n) i depth = ruleP ts (nodesP ts cols n) i k depth := by
          simp only [nodeP, hsc, hop]; rw [if_pos (by simp [hkk, q1])]
        have hrule := rule_spec ts cols n hl hn hin i k depth hik hk (by omega) (by omega)
        rw [← hnode] at hrule
        simp -implicitDefEqProofs only [↓yP, yT, Nat.reduceAdd, reduceCtorEq, plGet hk, t2, f1]
        refine Rcall_hand 1 [.box (pbC ts cols k)] rfl hrule (by simp) rfl (by rfl) fun y s' hy => ?_
        obtain ⟨rfl, rfl⟩ := hy
        refine ⟨rfl, ?_⟩
        generalize hr : nodeP ts cols (nodesP ts cols n) i depth = r
        obtain ⟨⟨k0, h0, t0, ks0, o0, s0, m0, a0, l0⟩, j⟩ := r
        simp only [pbC, Nd.cs, pc_mk, List.map_cons, List.map_nil]
        simp -implicitDefEqProofs only [↓yP, yT, Nat.reduceAdd, reduceCtorEq]
        refine ⟨[0], by decide, pinned_one _, ?_, ?_⟩
        · rfl
        · rfl
      have f1 : eqI t.kind 19 = false := eqI_false q1
      by_cases q2 : t.kind = 17
      · have f2 : eqI t.kind 17 = true := by rw [q2]; rfl
        have hsc : scanP ts depth (ts.length - i) i = k := by rw [← hscan, hd1, scanP, if_neg hsh, if_pos ⟨by omega, .inr (by rw [hkk]; exact q2)⟩]
        have hnode : nodeP ts cols (nodesP ts cols n) i depth = leafP ts cols depth i k := by
          simp only [nodeP, hsc, hop]; rw [if_neg (by rw [hkk]; simp [q1])]
        simp -implicitDefEqProofs only [↓yP, yT, Nat.reduceAdd, reduceCtorEq, plGet hk, t2, f1, f2]
        refine Rcall_lendF rfl (clone_spec ts cols k i k hik (by omega) hl) (by rfl) fun y hy => ?_
        subst hy
        simp -implicitDefEqProofs only [↓yP, yT, Nat.reduceAdd, Nat.reduceLeDiff, reduceCtorEq]
        refine Rcall_lend rfl (colon_spec ts cols k i hc.rise hc.len) (by rfl) fun y hy => ⟨by obtain ⟨_, _, _, rfl, _⟩ := hy; rfl, ?_⟩
        obtain ⟨p, c, b, rfl, hstd, hb, hbc⟩ := hy
        have hfind := find_stands hstd
        cases b with
        | true =>
          obtain ⟨a, ha, hak⟩ := hb.mp rfl
          have hca := hbc rfl
          rw [ha] at hca
          have hac : a = c := Option.some.inj hca
          subst hac
          have hia := hstd.2.2 p a (Nat.le_refl _) ha
          obtain ⟨cc, rfl, hcc⟩ := hc.place a (List.mem_of_getElem? ha)
          have hcol : colonAt cols i k = some cc := by rw [colonAt, hfind, ha]; simp only; rw [if_pos hak]; rfl
          obtain ⟨u, hu⟩ := get_lt hcc
          have hsu := startAt_some hu
          have w4 : wrapK .i64 ((cc : Int) + 1) = ((cc + 1 : Nat) : Int) := wrap_succ (by omega)
          simp -implicitDefEqProofs only [↓yP, yT]
          refine Rd_calm (by rw [C1_P]; kernel_rfl) ?_
          simp -implicitDefEqProofs only [↓yP, yT]
          refine Rcall_lendF rfl (clone_spec ts cols k i cc (by omega) (by omega) hl) (by rfl) fun y hy => ?_
          subst hy
          simp -implicitDefEqProofs only [yT, w4]
          refine Rcall_lendF rfl (clone_spec ts cols k (cc + 1) k (by omega) (by omega) hl) (by rfl) fun y hy => ?_
          subst hy
          simp -implicitDefEqProofs only [↓yP, yT, Nat.reduceAdd, Nat.reduceLeDiff, reduceCtorEq, get_map hu, Tok.pc]
          refine Rd_calm (by rw [C1_P]; kernel_rfl) ?_
          simp -implicitDefEqProofs only [↓yP, yT, t1]
          refine Rcall_lend rfl (shut_spec ts cols k depth hk) (by rfl) fun y hy => ⟨by rw [hy]; rfl, ?_⟩
          subst hy
          simp -implicitDefEqProofs only [↓yP, yT, decide_eq_false hsh]
          refine Rd_trace ?_
          simp -implicitDefEqProofs only [↓yP, yT, Nat.reduceAdd, Nat.reduceLeDiff, reduceCtorEq, Nat.reduceBEq, get_map ht, Tok.pc, w1]
          refine ⟨[0], by decide, pinned_one _, ?_, ?_⟩
          · simp only [hnode, leafP, hop, hcol, hsu, hst, if_true, Nd.cs, pc_mk, List.map_cons, List.map_nil]
            rfl
          · simp only [hnode, leafP, hop, hcol, if_true]
            rfl
        | false =>
          have hcol : colonAt cols i k = none := by
            rw [colonAt, hfind]
            cases hq : cols[p]? with
            | none => rfl
            | some a =>
              simp only
              rw [if_neg fun ha => by have := hb.mpr ⟨a, hq, ha⟩; cases this]
          simp -implicitDefEqProofs only [↓yP, yT]
          refine Rd_calm (by rw [C1_P]; kernel_rfl) ?_
          simp -implicitDefEqProofs only [↓yP, yT, t1]
          refine Rcall_lend rfl (shut_spec ts cols k depth hk) (by rfl) fun y hy => ⟨by rw [hy]; rfl, ?_⟩
          subst hy
          simp -implicitDefEqProofs only [↓yP, yT, decide_eq_false hsh]
          refine Rd_trace ?_
          simp -implicitDefEqProofs only [↓yP, yT, Nat.reduceAdd, Nat.reduceLeDiff, reduceCtorEq, Nat.reduceBEq, get_map ht, Tok.pc, w1]
          refine ⟨[0], by decide, pinned_one _, ?_, ?_⟩
          · simp only [hnode, leafP, hop, hcol, hst, if_true, Nd.cs, pc_mk, List.map_cons, List.map_nil]
            rfl
          · simp only [hnode, leafP, hop, hcol, if_true]
            rfl
      · have f2 : eqI t.kind 17 = false := eqI_false q2
        simp -implicitDefEqProofs only [↓yP, yT, Nat.reduceAdd, reduceCtorEq, plGet hk, t2, f1, f2, w1]
        refine ⟨d - 1, [0, 1], by omega, by decide, pinned_one _, k + 1, ?_, ?_, by omega, by omega, ?_⟩
        · simp only [yE, reduceCtorEq]
        · simp only [yE]
        · rw [← hscan, hd1, scanP, if_neg hsh, if_neg (by rw [hkk]; simp [q1, q2])]; rfl
  · have t1 : leI (ts.length : Nat) (k : Nat) = true := leI_true (by omega)
    have hd0 : d = 0 := by omega
    have hsc : scanP ts depth (ts.length - i) i = k := by rw [← hscan, hd0, scanP]
    have hop : open_ ts depth k = false := by simp [open_, hk]
    have hnode : nodeP ts cols (nodesP ts cols n) i depth = leafP ts cols depth i k := by
      simp only [nodeP, hsc, hop]; rw [if_neg (by simp)]
    simp -implicitDefEqProofs only [↓yP]
    refine Rd_calm (by rw [C1_P]; kernel_rfl) ?_
    simp -implicitDefEqProofs only [↓yP, yT, t1]
    refine Rcall_lendF rfl (clone_spec ts cols k i k hik (by omega) hl) (by rfl) fun y hy => ?_
    subst hy
    simp -implicitDefEqProofs only [↓yP, yT, Nat.reduceAdd, Nat.reduceLeDiff, reduceCtorEq]
    refine Rcall_lend rfl (colon_spec ts cols k i hc.rise hc.len) (by rfl) fun y hy => ⟨by obtain ⟨_, _, _, rfl, _⟩ := hy; rfl, ?_⟩
    obtain ⟨p, c, b, rfl, hstd, hb, hbc⟩ := hy
    have hfind := find_stands hstd
    cases b with
    | true =>
      obtain ⟨a, ha, hak⟩ := hb.mp rfl
      have hca := hbc rfl
      rw [ha] at hca
      have hac : a = c := Option.some.inj hca
      subst hac
      have hia := hstd.2.2 p a (Nat.le_refl _) ha
      obtain ⟨cc, rfl, hcc⟩ := hc.place a (List.mem_of_getElem? ha)
      have hcol : colonAt cols i k = some cc := by rw [colonAt, hfind, ha]; simp only; rw [if_pos hak]; rfl
      obtain ⟨u, hu⟩ := get_lt hcc
      have hsu := startAt_some hu
      have w4 : wrapK .i64 ((cc : Int) + 1) = ((cc + 1 : Nat) : Int) := wrap_succ (by omega)
      simp -implicitDefEqProofs only [↓yP, yT]
      refine Rd_calm (by rw [C1_P]; kernel_rfl) ?_
      simp -implicitDefEqProofs only [↓yP, yT]
      refine Rcall_lendF rfl (clone_spec ts cols k i cc (by omega) (by omega) hl) (by rfl) fun y hy => ?_
      subst hy
      simp -implicitDefEqProofs only [yT, w4]
      refine Rcall_lendF rfl (clone_spec ts cols k (cc + 1) k (by omega) (by omega) hl) (by rfl) fun y hy => ?_
      subst hy
      simp -implicitDefEqProofs only [↓yP, yT, Nat.reduceAdd, Nat.reduceLeDiff, reduceCtorEq, get_map hu, Tok.pc]
      refine Rd_calm (by rw [C1_P]; kernel_rfl) ?_
      simp -implicitDefEqProofs only [↓yP, yT, Nat.reduceAdd, reduceCtorEq, t1]
      refine ⟨[0], by decide, pinned_one _, ?_, ?_⟩
      · simp only [hnode, leafP, hop, hcol, hsu, Bool.false_eq_true, if_false, Nd.cs, pc_mk, List.map_cons, List.map_nil]
        rfl
      · simp only [hnode, leafP, hop, hcol, Bool.false_eq_true, if_false]
        rfl
    | false =>
      have hcol : colonAt cols i k = none := by
        rw [colonAt, hfind]
        cases hq : cols[p]? with
        | none => rfl
        | some a =>
          simp only
          rw [if_neg fun ha => by have := hb.mpr ⟨a, hq, ha⟩; cases this]
      simp -implicitDefEqProofs only [↓yP, yT]
      refine Rd_calm (by rw [C1_P]; kernel_rfl) ?_
      simp -implicitDefEqProofs only [↓yP, yT, Nat.reduceAdd, reduceCtorEq, t1]
      refine ⟨[0], by decide, pinned_one _, ?_, ?_⟩
      · simp only [hnode, leafP, hop, hcol, Bool.false_eq_true, if_false, Nd.cs, pc_mk, List.map_cons, List.map_nil]
        rfl
      · simp only [hnode, leafP, hop, hcol, Bool.false_eq_true, if_false]
        rfl
end Go.Vx.Seat
end
section
open Go Go.Vx Go.Proofs
set_option maxRecDepth 10000
set_option maxHeartbeats 4000000
namespace Go.Vx.Seat
attribute [local irreducible] Rg Rt Ro Ri Rc Rto Rtk Rtf Rti Rw Rl Rd Rcall Rtcall kf
theorem fn12 : nth C1.P.funcs.toList 12 = some Try.f12 := by kernel_rfl
theorem leafP_in (ts : List Tok) (cols : List Int) (depth i k : Nat) (hik : i ≤ k) (hk : k ≤ ts.length) : k ≤ (leafP ts cols depth i k).2 ∧ (leafP ts cols depth i k).2 ≤ ts.length ∧ (open_ ts depth k = true → k < (leafP ts cols depth i k).2) := by
  unfold leafP
  simp only
  cases h : open_ ts depth k with
  | false => simp; exact hk
  | true =>
    simp only [open_, Bool.and_eq_true, decide_eq_true_eq] at h
    simp; omega
theorem nodeP_in (ts : List Tok) (cols : List Int) (rec : Nat → Nat → List Nd × Nat) (hin : In ts rec) (i depth : Nat) (ho : open_ ts depth i = true) : i < (nodeP ts cols rec i depth).2 ∧ (nodeP ts cols rec i depth).2 ≤ ts.length := by
  have hi : i < ts.length := by simp only [open_, Bool.and_eq_true, decide_eq_true_eq] at ho; exact ho.1
  have hns : ¬ (pl ts i).1 < depth := by simp only [open_, Bool.and_eq_true, Bool.not_eq_true', decide_eq_false_iff_not] at ho; exact ho.2
  have hs := scanP_le ts depth (ts.length - i) i
  have hgt : scanP ts depth (ts.length - i) i = i → (pl ts i).1 ≤ depth ∧ (kindAt ts i = 19 ∨ kindAt ts i = 17) := by
    intro he
    rw [show ts.length - i = (ts.length - i - 1) + 1 by omega, scanP, if_neg hns] at he
    by_cases hq : (pl ts i).1 ≤ depth ∧ (kindAt ts i = 19 ∨ kindAt ts i = 17)
    · exact hq
    · rw [if_neg hq] at he
      have := scanP_le ts depth (ts.length - i - 1) (i + 1)
      omega
  unfold nodeP
  simp only
  generalize scanP ts depth (ts.length - i) i = k at hs hgt
  split
  · rename_i hq
    have hk : k < ts.length := by have := hq.1; simp only [open_, Bool.and_eq_true, decide_eq_true_eq] at this; exact this.1
    have := hin (k + 1) (depth + 1) (by omega)
    unfold ruleP
    simp only
    split
    · omega
    · omega
  · have := leafP_in ts cols depth i k hs.1 (by omega)
    refine ⟨?_, this.2.1⟩
    by_cases he : k = i
    · subst he; exact this.2.2 ho
    · omega
theorem nodesP_in (ts : List Tok) (cols : List Int) : ∀ n, In ts (nodesP ts cols n)
  | 0 => fun i depth hi => by simp [nodesP]; exact hi
  | n + 1 => fun i depth hi => by
    unfold nodesP
    split
    · rename_i ho
      have h1 := nodeP_in ts cols _ (nodesP_in ts cols n) i depth ho
      have h2 := nodesP_in ts cols n (nodeP ts cols (nodesP ts cols n) i depth).2 depth h1.2
      simp only
      omega
    · simp; exact hi
theorem nodes_spec (ts : List Tok) (cols : List Int) (hl : ts.length ≤ 1000000) (hc : ColsOk ts cols) (n : Nat) : NodesSpec ts cols n := by
  induction n using Nat.strongRecOn with
  | _ n ih =>
  intro i0 depth hdi0 hi0 hf0
  refine Yf0 [] (by rfl) (by rfl) fn27 (by rfl) ?_
  simp only [Try.f27, List.length_cons, List.length_nil, List.replicate, List.cons_append, List.nil_append, pbC]
  simp -implicitDefEqProofs only [↓yP, yT]
  refine Rl_nil 5 9 (by decide) rfl ?_
  refine Rl_inv (fun d e s => ∃ (m i : Nat) (acc : List Nd), e = [.c (.ptr 0 0 0 0), yd (.int .i64 depth), Tp, Tp, Tp, .c (.own 1 9 0 acc.length), Tp, Tp, Tp, Tp, Tp, Tp, Tp, Tp, Tp, Tp, Tp, Tp, Tp, Tp, Tp, Tp, Tp, Tp, Tp, Tp, Tp, Tp, Tp] ∧ s = [.box (pbC ts cols i), .row 9 (acc.map Nd.pc)] ∧ m = d ∧ m ≤ n ∧ ts.length - i ≤ m ∧ depth ≤ i ∧ i ≤ ts.length ∧ acc.length ≤ i ∧ acc ++ (nodesP ts cols m i depth).1 = (nodesP ts cols n i0 depth).1 ∧ (nodesP ts cols m i depth).2 = (nodesP ts cols n i0 depth).2)
    [true, true, false, false, false, true] n [0, 1] (by decide) (pinned_one _) ⟨n, i0, [], rfl, rfl, rfl, Nat.le_refl _, hf0, hdi0, hi0, by simp, by simp, rfl⟩ ?_
  rintro d e s ⟨m, i, acc, rfl, rfl, rfl, hmn, hf, hdi, hi, hacc, hout, hend⟩
  simp only [pbC]
  simp -implicitDefEqProofs only [↓yP]
  refine Rd_calm (by rw [C1_P]; kernel_rfl) ?_
  by_cases hil : i < ts.length
  · have t1 : leI (ts.length : Nat) (i : Nat) = false := leI_false (by omega)
    simp -implicitDefEqProofs only [↓yP, yT, t1]
    refine Rcall_lend rfl (shut_spec ts cols i depth hil) (by rfl) fun y hy => ⟨by rw [hy]; rfl, ?_⟩
    subst hy
    by_cases hsh : (pl ts i).1 < depth
    · have hop : open_ ts depth i = false := by simp [open_, hsh]
      have hres : nodesP ts cols m i depth = ([], i) := by
        cases m with
        | zero => rfl
        | succ m => rw [nodesP, hop]; rfl
      rw [hres] at hout hend
      simp only [List.append_nil] at hout hend
      simp -implicitDefEqProofs only [↓yP, yT, reduceCtorEq, decide_eq_true hsh]
      refine ⟨[0], by decide, pinned_one _, ?_, ?_⟩
      · simp only [yE, reduceCtorEq, ← hout]; rfl
      · simp only [yE, ← hend]
    · have hop : open_ ts depth i = true := by simp [open_, hsh, hil]
      obtain ⟨m, rfl⟩ : ∃ m', m = m' + 1 := ⟨m - 1, by omega⟩
      have hin := nodesP_in ts cols m
      have hx := nodeP_in ts cols _ hin i depth hop
      have hnode := node_spec ts cols m hl hc (ih m (by omega)) hin i depth hil hdi (by omega)
      have hres : nodesP ts cols (m + 1) i depth = ((nodeP ts cols (nodesP ts cols m) i depth).1 :: (nodesP ts cols m (nodeP ts cols (nodesP ts cols m) i depth).2 depth).1, (nodesP ts cols m (nodeP ts cols (nodesP ts cols m) i depth).2 depth).2) := by
        rw [nodesP, hop]; rfl
      rw [hres] at hout hend
      have b1 : (acc.length + 1) * 104 ≤ 70368744177664 := by omega
      simp -implicitDefEqProofs only [↓yP, yT, decide_eq_false hsh]
      refine Rcall_hand 1 [.box (pbC ts cols i)] rfl hnode (by simp) rfl (by rfl) fun y s' hy => ?_
      obtain ⟨rfl, rfl⟩ := hy
      refine ⟨rfl, ?_⟩
      generalize hr : nodeP ts cols (nodesP ts cols m) i depth = r at hx hout hend
      obtain ⟨⟨k0, h0, t0, ks0, o0, s0, m0, a0, l0⟩, j⟩ := r
      simp only [pbC, Nd.cs, pc_mk, List.map_cons, List.map_nil]
      simp -implicitDefEqProofs only [↓yP, yT, Nat.reduceAdd, Nat.reduceMul, Nat.reduceLeDiff, reduceCtorEq, b1]
      refine ⟨m, [0, 3], by omega, by decide, pinned_one _, m, j, acc ++ [.mk k0 h0 t0 ks0 o0 s0 m0 a0 l0], ?_, ?_, rfl, by omega, by simp only at hx; omega, by simp only at hx; omega, by simp only at hx; omega, by simp only at hx; simp; omega, ?_, hend⟩
      · simp only [yE, reduceCtorEq]
      · simp only [yE, List.map_append, pc_mk]
      · rw [← hout]; simp
  · have t1 : leI (ts.length : Nat) (i : Nat) = true := leI_true (by omega)
    have hop : open_ ts depth i = false := by simp [open_, hil]
    have hres : nodesP ts cols m i depth = ([], i) := by
      cases m with
      | zero => rfl
      | succ m => rw [nodesP, hop]; rfl
    rw [hres] at hout hend
    simp only [List.append_nil] at hout hend
    simp -implicitDefEqProofs only [↓yP, yT, reduceCtorEq, t1]
    refine ⟨[0], by decide, pinned_one _, ?_, ?_⟩
    · simp only [yE, reduceCtorEq, ← hout]; rfl
    · simp only [yE, ← hend]
theorem filter_rise (p : Nat → Bool) (n : Nat) : Rising (((List.range n).filter p).map fun i : Nat => (i : Int)) := by
  have hpw : ((List.range n).filter p).Pairwise (· < ·) := List.Pairwise.filter _ List.pairwise_lt_range
  intro i j a b hij ha hb
  rw [List.getElem?_map] at ha hb
  cases h1 : ((List.range n).filter p)[i]? with
  | none => rw [h1] at ha; cases ha
  | some x =>
    cases h2 : ((List.range n).filter p)[j]? with
    | none => rw [h2] at hb; cases hb
    | some y =>
      rw [h1] at ha; rw [h2] at hb
      cases ha; cases hb
      have li := lt_of_some h1
      have lj := lt_of_some h2
      have := List.pairwise_iff_getElem.mp hpw i j li lj hij
      rw [List.getElem?_eq_getElem li] at h1
      rw [List.getElem?_eq_getElem lj] at h2
      rw [Option.some.inj h1, Option.some.inj h2] at this
      show (x : Int) < (y : Int)
      omega
theorem colsP_ok (ts : List Tok) (hl : ts.length ≤ 1000000) : ColsOk ts (colonsP ts ts.length) := by
  refine ⟨filter_rise _ _, by have := colonsP_length ts ts.length; omega, fun c hc => ?_⟩
  obtain ⟨k, hk, rfl⟩ := List.mem_map.mp hc
  exact ⟨k, rfl, by simpa using (List.mem_filter.mp hk).1⟩
def parseP (ts : List Tok) : List Nd := (nodesP ts (colonsP ts ts.length) ts.length 0 0).1
theorem parseP_spec (ts : List Tok) (hl : ts.length ≤ 1000000) : PCall C1 12 [.c (.p (rT ts))] fun y => y = .c (.p (rN (parseP ts))) := by
  have hn := nodes_spec ts (colonsP ts ts.length) hl (colsP_ok ts hl) ts.length 0 0 (by omega) (by omega) (by omega)
  refine Pf (by rfl) (by rfl) fn12 (by rfl) ?_
  simp only [Try.f12, List.length_cons, List.length_nil, List.replicate, List.cons_append, List.nil_append]
  simp -implicitDefEqProofs only [↓yP, yT]
  refine Rcall_pure (places_spec ts hl) (by rfl) fun y hy => ?_
  subst hy
  simp -implicitDefEqProofs only [yT]
  refine Rcall_pure (colonsP_spec ts hl) (by rfl) fun y hy => ?_
  subst hy
  simp -implicitDefEqProofs only [↓yP, yT, Nat.reduceAdd, Nat.reduceLeDiff]
  refine Rcall_hand 1 [.box (pbC ts (colonsP ts ts.length) 0)] rfl hn (by simp) rfl (by rfl) fun y s' hy => ?_
  obtain ⟨rfl, rfl⟩ := hy
  refine ⟨rfl, ?_⟩
  simp only [pbC]
  simp -implicitDefEqProofs only [↓yP, yT, reduceCtorEq]
  rfl
end Go.Vx.Seat
end
section
open Go Go.Vx Go.Proofs
set_option maxRecDepth 10000
set_option maxHeartbeats 8000000
namespace Go.Vx.Seat
attribute [local irreducible] Rg Rt Ro Ri Rc Rto Rtk Rtf Rti Rw Rl Rd Rcall Rtcall kf
def shutD (ts : List Tok) (deep k : Nat) : Bool := decide (kindAt ts k = 20) && decide (0 < deep) && decide ((openAt ts k).length = deep)
def endD (ts : List Tok) (deep : Nat) : Nat → Nat → Nat
  | 0, k => k
  | d + 1, k => if (openAt ts k).length = deep ∧ ((kindAt ts k = 20 ∧ 0 < deep) ∨ kindAt ts k = 19 ∨ kindAt ts k = 17) then k else endD ts deep d (k + 1)
theorem endD_le (ts : List Tok) (deep : Nat) : ∀ d k, k ≤ endD ts deep d k ∧ endD ts deep d k ≤ k + d
  | 0, k => by simp [endD]
  | d + 1, k => by
    have := endD_le ts deep d (k + 1)
    unfold endD
    split
    · omega
    · omega
def colD (ts : List Tok) (cols : List Int) (deep i : Nat) : Nat → Option Nat
  | 0 => none
  | m + 1 => if (openAt ts (i + m)).length = deep ∧ cols.contains ((i + m : Nat) : Int) = true then some (i + m) else colD ts cols deep i m
theorem colD_le {ts : List Tok} {cols : List Int} {deep i : Nat} : ∀ {m c : Nat}, colD ts cols deep i m = some c → i ≤ c ∧ c < i + m
  | 0, c, h => by cases h
  | m + 1, c, h => by
    unfold colD at h
    split at h
    · cases h; omega
    · have := colD_le h; omega
def leafD (ts : List Tok) (c : Option Nat) (i k : Nat) (semi : Bool) : Nd × Nat :=
  (match c with
  | some c => .mk 2 (slice ts i c) (slice ts (c + 1) k) [] false false semi (startAt ts c) (if semi then startAt ts k else 0)
  | none => .mk 3 (slice ts i k) [] [] false false semi 0 (if semi then startAt ts k else 0), if semi then k + 1 else k)
def nodeD (ts : List Tok) (cols : List Int) (rec : Nat → Nat → List Nd × Nat) (i deep : Nat) : Nd × Nat :=
  let k := endD ts deep (ts.length - i) i
  if k < ts.length ∧ kindAt ts k = 19 then ruleP ts rec i k deep
  else if k < ts.length then leafD ts (colD ts cols deep i (k - i + 1)) i k (decide (kindAt ts k = 17))
  else leafD ts (colD ts cols deep i (k - i)) i k false
def nodesD (ts : List Tok) (cols : List Int) : Nat → Nat → Nat → List Nd × Nat
  | 0, i, _ => ([], i)
  | n + 1, i, deep => if i < ts.length ∧ shutD ts deep i = false then
      let x := nodeD ts cols (nodesD ts cols n) i deep
      let r := nodesD ts cols n x.2 deep
      (x.1 :: r.1, r.2)
    else ([], i)
def parseD (ts : List Tok) : List Nd := (nodesD ts (colonsTo ts ts.length) ts.length 0 0).1
end Go.Vx.Seat
end
section
open Go Go.Vx Go.Proofs
set_option maxRecDepth 10000
set_option maxHeartbeats 4000000
namespace Go.Vx.Seat
attribute [local irreducible] Rg Rt Ro Ri Rc Rto Rtk Rtf Rti Rw Rl Rd Rcall Rtcall kf
end Go.Vx.Seat
end
section
open Go Go.Vx Go.Proofs
set_option maxRecDepth 10000
set_option maxHeartbeats 8000000
namespace Go.Vx.Seat
attribute [local irreducible] Rg Rt Ro Ri Rc Rto Rtk Rtf Rti Rw Rl Rd Rcall Rtcall kf
theorem fn16 : nth C1.P.funcs.toList 16 = some Try.f16 := by kernel_rfl
theorem fn29 : nth C1.P.funcs.toList 29 = some Try.f29 := by kernel_rfl
theorem fn15 : nth C1.P.funcs.toList 15 = some Try.f15 := by kernel_rfl
def mkTok (k a : Int) : Tok := ⟨k, ⟨#[]⟩, ⟨#[]⟩, false, ⟨#[]⟩, ⟨#[]⟩, false, false, 0, 0, 0, 0, a⟩
mutual
def Nd.toks : Nd → List Tok
  | .mk k h t ks o s m a l => h ++ (if k = 2 then mkTok 16 a :: t else []) ++ (if k = 1 then (if o then [mkTok 19 a] else []) ++ toksOf ks ++ (if s then [mkTok 20 l] else []) else []) ++ (if m then [mkTok 17 l] else [])
def toksOf : List Nd → List Tok
  | [] => []
  | n :: ns => n.toks ++ toksOf ns
end
theorem toksOf_map : ∀ ns : List Nd, toksOf ns = (ns.map Nd.toks).flatten
  | [] => by rw [toksOf]; rfl
  | n :: ns => by rw [toksOf, toksOf_map ns]; rfl
theorem toksOf_snoc (ns : List Nd) (x : Nd) : toksOf (ns ++ [x]) = toksOf ns ++ x.toks := by simp [toksOf_map]
theorem toksOf_take {ns : List Nd} {i : Nat} {x : Nd} (h : ns[i]? = some x) : toksOf (ns.take (i + 1)) = toksOf (ns.take i) ++ x.toks := by
  rw [List.take_add_one, h]; exact toksOf_snoc _ _
theorem toksOf_le {ns : List Nd} {i : Nat} {x : Nd} (h : ns[i]? = some x) : (toksOf (ns.take i)).length + x.toks.length ≤ (toksOf ns).length := by
  have h1 : toksOf ns = toksOf (ns.take (i + 1)) ++ toksOf (ns.drop (i + 1)) := by
    rw [toksOf_map, toksOf_map, toksOf_map, ← List.flatten_append, ← List.map_append, List.take_append_drop]
  rw [← List.length_append, ← toksOf_take h, h1, List.length_append]
  omega
theorem bnd {n : Nat} (h : n ≤ 549755813888) : (n * 128 ≤ 70368744177664) = True := by simp; omega
theorem lit1 (k a : Int) : [[PC.d (.int .i64 k), .d (.string ⟨#[]⟩), .d (.string ⟨#[]⟩), .d (.bool false), .d (.string ⟨#[]⟩), .d (.string ⟨#[]⟩), .d (.bool false), .d (.bool false), .d (.int .i64 0), .d (.int .i64 0), .d (.int .i64 0), .d (.int .i64 0), .d (.int .i64 a)]] = [mkTok k a].map Tok.pc := rfl
def TokSpec : Nd → Prop
  | .mk k h t ks o s m a l => (toksOf ks).length ≤ 1000000 → PCall C1 16 [.c (.p (rN ks))] fun y => y = .c (.p (rT (toksOf ks)))
theorem toksD_list (ns : List Nd) (hl : ns.length ≤ 1000000) (hr : ∀ x, x ∈ ns → TokSpec x) (hb : (toksOf ns).length ≤ 1000000) : PCall C1 16 [.c (.p (rN ns))] fun y => y = .c (.p (rT (toksOf ns))) := by
  refine Pf (by rfl) (by rfl) fn16 (by rfl) ?_
  simp only [Try.f16, List.length_cons, List.length_nil, List.replicate, List.cons_append, List.nil_append]
  simp -implicitDefEqProofs only [↓yP, yT]
  refine Rl_nil 3 13 (by decide) rfl ?_
  refine Rl_inv (fun d e s => ∃ i : Nat, e = [.c (.p (rN ns)), Tp, Tp, .c (.own 0 13 0 (toksOf (ns.take i)).length), yd (.int .i64 i), Tp, Tp, Tp, Tp, Tp, Tp, Tp, Tp, Tp, Tp, Tp, Tp, Tp, Tp, Tp, Tp, Tp, Tp, Tp, Tp, Tp, Tp, Tp, Tp, Tp, Tp, Tp, Tp, Tp, Tp, Tp, Tp, Tp, Tp, Tp, Tp, Tp, Tp, Tp, Tp, Tp, Tp, Tp, Tp, Tp, Tp, Tp, Tp, Tp, Tp, Tp, Tp, Tp, Tp, Tp, Tp, Tp, Tp, Tp, Tp] ∧ s = [.row 13 ((toksOf (ns.take i)).map Tok.pc)] ∧ i + d = ns.length) [true, false, false, true, true] ns.length [0] (by decide) (pinned_zero _) ⟨0, rfl, rfl, by omega⟩ ?_
  rintro d e s ⟨i, rfl, rfl, hd⟩
  by_cases hi : i < ns.length
  · obtain ⟨x, hx⟩ := get_lt hi
    have hxr := hr x (List.mem_of_getElem? hx)
    have hle := toksOf_le hx
    have hsn := toksOf_take hx
    obtain ⟨k0, h0, t0, ks0, o0, s0, m0, a0, l0⟩ := x
    simp only [TokSpec] at hxr
    have t1 : leI (ns.length : Nat) (i : Nat) = false := leI_false (by omega)
    have w1 : wrapK .i64 ((i : Int) + 1) = ((i + 1 : Nat) : Int) := wrap_succ (by omega)
    have hg := get_map (f := Nd.pc) hx
    rw [pc_mk] at hg
    simp only [Nd.toks, List.length_append] at hle
    generalize hac : toksOf (ns.take i) = acc at hle hsn ⊢
    by_cases q1 : k0 = 2
    · have f1 : eqI k0 2 = true := by rw [q1]; rfl
      have f2 : True := trivial
      subst q1
      simp only [if_true, List.length_cons] at hle
      cases m0 with
      | false =>
        simp -implicitDefEqProofs (disch := first | (intros; rename_i h; cases h; done) | ((try simp only [List.length_append, List.length_map, List.length_cons, List.length_nil]); omega)) only [↓yP, yT, Nat.reduceAdd, reduceCtorEq, t1, hg, bnd, List.take_of_length_le, f1]
        refine Rd_trace ?_
        simp -implicitDefEqProofs (disch := first | (intros; rename_i h; cases h; done) | ((try simp only [List.length_append, List.length_map, List.length_cons, List.length_nil]); omega)) only [↓yP, yT, Nat.reduceAdd, Nat.reduceMul, Nat.reduceLeDiff, reduceCtorEq, bnd, List.take_of_length_le, List.length_append, w1]
        refine ⟨d - 1, [5], by omega, by decide, pinned_zero _, i + 1, ?_, ?_, by omega⟩
        · simp only [yE, reduceCtorEq, hsn, Nd.toks]
          try (simp [Nat.add_assoc] <;> omega)
        · simp only [yE, reduceCtorEq, hsn, Nd.toks, lit1]
          try simp
      | true =>
        simp -implicitDefEqProofs (disch := first | (intros; rename_i h; cases h; done) | ((try simp only [List.length_append, List.length_map, List.length_cons, List.length_nil]); omega)) only [↓yP, yT, Nat.reduceAdd, reduceCtorEq, t1, hg, bnd, List.take_of_length_le, f1]
        refine Rd_trace ?_
        simp -implicitDefEqProofs (disch := first | (intros; rename_i h; cases h; done) | ((try simp only [List.length_append, List.length_map, List.length_cons, List.length_nil]); omega)) only [↓yP, yT, Nat.reduceAdd, Nat.reduceMul, Nat.reduceLeDiff, reduceCtorEq, bnd, List.take_of_length_le, List.length_append, w1]
        refine ⟨d - 1, [7], by omega, by decide, pinned_zero _, i + 1, ?_, ?_, by omega⟩
        · simp only [yE, hsn, Nd.toks]
          try (simp [Nat.add_assoc] <;> omega)
        · simp only [yE, hsn, Nd.toks, lit1]
          try simp
    have f1 : eqI k0 2 = false := eqI_false q1
    by_cases q2 : k0 = 1
    · have f2 : eqI k0 1 = true := by rw [q2]; rfl
      subst q2
      simp only [if_true, List.length_append] at hle
      have hks := hxr (by omega)
      rcases o0 with _ | _ <;> rcases s0 with _ | _ <;> rcases m0 with _ | _
      · skip
        simp -implicitDefEqProofs (disch := first | (intros; rename_i h; cases h; done) | ((try simp only [List.length_append, List.length_map, List.length_cons, List.length_nil]); omega)) only [↓yP, yT, Nat.reduceAdd, reduceCtorEq, t1, hg, bnd, List.take_of_length_le, f1, f2]
        refine Rcall_pure hks (by rfl) fun y hy => ?_
        subst hy
        simp -implicitDefEqProofs (disch := first | (intros; rename_i h; cases h; done) | ((try simp only [List.length_append, List.length_map, List.length_cons, List.length_nil]); omega)) only [↓yP, yT, Nat.reduceAdd, reduceCtorEq, bnd, List.take_of_length_le, List.length_append, w1]
        refine ⟨d - 1, [3], by omega, by decide, pinned_zero _, i + 1, ?_, ?_, by omega⟩
        · simp only [yE, reduceCtorEq, hsn, Nd.toks]
          try (simp [Nat.add_assoc] <;> omega)
        · simp only [yE, reduceCtorEq, hsn, Nd.toks]
          try simp
      · skip
        simp -implicitDefEqProofs (disch := first | (intros; rename_i h; cases h; done) | ((try simp only [List.length_append, List.length_map, List.length_cons, List.length_nil]); omega)) only [↓yP, yT, Nat.reduceAdd, reduceCtorEq, t1, hg, bnd, List.take_of_length_le, f1, f2]
        refine Rcall_pure hks (by rfl) fun y hy => ?_
        subst hy
        simp -implicitDefEqProofs (disch := first | (intros; rename_i h; cases h; done) | ((try simp only [List.length_append, List.length_map, List.length_cons, List.length_nil]); omega)) only [↓yP, yT, Nat.reduceAdd, Nat.reduceMul, Nat.reduceLeDiff, reduceCtorEq, bnd, List.take_of_length_le, List.length_append, w1]
        refine ⟨d - 1, [5], by omega, by decide, pinned_zero _, i + 1, ?_, ?_, by omega⟩
        · simp only [yE, reduceCtorEq, hsn, Nd.toks]
          try (simp [Nat.add_assoc] <;> omega)
        · simp only [yE, reduceCtorEq, hsn, Nd.toks, lit1]
          try simp
      · skip
        simp -implicitDefEqProofs (disch := first | (intros; rename_i h; cases h; done) | ((try simp only [List.length_append, List.length_map, List.length_cons, List.length_nil]); omega)) only [↓yP, yT, Nat.reduceAdd, reduceCtorEq, t1, hg, bnd, List.take_of_length_le, f1, f2]
        refine Rcall_pure hks (by rfl) fun y hy => ?_
        subst hy
        simp -implicitDefEqProofs (disch := first | (intros; rename_i h; cases h; done) | ((try simp only [List.length_append, List.length_map, List.length_cons, List.length_nil]); omega)) only [↓yP, yT, Nat.reduceAdd, Nat.reduceMul, Nat.reduceLeDiff, reduceCtorEq, bnd, List.take_of_length_le, List.length_append, w1]
        refine ⟨d - 1, [5], by omega, by decide, pinned_zero _, i + 1, ?_, ?_, by omega⟩
        · simp only [yE, reduceCtorEq, hsn, Nd.toks]
          try (simp [Nat.add_assoc] <;> omega)
        · simp only [yE, reduceCtorEq, hsn, Nd.toks, lit1]
          try simp
      · skip
        simp -implicitDefEqProofs (disch := first | (intros; rename_i h; cases h; done) | ((try simp only [List.length_append, List.length_map, List.length_cons, List.length_nil]); omega)) only [↓yP, yT, Nat.reduceAdd, reduceCtorEq, t1, hg, bnd, List.take_of_length_le, f1, f2]
        refine Rcall_pure hks (by rfl) fun y hy => ?_
        subst hy
        simp -implicitDefEqProofs (disch := first | (intros; rename_i h; cases h; done) | ((try simp only [List.length_append, List.length_map, List.length_cons, List.length_nil]); omega)) only [↓yP, yT, Nat.reduceAdd, Nat.reduceMul, Nat.reduceLeDiff, reduceCtorEq, bnd, List.take_of_length_le, List.length_append, w1]
        refine ⟨d - 1, [7], by omega, by decide, pinned_zero _, i + 1, ?_, ?_, by omega⟩
        · simp only [yE, reduceCtorEq, hsn, Nd.toks]
          try (simp [Nat.add_assoc] <;> omega)
        · simp only [yE, reduceCtorEq, hsn, Nd.toks, lit1]
          try simp
      · skip
        simp -implicitDefEqProofs (disch := first | (intros; rename_i h; cases h; done) | ((try simp only [List.length_append, List.length_map, List.length_cons, List.length_nil]); omega)) only [↓yP, yT, Nat.reduceAdd, Nat.reduceMul, Nat.reduceLeDiff, reduceCtorEq, t1, hg, bnd, List.take_of_length_le, List.length_append, f1, f2]
        refine Rcall_pure hks (by rfl) fun y hy => ?_
        subst hy
        simp -implicitDefEqProofs (disch := first | (intros; rename_i h; cases h; done) | ((try simp only [List.length_append, List.length_map, List.length_cons, List.length_nil]); omega)) only [↓yP, yT, Nat.reduceAdd, reduceCtorEq, bnd, List.take_of_length_le, List.length_append, w1]
        refine ⟨d - 1, [5], by omega, by decide, pinned_zero _, i + 1, ?_, ?_, by omega⟩
        · simp only [yE, reduceCtorEq, hsn, Nd.toks]
          try (simp [Nat.add_assoc] <;> omega)
        · simp only [yE, reduceCtorEq, hsn, Nd.toks, lit1]
          try simp
      · skip
        simp -implicitDefEqProofs (disch := first | (intros; rename_i h; cases h; done) | ((try simp only [List.length_append, List.length_map, List.length_cons, List.length_nil]); omega)) only [↓yP, yT, Nat.reduceAdd, Nat.reduceMul, Nat.reduceLeDiff, reduceCtorEq, t1, hg, bnd, List.take_of_length_le, List.length_append, f1, f2]
        refine Rcall_pure hks (by rfl) fun y hy => ?_
        subst hy
        simp -implicitDefEqProofs (disch := first | (intros; rename_i h; cases h; done) | ((try simp only [List.length_append, List.length_map, List.length_cons, List.length_nil]); omega)) only [↓yP, yT, Nat.reduceAdd, Nat.reduceMul, Nat.reduceLeDiff, reduceCtorEq, bnd, List.take_of_length_le, List.length_append, w1]
        refine ⟨d - 1, [7], by omega, by decide, pinned_zero _, i + 1, ?_, ?_, by omega⟩
        · simp only [yE, reduceCtorEq, hsn, Nd.toks]
          try (simp [Nat.add_assoc] <;> omega)
        · simp only [yE, reduceCtorEq, hsn, Nd.toks, lit1]
          try simp
      · skip
        simp -implicitDefEqProofs (disch := first | (intros; rename_i h; cases h; done) | ((try simp only [List.length_append, List.length_map, List.length_cons, List.length_nil]); omega)) only [↓yP, yT, Nat.reduceAdd, Nat.reduceMul, Nat.reduceLeDiff, reduceCtorEq, t1, hg, bnd, List.take_of_length_le, List.length_append, f1, f2]
        refine Rcall_pure hks (by rfl) fun y hy => ?_
        subst hy
        simp -implicitDefEqProofs (disch := first | (intros; rename_i h; cases h; done) | ((try simp only [List.length_append, List.length_map, List.length_cons, List.length_nil]); omega)) only [↓yP, yT, Nat.reduceAdd, Nat.reduceMul, Nat.reduceLeDiff, reduceCtorEq, bnd, List.take_of_length_le, List.length_append, w1]
        refine ⟨d - 1, [7], by omega, by decide, pinned_zero _, i + 1, ?_, ?_, by omega⟩
        · simp only [yE, reduceCtorEq, hsn, Nd.toks]
          try (simp [Nat.add_assoc] <;> omega)
        · simp only [yE, reduceCtorEq, hsn, Nd.toks, lit1]
          try simp
      · skip
        simp -implicitDefEqProofs (disch := first | (intros; rename_i h; cases h; done) | ((try simp only [List.length_append, List.length_map, List.length_cons, List.length_nil]); omega)) only [↓yP, yT, Nat.reduceAdd, Nat.reduceMul, Nat.reduceLeDiff, reduceCtorEq, t1, hg, bnd, List.take_of_length_le, List.length_append, f1, f2]
        refine Rcall_pure hks (by rfl) fun y hy => ?_
        subst hy
        simp -implicitDefEqProofs (disch := first | (intros; rename_i h; cases h; done) | ((try simp only [List.length_append, List.length_map, List.length_cons, List.length_nil]); omega)) only [↓yP, yT, Nat.reduceAdd, Nat.reduceMul, Nat.reduceLeDiff, reduceCtorEq, bnd, List.take_of_length_le, List.length_append, w1]
        refine ⟨d - 1, [9], by omega, by decide, pinned_zero _, i + 1, ?_, ?_, by omega⟩
        · simp only [yE, hsn, Nd.toks]
          try (simp [Nat.add_assoc] <;> omega)
        · simp only [yE, hsn, Nd.toks, lit1]
          try simp
    · have f2 : eqI k0 1 = false := eqI_false q2
      rw [if_neg q1, if_neg q2] at hle
      cases m0 with
      | false =>
        simp -implicitDefEqProofs (disch := first | (intros; rename_i h; cases h; done) | ((try simp only [List.length_append, List.length_map, List.length_cons, List.length_nil]); omega)) only [↓yP, yT, Nat.reduceAdd, reduceCtorEq, t1, hg, bnd, List.take_of_length_le, f1, f2, w1]
        refine ⟨d - 1, [2], by omega, by decide, pinned_zero _, i + 1, ?_, ?_, by omega⟩
        · simp only [yE, reduceCtorEq, hsn, Nd.toks, if_neg q1, if_neg q2]
          try (simp [Nat.add_assoc] <;> omega)
        · simp only [yE, reduceCtorEq, hsn, Nd.toks, if_neg q1, if_neg q2]
          try simp
      | true =>
        simp -implicitDefEqProofs (disch := first | (intros; rename_i h; cases h; done) | ((try simp only [List.length_append, List.length_map, List.length_cons, List.length_nil]); omega)) only [↓yP, yT, Nat.reduceAdd, Nat.reduceMul, Nat.reduceLeDiff, reduceCtorEq, t1, hg, bnd, List.take_of_length_le, List.length_append, f1, f2, w1]
        refine ⟨d - 1, [4], by omega, by decide, pinned_zero _, i + 1, ?_, ?_, by omega⟩
        · simp only [yE, hsn, Nd.toks, if_neg q1, if_neg q2]
          try (simp [Nat.add_assoc] <;> omega)
        · simp only [yE, hsn, Nd.toks, lit1, if_neg q1, if_neg q2]
          try simp
  · have t1 : leI (ns.length : Nat) (i : Nat) = true := leI_true (by omega)
    have : i = ns.length := by omega
    subst this
    simp -implicitDefEqProofs only [↓yP, yT, reduceCtorEq, t1, List.take_length]
end Go.Vx.Seat
end
section
open Go Go.Vx Go.Proofs
namespace Go.Vx.Seat
mutual
def Nd.strip : Nd → Nd
  | .mk k h t ks o s m a l => .mk k (h.map Seat.strip) (t.map Seat.strip) (Nd.strips ks) o s m 0 0
def Nd.strips : List Nd → List Nd
  | [] => []
  | n :: ns => n.strip :: Nd.strips ns
end
theorem strips_map : ∀ ns : List Nd, Nd.strips ns = ns.map Nd.strip
  | [] => by rw [Nd.strips]; rfl
  | n :: ns => by rw [Nd.strips, strips_map ns]; rfl
structure Sim (ts us : List Tok) (cs ds : List Int) (a : Nat) : Prop where
  len : ts.length = a + us.length
  kind : ∀ k, kindAt ts (a + k) = kindAt us k
  opn : ∀ k, k ≤ us.length → openAt ts (a + k) = openAt us k
  col : ∀ k, k < us.length → cs.contains ((a + k : Nat) : Int) = ds.contains ((k : Nat) : Int)
  tok : (ts.drop a).map strip = us.map strip
section
variable {ts us : List Tok} {cs ds : List Int} {a : Nat}
theorem Sim.shut (S : Sim ts us cs ds a) {deep k : Nat} (hk : k ≤ us.length) : shutD ts deep (a + k) = shutD us deep k := by
  rw [shutD, shutD, S.kind, S.opn k hk]
theorem Sim.endD (S : Sim ts us cs ds a) {deep : Nat} : ∀ (d k : Nat), k + d ≤ us.length → Seat.endD ts deep d (a + k) = a + Seat.endD us deep d k
  | 0, k, _ => rfl
  | d + 1, k, h => by
    rw [Seat.endD, Seat.endD, S.kind, S.opn k (by omega), Nat.add_assoc, S.endD d (k + 1) (by omega)]
    split <;> rfl
theorem Sim.colD (S : Sim ts us cs ds a) {deep i : Nat} : ∀ (m : Nat), i + m ≤ us.length → Seat.colD ts cs deep (a + i) m = (Seat.colD us ds deep i m).map (a + ·)
  | 0, _ => rfl
  | m + 1, h => by
    rw [Seat.colD, Seat.colD, Nat.add_assoc, S.opn (i + m) (by omega), S.col (i + m) (by omega), S.colD m (by omega)]
    split <;> rfl
theorem Sim.slice (S : Sim ts us cs ds a) (x y : Nat) : (Seat.slice ts (a + x) (a + y)).map strip = (Seat.slice us x y).map strip := by
  rw [Seat.slice, Seat.slice, List.map_take, List.map_take, ← List.drop_drop, List.map_drop, S.tok, List.map_drop, show a + y - (a + x) = y - x by omega]
theorem Sim.leaf (S : Sim ts us cs ds a) (c : Option Nat) (i k : Nat) (b : Bool) : (leafD ts (c.map (a + ·)) (a + i) (a + k) b).1.strip = (leafD us c i k b).1.strip ∧ (leafD ts (c.map (a + ·)) (a + i) (a + k) b).2 = a + (leafD us c i k b).2 := by
  refine ⟨?_, by unfold leafD; cases b <;> rfl⟩
  cases c with
  | none =>
    simp only [leafD, Option.map_none, Nd.strip]
    rw [S.slice]
  | some c =>
    simp only [leafD, Option.map_some, Nd.strip]
    rw [S.slice, Nat.add_assoc, S.slice]
theorem Sim.rule (S : Sim ts us cs ds a) {r1 r2 : Nat → Nat → List Nd × Nat} {i k deep : Nat} (h1 : Nd.strips (r1 (a + k + 1) (deep + 1)).1 = Nd.strips (r2 (k + 1) (deep + 1)).1) (h2 : (r1 (a + k + 1) (deep + 1)).2 = a + (r2 (k + 1) (deep + 1)).2) :
    (ruleP ts r1 (a + i) (a + k) deep).1.strip = (ruleP us r2 i k deep).1.strip ∧ (ruleP ts r1 (a + i) (a + k) deep).2 = a + (ruleP us r2 i k deep).2 := by
  have hl := S.len
  have hd : decide (a + (r2 (k + 1) (deep + 1)).2 < ts.length) = decide ((r2 (k + 1) (deep + 1)).2 < us.length) := by rw [Bool.eq_iff_iff]; simp; omega
  refine ⟨?_, ?_⟩
  · simp only [ruleP, Nd.strip, h1, h2, hd]
    rw [S.slice]
  · simp only [ruleP, h2]
    by_cases h : (r2 (k + 1) (deep + 1)).2 < us.length
    · rw [if_pos h, if_pos (by omega)]; omega
    · rw [if_neg h, if_neg (by omega)]
theorem rule_end (us : List Tok) (r : Nat → Nat → List Nd × Nat) (i k deep : Nat) (h1 : k + 1 ≤ (r (k + 1) (deep + 1)).2) (h2 : (r (k + 1) (deep + 1)).2 ≤ us.length) : k < (ruleP us r i k deep).2 ∧ (ruleP us r i k deep).2 ≤ us.length := by
  simp only [ruleP]
  split <;> omega
theorem leaf_end (us : List Tok) (c : Option Nat) (i k : Nat) (b : Bool) : (leafD us c i k b).2 = if b then k + 1 else k := by unfold leafD; rfl
theorem endD_is (us : List Tok) (deep : Nat) : ∀ (d k : Nat), Seat.endD us deep d k = k + d ∨ ((openAt us (Seat.endD us deep d k)).length = deep ∧ ((kindAt us (Seat.endD us deep d k) = 20 ∧ 0 < deep) ∨ kindAt us (Seat.endD us deep d k) = 19 ∨ kindAt us (Seat.endD us deep d k) = 17))
  | 0, k => .inl rfl
  | d + 1, k => by
    rw [Seat.endD]
    split
    · rename_i h; exact .inr h
    · rcases endD_is us deep d (k + 1) with h | h
      · exact .inl (by omega)
      · exact .inr h
theorem Sim.nodes (S : Sim ts us cs ds a) : ∀ (n n' i deep : Nat), us.length - i ≤ n → us.length - i ≤ n' → i ≤ us.length →
    Nd.strips (nodesD ts cs n (a + i) deep).1 = Nd.strips (nodesD us ds n' i deep).1 ∧ (nodesD ts cs n (a + i) deep).2 = a + (nodesD us ds n' i deep).2 ∧ i ≤ (nodesD us ds n' i deep).2 ∧ (nodesD us ds n' i deep).2 ≤ us.length := by
  have hl := S.len
  have stop : ∀ n n' i deep, us.length ≤ i → i ≤ us.length → Nd.strips (nodesD ts cs n (a + i) deep).1 = Nd.strips (nodesD us ds n' i deep).1 ∧ (nodesD ts cs n (a + i) deep).2 = a + (nodesD us ds n' i deep).2 ∧ i ≤ (nodesD us ds n' i deep).2 ∧ (nodesD us ds n' i deep).2 ≤ us.length := by
    intro n n' i deep h1 h2
    have e1 : nodesD ts cs n (a + i) deep = ([], a + i) := by
      cases n with
      | zero => rfl
      | succ n => rw [nodesD, if_neg (by omega)]
    have e2 : nodesD us ds n' i deep = ([], i) := by
      cases n' with
      | zero => rfl
      | succ n => rw [nodesD, if_neg (by omega)]
    rw [e1, e2]
    exact ⟨rfl, rfl, Nat.le_refl _, h2⟩
  intro n
  induction n with
  | zero => intro n' i deep h1 h2 h3; exact stop 0 n' i deep (by omega) h3
  | succ n ih =>
    intro n' i deep h1 h2 h3
    by_cases hi : i < us.length
    · cases n' with
      | zero => omega
      | succ n' =>
        rw [nodesD, nodesD]
        cases hsh : shutD us deep i with
        | true =>
          rw [if_neg (by rw [S.shut h3, hsh]; simp), if_neg (by simp)]
          exact ⟨rfl, rfl, Nat.le_refl _, h3⟩
        | false =>
          rw [if_pos ⟨by omega, by rw [S.shut h3, hsh]⟩, if_pos ⟨hi, rfl⟩]
          have node : (nodeD ts cs (nodesD ts cs n) (a + i) deep).1.strip = (nodeD us ds (nodesD us ds n') i deep).1.strip ∧ (nodeD ts cs (nodesD ts cs n) (a + i) deep).2 = a + (nodeD us ds (nodesD us ds n') i deep).2 ∧ i < (nodeD us ds (nodesD us ds n') i deep).2 ∧ (nodeD us ds (nodesD us ds n') i deep).2 ≤ us.length := by
            have he : Seat.endD ts deep (ts.length - (a + i)) (a + i) = a + Seat.endD us deep (us.length - i) i := by
              rw [show ts.length - (a + i) = us.length - i by omega]
              exact S.endD _ _ (by omega)
            have hle := endD_le us deep (us.length - i) i
            have his := endD_is us deep (us.length - i) i
            unfold nodeD
            simp only
            rw [he]
            generalize Seat.endD us deep (us.length - i) i = k at hle his ⊢
            rw [S.kind]
            by_cases hk : k < us.length
            · have hko := his.resolve_left (by omega)
              by_cases h19 : kindAt us k = 19
              · rw [if_pos ⟨by omega, h19⟩, if_pos ⟨hk, h19⟩]
                obtain ⟨r1, r2, r3, r4⟩ := ih n' (k + 1) (deep + 1) (by omega) (by omega) (by omega)
                obtain ⟨q1, q2⟩ := S.rule (r1 := nodesD ts cs n) (r2 := nodesD us ds n') (i := i) (k := k) (deep := deep) r1 r2
                have := rule_end us (nodesD us ds n') i k deep r3 r4
                exact ⟨q1, q2, by omega, this.2⟩
              · rw [if_neg (by simp [h19]), if_pos (show a + k < ts.length by omega), if_neg (by simp [h19]), if_pos hk]
                rw [show a + k - (a + i) + 1 = k - i + 1 by omega, S.colD (k - i + 1) (by omega)]
                obtain ⟨q1, q2⟩ := S.leaf (Seat.colD us ds deep i (k - i + 1)) i k (decide (kindAt us k = 17))
                refine ⟨q1, q2, ?_, ?_⟩
                · rw [leaf_end]
                  by_cases h17 : kindAt us k = 17
                  · rw [if_pos (by simpa using h17)]; omega
                  · rw [if_neg (by simpa using h17)]
                    rcases Nat.lt_or_ge i k with h | h
                    · exact h
                    · obtain rfl : k = i := by omega
                      exfalso
                      have : kindAt us k = 20 ∧ 0 < deep := by
                        rcases hko.2 with h | h | h
                        · exact h
                        · exact absurd h h19
                        · exact absurd h h17
                      rw [shutD, this.1, hko.1] at hsh
                      simp [this.2] at hsh
                · rw [leaf_end]; split <;> omega
            · obtain rfl : k = us.length := by omega
              rw [if_neg (by omega), if_neg (by omega), if_neg (by omega), if_neg (by omega)]
              rw [show a + us.length - (a + i) = us.length - i by omega, S.colD (us.length - i) (by omega)]
              obtain ⟨q1, q2⟩ := S.leaf (Seat.colD us ds deep i (us.length - i)) i us.length false
              refine ⟨q1, q2, ?_, ?_⟩
              · rw [leaf_end]; simpa using hi
              · rw [leaf_end]; simp
          obtain ⟨n1, n2, n3, n4⟩ := node
          simp only
          rw [n2]
          obtain ⟨m1, m2, m3, m4⟩ := ih n' (nodeD us ds (nodesD us ds n') i deep).2 deep (by omega) (by omega) n4
          refine ⟨?_, m2, by omega, m4⟩
          rw [Nd.strips, Nd.strips, n1, m1]
    · exact stop (n + 1) n' i deep (by omega) h3
end
theorem cols_at {ts : List Tok} {j : Nat} (hj : j < ts.length) : (colonsTo ts ts.length).contains ((j : Nat) : Int) = isColon ts j := by rw [← colons_same]; exact contains_colon hj
theorem Sim.self (l : List Tok) : Sim (l.map Seat.strip) l (colonsTo (l.map Seat.strip) (l.map Seat.strip).length) (colonsTo l l.length) 0 where
  len := by simp
  kind k := by rw [Nat.zero_add, kind_strip]
  opn k hk := by rw [Nat.zero_add, open_strip]
  col k hk := by rw [Nat.zero_add, cols_at (by simpa using hk), cols_at hk, colon_strip]
  tok := by simp [Function.comp_def, Seat.strip]
theorem parse_strip (l : List Tok) : Nd.strips (parseD (l.map strip)) = Nd.strips (parseD l) := by
  have h := (Sim.self l).nodes (l.map strip).length l.length 0 0 (by simp) (by simp) (by simp)
  rw [parseD, parseD]
  simpa using h.1
theorem Sim.high {A B : List Tok} (hA : Closed A) : Sim (A ++ B) B (colonsTo (A ++ B) (A ++ B).length) (colonsTo B B.length) A.length where
  len := by simp
  kind k := kind_high A B k
  opn k hk := open_high hA hk
  col k hk := by rw [cols_at (by simp; omega), cols_at hk, colon_highI hA hk]
  tok := by simp
def CondD (ts : List Tok) (deep k : Nat) : Prop := (openAt ts k).length = deep ∧ ((kindAt ts k = 20 ∧ 0 < deep) ∨ kindAt ts k = 19 ∨ kindAt ts k = 17)
theorem endD_first {ts : List Tok} {deep k : Nat} (hk : CondD ts deep k) : ∀ (d i : Nat), i ≤ k → k < i + d → (∀ x, i ≤ x → x < k → ¬ CondD ts deep x) → endD ts deep d i = k
  | 0, i, h1, h2, _ => by omega
  | d + 1, i, h1, h2, h3 => by
    rw [endD]
    by_cases hik : i = k
    · subst hik; exact if_pos hk
    · refine (if_neg (h3 i (Nat.le_refl _) (by omega))).trans ?_
      exact endD_first hk d (i + 1) (by omega) (by omega) fun x hx1 hx2 => h3 x (by omega) hx2
theorem first_of {p : Nat → Prop} : ∀ (d i : Nat), p (i + d) → ∃ k, i ≤ k ∧ k ≤ i + d ∧ p k ∧ ∀ x, i ≤ x → x < k → ¬ p x
  | 0, i, h => ⟨i, Nat.le_refl _, Nat.le_refl _, h, fun x h1 h2 => absurd h2 (Nat.not_lt.mpr h1)⟩
  | d + 1, i, h => by
    by_cases hi : p i
    · exact ⟨i, Nat.le_refl _, by omega, hi, fun x h1 h2 => absurd h2 (Nat.not_lt.mpr h1)⟩
    · obtain ⟨k, h1, h2, h3, h4⟩ := first_of (p := p) d (i + 1) (by rw [show i + 1 + d = i + (d + 1) by omega]; exact h)
      refine ⟨k, by omega, by omega, h3, fun x hx1 hx2 => ?_⟩
      by_cases hx : x = i
      · rw [hx]; exact hi
      · exact h4 x (by omega) hx2
section
variable {A B : List Tok}
theorem cond_low {deep k : Nat} (hk : k < A.length) : CondD (A ++ B) deep k ↔ CondD A deep k := by
  rw [CondD, CondD, open_low (by omega), kind_low hk]
theorem colD_low (hA : Closed A) {deep i : Nat} : ∀ (m : Nat), i + m ≤ A.length → colD (A ++ B) (colonsTo (A ++ B) (A ++ B).length) deep i m = colD A (colonsTo A A.length) deep i m
  | 0, _ => rfl
  | m + 1, h => by
    rw [colD, colD, open_low (by omega), cols_at (by simp; omega), cols_at (by omega), colon_lowI hA (by omega), colD_low hA m (by omega)]
theorem slice_low {x y : Nat} (hy : y ≤ A.length) : slice (A ++ B) x y = slice A x y := by
  rw [slice, slice]
  by_cases hx : x ≤ A.length
  · rw [List.drop_append_of_le_length hx, List.take_append_of_le_length (by rw [List.length_drop]; omega)]
  · rw [show y - x = 0 by omega]; simp
theorem start_low {x : Nat} (hx : x < A.length) : startAt (A ++ B) x = startAt A x := by rw [startAt, startAt, get_low hx]
theorem leaf_low {c : Option Nat} {i k : Nat} {b : Bool} (hc : ∀ x, c = some x → x < A.length) (hk : k < A.length) : leafD (A ++ B) c i k b = leafD A c i k b := by
  unfold leafD
  cases c with
  | none => simp only; rw [slice_low (by omega), start_low hk]
  | some x =>
    have := hc x rfl
    simp only; rw [slice_low (by omega), slice_low (by omega), start_low hk, start_low this]
theorem node_low (hA : Closed A) {r1 r2 : Nat → Nat → List Nd × Nat} {i k deep : Nat} (hik : i ≤ k) (hk : k < A.length) (hc : CondD A deep k) (hn : ∀ x, i ≤ x → x < k → ¬ CondD A deep x)
    (hr : kindAt A k = 19 → r1 (k + 1) (deep + 1) = r2 (k + 1) (deep + 1) ∧ (r2 (k + 1) (deep + 1)).2 < A.length) :
    nodeD (A ++ B) (colonsTo (A ++ B) (A ++ B).length) r1 i deep = nodeD A (colonsTo A A.length) r2 i deep ∧
    (nodeD A (colonsTo A A.length) r2 i deep).2 = if kindAt A k = 19 then (r2 (k + 1) (deep + 1)).2 + 1 else if kindAt A k = 17 then k + 1 else k := by
  have e1 : endD A deep (A.length - i) i = k := endD_first hc _ _ hik (by omega) hn
  have e2 : endD (A ++ B) deep ((A ++ B).length - i) i = k := endD_first ((cond_low hk).mpr hc) _ _ hik (by simp; omega) fun x h1 h2 h3 => hn x h1 h2 ((cond_low (by omega)).mp h3)
  have hlt : k < (A ++ B).length := by simp; omega
  unfold nodeD
  simp only
  rw [e1, e2, kind_low hk]
  by_cases h19 : kindAt A k = 19
  · obtain ⟨h1, h2⟩ := hr h19
    rw [if_pos ⟨hlt, h19⟩, if_pos ⟨hk, h19⟩, if_pos h19]
    have h3 : (r2 (k + 1) (deep + 1)).2 < (A ++ B).length := by simp; omega
    refine ⟨?_, ?_⟩
    · unfold ruleP
      simp only
      rw [h1, if_pos h3, if_pos h2, if_pos h2, if_pos h3, decide_eq_true h3, decide_eq_true h2, slice_low (by omega), start_low hk, start_low h2]
    · unfold ruleP
      simp only
      rw [if_pos h2]
  · rw [if_neg (by simp [h19]), if_pos hlt, if_neg (by simp [h19]), if_pos hk, if_neg h19, colD_low hA _ (by omega)]
    refine ⟨leaf_low (fun x hx => by have := colD_le hx; omega) hk, ?_⟩
    rw [leaf_end]
    by_cases h17 : kindAt A k = 17
    · rw [if_pos (by simpa using h17), if_pos h17]
    · rw [if_neg (by simpa using h17), if_neg h17]
theorem pre_eq {s o : List Int} (h : s <+: o) (hl : o.length = s.length) : o = s := (h.eq_of_length hl.symm).symm
theorem nodes_low (hA : Closed A) : ∀ (d i p deep n n' : Nat) (s : List Int), p - i ≤ d → i ≤ p → p < A.length → s.length = deep → s.getLast? = some 20 → openAt A p = s → kindAt A p = 20 → (∀ x, i ≤ x → x ≤ p → s <+: openAt A x) → openAt A i = s → p - i ≤ n → p - i ≤ n' →
    nodesD (A ++ B) (colonsTo (A ++ B) (A ++ B).length) n i deep = nodesD A (colonsTo A A.length) n' i deep ∧ (nodesD A (colonsTo A A.length) n' i deep).2 = p := by
  intro d
  induction d with
  | zero =>
    intro i p deep n n' s hd hip hp hs hlast hop hkp hpre hoi hn hn'
    obtain rfl : i = p := by omega
    have hsn : 0 < deep := by
      rcases List.eq_nil_or_concat s with e | ⟨u, z, e⟩
      · rw [e] at hlast; cases hlast
      · rw [← hs, e]; simp
    have h1 : shutD A deep i = true := by rw [shutD, hkp, hop, hs]; simp [hsn]
    have h2 : shutD (A ++ B) deep i = true := by rw [shutD, kind_low hp, open_low (by omega), hkp, hop, hs]; simp [hsn]
    have e1 : nodesD A (colonsTo A A.length) n' i deep = ([], i) := by
      cases n' with
      | zero => rfl
      | succ n => rw [nodesD, if_neg (by rw [h1]; simp)]
    have e2 : nodesD (A ++ B) (colonsTo (A ++ B) (A ++ B).length) n i deep = ([], i) := by
      cases n with
      | zero => rfl
      | succ n => rw [nodesD, if_neg (by rw [h2]; simp)]
    rw [e1, e2]; exact ⟨rfl, rfl⟩
  | succ d ih =>
    intro i p deep n n' s hd hip hp hs hlast hop hkp hpre hoi hn hn'
    by_cases hi : i = p
    · exact ih i p deep n n' s (by omega) hip hp hs hlast hop hkp hpre hoi hn hn'
    · have hsn : 0 < deep := by
        rcases List.eq_nil_or_concat s with e | ⟨u, z, e⟩
        · rw [e] at hlast; cases hlast
        · rw [← hs, e]; simp

      have lone : ∀ x, i ≤ x → x < p → openAt A x = s → kindAt A x ≠ 20 := by
        intro x h1 h2 h3 h4
        obtain ⟨t, ht⟩ := get_lt (l := A) (i := x) (by omega)
        have h5 := openAt_succ ht
        rw [kindAt_some ht] at h4
        rw [h3, h4, nestStep, if_pos hlast] at h5
        have h6 := (hpre (x + 1) (by omega) (by omega)).length_le
        rw [h5] at h6; simp at h6; omega
      cases n with
      | zero => omega
      | succ n =>
        cases n' with
        | zero => omega
        | succ n' =>
          have hsh : shutD A deep i = false := by
            rw [shutD, hoi, hs]
            have := lone i (Nat.le_refl _) (by omega) hoi
            simp [this]
          have hsh2 : shutD (A ++ B) deep i = false := by rw [shutD, kind_low (by omega), open_low (by omega)]; exact hsh
          have hcp : CondD A deep p := ⟨by rw [hop, hs], .inl ⟨hkp, hsn⟩⟩
          obtain ⟨k, k1, k2, k3, k4⟩ := first_of (p := CondD A deep) (p - i) i (by rw [show i + (p - i) = p by omega]; exact hcp)
          have hok : openAt A k = s := pre_eq (hpre k k1 (by omega)) (by rw [k3.1, hs])
          obtain ⟨t, ht⟩ := get_lt (l := A) (i := k) (by omega)
          have hkt := kindAt_some ht
          have hos := openAt_succ ht
          rw [nodesD, nodesD, if_pos ⟨by simp; omega, hsh2⟩, if_pos ⟨by omega, hsh⟩]
          by_cases h19 : kindAt A k = 19
          · have hkp2 : k < p := by
              rcases Nat.lt_or_ge k p with h | h
              · exact h
              · have : k = p := by omega
                rw [this, hkp] at h19; cases h19
            have ho1 : openAt A (k + 1) = s ++ [20] := by
              rw [hos, hok, ← hkt, h19, nestStep, if_neg (by rw [hlast]; simp)]; rfl
            obtain ⟨q, q1, q2, q3, q4, q5, q6⟩ := ret (l := A) (j := p) ho1 (by simp) (by omega) (by omega) (by rw [hop]; simp)
            have hq20 : kindAt A q = 20 := by rw [List.getLast?_concat] at q5; simpa using q5.symm
            obtain ⟨r1, r2⟩ := ih (k + 1) q (deep + 1) n n' (s ++ [20]) (by omega) q1 (by omega) (by simp [hs]) (List.getLast?_concat ..) q3 hq20 q4 ho1 (by omega) (by omega)
            obtain ⟨m1, m2⟩ := node_low (B := B) hA (r1 := nodesD (A ++ B) (colonsTo (A ++ B) (A ++ B).length) n) (r2 := nodesD A (colonsTo A A.length) n') k1 (by omega) k3 k4 (fun _ => ⟨r1, by rw [r2]; omega⟩)
            rw [if_pos h19, r2] at m2
            simp only
            rw [m1, m2]
            obtain ⟨z1, z2⟩ := ih (q + 1) p deep n n' s (by omega) (by omega) hp hs hlast hop hkp (fun x h1 h2 => hpre x (by omega) h2) (by rw [q6]; simp) (by omega) (by omega)
            rw [z1]
            exact ⟨rfl, z2⟩
          · obtain ⟨m1, m2⟩ := node_low (B := B) hA (r1 := nodesD (A ++ B) (colonsTo (A ++ B) (A ++ B).length) n) (r2 := nodesD A (colonsTo A A.length) n') k1 (by omega) k3 k4 (fun h => absurd h h19)
            rw [if_neg h19] at m2
            simp only
            rw [m1, m2]
            by_cases h17 : kindAt A k = 17
            · have hkp2 : k < p := by
                rcases Nat.lt_or_ge k p with h | h
                · exact h
                · have : k = p := by omega
                  rw [this, hkp] at h17; cases h17
              rw [if_pos h17]
              have ho1 : openAt A (k + 1) = s := by
                rw [hos, hok, ← hkt, h17, nestStep, if_neg (by rw [hlast]; simp)]; rfl
              obtain ⟨z1, z2⟩ := ih (k + 1) p deep n n' s (by omega) (by omega) hp hs hlast hop hkp (fun x h1 h2 => hpre x (by omega) h2) ho1 (by omega) (by omega)
              rw [z1]
              exact ⟨rfl, z2⟩
            · rw [if_neg h17]
              have hk20 : kindAt A k = 20 := by
                rcases k3.2 with h | h | h
                · exact h.1
                · exact absurd h h19
                · exact absurd h h17
              have hkp2 : k = p := by
                rcases Nat.lt_or_ge k p with h | h
                · exact absurd hk20 (lone k k1 h hok)
                · omega
              subst hkp2
              obtain ⟨z1, z2⟩ := ih k k deep n n' s (by omega) (Nat.le_refl _) hp hs hlast hop hkp (fun x h1 h2 => hpre x (by omega) h2) hok (by omega) (by omega)
              rw [z1]
              exact ⟨rfl, z2⟩
theorem pushed {l : List Tok} {i : Nat} (hi : openAt l i = []) : ∀ j, i < j → j ≤ l.length → (openAt l j).head? = some 20 → ∃ k, i ≤ k ∧ k < j ∧ openAt l k = [] ∧ kindAt l k = 19
  | 0, h, _, _ => by omega
  | j + 1, h, hl, hh => by
    obtain ⟨t, ht⟩ := get_lt (l := l) (i := j) (by omega)
    rw [openAt_succ ht] at hh
    by_cases he : openAt l j = []
    · refine ⟨j, by omega, by omega, he, ?_⟩
      rw [he, nestStep, if_neg (by simp)] at hh
      rw [kindAt_some ht]
      split at hh
      · rename_i hc
        simp only [List.nil_append, List.head?_cons, Option.some.injEq] at hh
        unfold closes at hh
        split at hh
        · cases hh
        · split at hh
          · cases hh
          · split at hh
            · assumption
            · cases hh
      · cases hh
    · have hij : i < j := by
        rcases Nat.lt_or_ge i j with h2 | h2
        · exact h2
        · have : i = j := by omega
          rw [this] at hi; exact absurd hi he
      have hh2 : (openAt l j).head? = some 20 := by
        cases ho : openAt l j with
        | nil => exact absurd ho he
        | cons x r =>
          rw [ho, nestStep] at hh
          split at hh
          · cases r with
            | nil => cases hh
            | cons y r => simpa using hh
          · split at hh
            · simpa using hh
            · simpa using hh
      obtain ⟨k, k1, k2, k3⟩ := pushed hi j hij (by omega) hh2
      exact ⟨k, k1, by omega, k3⟩
theorem nodes_join (hA : Closed A) : ∀ (d i n n' n2 : Nat), A.length - i ≤ d → i ≤ A.length → openAt A i = [] → A.length - i + B.length ≤ n → A.length - i ≤ n' → B.length ≤ n2 →
    Nd.strips (nodesD (A ++ B) (colonsTo (A ++ B) (A ++ B).length) n i 0).1 = Nd.strips (nodesD A (colonsTo A A.length) n' i 0).1 ++ Nd.strips (nodesD B (colonsTo B B.length) n2 0 0).1 := by
  have hA' := hA
  obtain ⟨P, c, hP, hc, hp⟩ := hA'
  have hPl : A.length = P.length + 1 := by rw [hP]; simp
  have hoP : openAt A P.length = [20] := by rw [hP, open_low (by omega), open_end, hp]
  intro d
  induction d with
  | zero =>
    intro i n n' n2 hd hi ho hn hn' hn2
    obtain rfl : i = A.length := by omega
    have e1 : nodesD A (colonsTo A A.length) n' A.length 0 = ([], A.length) := by
      cases n' with
      | zero => rfl
      | succ n => rw [nodesD, if_neg (by omega)]
    have := (Sim.high (B := B) hA).nodes n n2 0 0 (by omega) (by omega) (by omega)
    rw [Nat.add_zero] at this
    rw [e1, this.1, Nd.strips]; rfl
  | succ d ih =>
    intro i n n' n2 hd hi ho hn hn' hn2
    by_cases hiA : i = A.length
    · exact ih i n n' n2 (by omega) hi ho hn hn' hn2
    · have hiP : i < P.length := by
        rcases Nat.lt_or_ge i P.length with h | h
        · exact h
        · have : i = P.length := by omega
          rw [this, hoP] at ho; cases ho
      obtain ⟨k0, a1, a2, a3, a4⟩ := pushed ho P.length hiP (by omega) (by rw [hoP]; rfl)
      cases n with
      | zero => omega
      | succ n =>
        cases n' with
        | zero => omega
        | succ n' =>
          have hsh : shutD A 0 i = false := by rw [shutD]; simp
          have hsh2 : shutD (A ++ B) 0 i = false := by rw [shutD]; simp
          obtain ⟨k, k1, k2, k3, k4⟩ := first_of (p := CondD A 0) (k0 - i) i (by rw [show i + (k0 - i) = k0 by omega]; exact ⟨by rw [a3]; rfl, .inr (.inl a4)⟩)
          have hok : openAt A k = [] := List.eq_nil_of_length_eq_zero k3.1
          obtain ⟨t, ht⟩ := get_lt (l := A) (i := k) (by omega)
          have hkt := kindAt_some ht
          have hos := openAt_succ ht
          rw [nodesD, nodesD, if_pos ⟨by simp; omega, hsh2⟩, if_pos ⟨by omega, hsh⟩]
          by_cases h19 : kindAt A k = 19
          · have ho1 : openAt A (k + 1) = [20] := by rw [hos, hok, ← hkt, h19]; rfl
            obtain ⟨q, q1, q2, q3, q4, q5, q6⟩ := ret (l := A) (j := A.length) ho1 (by simp) (by omega) (by omega) (by rw [open_end, hA.op]; simp)
            have hq20 : kindAt A q = 20 := by simpa using q5.symm
            obtain ⟨r1, r2⟩ := nodes_low (B := B) hA (q - (k + 1)) (k + 1) q 1 n n' [20] (Nat.le_refl _) q1 q2 rfl rfl q3 hq20 q4 ho1 (by omega) (by omega)
            obtain ⟨m1, m2⟩ := node_low (B := B) hA (r1 := nodesD (A ++ B) (colonsTo (A ++ B) (A ++ B).length) n) (r2 := nodesD A (colonsTo A A.length) n') k1 (by omega) k3 k4 (fun _ => ⟨r1, by rw [r2]; omega⟩)
            rw [if_pos h19, r2] at m2
            simp only
            rw [m1, m2, Nd.strips, Nd.strips, ih (q + 1) n n' n2 (by omega) (by omega) q6 (by omega) (by omega) hn2]
            rfl
          · obtain ⟨m1, m2⟩ := node_low (B := B) hA (r1 := nodesD (A ++ B) (colonsTo (A ++ B) (A ++ B).length) n) (r2 := nodesD A (colonsTo A A.length) n') k1 (by omega) k3 k4 (fun h => absurd h h19)
            have h17 : kindAt A k = 17 := by
              rcases k3.2 with h | h | h
              · exact absurd h.2 (by decide)
              · exact absurd h h19
              · exact h
            rw [if_neg h19, if_pos h17] at m2
            have ho1 : openAt A (k + 1) = [] := by rw [hos, hok, ← hkt, h17]; rfl
            simp only
            rw [m1, m2, Nd.strips, Nd.strips, ih (k + 1) n n' n2 (by omega) (by omega) ho1 (by omega) (by omega) hn2]
            rfl
theorem parse_join (hA : Closed A) : Nd.strips (parseD (A ++ B)) = Nd.strips (parseD A) ++ Nd.strips (parseD B) := by
  rw [parseD, parseD, parseD]
  exact nodes_join hA A.length 0 _ _ _ (by omega) (by omega) rfl (by simp) (by omega) (Nat.le_refl _)
end
mutual
theorem toks_strip : ∀ x : Nd, x.strip.toks = x.toks.map strip
  | .mk k h t ks o s m a l => by
    rw [Nd.strip, Nd.toks, Nd.toks, toksOf_strip ks]
    simp only [List.map_append]
    congr 1
    · congr 1
      · congr 1
        split <;> rfl
      · split
        · simp only [List.map_append]
          cases o <;> cases s <;> rfl
        · rfl
    · cases m <;> rfl
theorem toksOf_strip : ∀ ns : List Nd, toksOf (Nd.strips ns) = (toksOf ns).map strip
  | [] => by rw [Nd.strips, toksOf]; rfl
  | n :: ns => by rw [Nd.strips, toksOf, toksOf, toks_strip n, toksOf_strip ns, List.map_append]
end
end Go.Vx.Seat
end
section
open Go Go.Vx Go.Proofs
namespace Go.Vx.Seat
noncomputable def cssF (bs : List Int) : List Tok := markF (valueD (lexF (runesF 0 bs)))
noncomputable def cssS (bs : List Int) : List Tok := markF (valL [] (lexF (RS bs)))
theorem strip_strip (l : List Tok) : (l.map strip).map strip = l.map strip := by simp [Function.comp_def, strip]
theorem st0_st0 (l : List Rn) : (l.map st0).map st0 = l.map st0 := by simp [Function.comp_def, st0]
theorem lex_RS (bs : List Int) : lexF (RS bs) = (lexF (runesF 0 bs)).map strip := lex_strip _ _ (Nat.le_refl _)
theorem css_strip (bs : List Int) : (cssF bs).map strip = cssS bs := by
  have h := valL_strip (lexF (runesF 0 bs)).length [] (lexF (runesF 0 bs)) (Nat.le_refl _)
  rw [List.map_nil] at h
  rw [cssF, ← mark_strip, value_valL, ← h, cssS, lex_RS]
theorem parse_css (bs : List Int) : Nd.strips (parseD (cssF bs)) = Nd.strips (parseD (cssS bs)) := by rw [← css_strip, parse_strip]
theorem lex_both (a b : List Int) (ha : InR a) {tk : Tok} (ht : (lexF (runesF 0 a)).getLast? = some tk) (hk : tk.kind = 20 ∨ tk.kind = 13) :
    ∃ q q' Y, (q = [] ∨ ∃ s f, q = [blankTok s f]) ∧ (q' = [] ∨ ∃ s f, q' = [blankTok s f]) ∧ lexF (RS (a ++ b)) = lexF (RS a) ++ (q ++ Y) ∧ lexF (RS b) = q' ++ Y := by
  have ht' : (lexF (RS a)).getLast? = some (strip tk) := by rw [lex_RS, List.getLast?_map, ht]; rfl
  have hself : ∀ T, lexF (RS a ++ T) = lexF ((RS a).map st0 ++ T) := fun T => by rw [RS, st0_st0]
  have hls : (lexF (RS a)).map strip = lexF (RS a) := by rw [lex_RS, strip_strip]
  obtain ⟨u, z, hz, hsp⟩ := (lex_join [] _ (RS a) (Nat.le_refl _) _ ht').2.2 hk
  obtain ⟨hab, _⟩ := rs_join b a.length a (Nat.le_refl _) ha z (by rw [hz, List.getLast?_concat]) hsp
  obtain ⟨q', hq', hLB⟩ := lex_blanks (RS b)
  have go : ∀ T, RS (a ++ b) = RS a ++ T → blanks T = blanks (RS b) → ∃ q q' Y, (q = [] ∨ ∃ s f, q = [blankTok s f]) ∧ (q' = [] ∨ ∃ s f, q' = [blankTok s f]) ∧ lexF (RS (a ++ b)) = lexF (RS a) ++ (q ++ Y) ∧ lexF (RS b) = q' ++ Y := by
    intro T hT hB
    obtain ⟨j1, j2, _⟩ := lex_join T _ (RS a) (Nat.le_refl _) _ ht'
    rcases hk with h | h
    · obtain ⟨q, hq, hX⟩ := lex_blanks T
      refine ⟨q, q', lexF (blanks (RS b)), hq, hq', ?_, hLB⟩
      rw [hT, hself, j1 h, hls, hX, hB]
    · refine ⟨[], q', lexF (blanks (RS b)), .inl rfl, hq', ?_, hLB⟩
      rw [hT, hself, j2 h, hls, hB]; rfl
  rcases hab with h | ⟨b', rfl, h⟩
  · exact go _ h rfl
  · exact go _ h (by rw [RS_10]; exact (blanks_cons (show blankB (10 : Int) = true from by decide)).symm)
theorem blank_no {q : List Tok} (h : q = [] ∨ ∃ s f, q = [blankTok s f]) : (∀ t, t ∈ q → quiet t.kind = true) ∧ q.filter kp = [] := by
  rcases h with rfl | ⟨s, f, rfl⟩
  · exact ⟨fun t ht => by simp at ht, rfl⟩
  · refine ⟨fun t ht => by rw [List.mem_singleton.mp ht]; rfl, ?_⟩
    rw [List.filter_cons_of_neg]
    · rfl
    · simp [kp, blankTok, eqI_eq]
theorem css_join (a b : List Int) (ha : InR a) {tk : Tok} (ht : (lexF (runesF 0 a)).getLast? = some tk) (hk : tk.kind = 20 ∨ tk.kind = 13) (hc : Closed (cssF a)) : cssS (a ++ b) = cssS a ++ cssS b := by
  obtain ⟨q, q', Y, hq, hq', hAB, hB⟩ := lex_both a b ha ht hk
  have hcs : Closed (cssS a) := by rw [← css_strip]; exact hc.strip
  have hcv : Closed (valL [] (lexF (RS a))) := Closed.of_mark hcs
  obtain ⟨C, Q, hCQ, hC, hQ1, hQ2⟩ := Closed.of_value hcv
  obtain ⟨q1, q2⟩ := blank_no hq
  obtain ⟨q3, q4⟩ := blank_no hq'
  have e1 : valL [] (lexF (RS (a ++ b))) = valL [] C ++ valL [] Y := by
    rw [hAB, hCQ, List.append_assoc, valL_join hC, ← List.append_assoc, valL_quiet (fun t ht => by rcases List.mem_append.mp ht with h | h; exact hQ1 t h; exact q1 t h) (by rw [List.filter_append, hQ2, q2]; rfl)]
  have e2 : valL [] (lexF (RS a)) = valL [] C := by rw [hCQ, valL_join hC, valL_only hQ1, hQ2, List.append_nil]
  have e3 : valL [] (lexF (RS b)) = valL [] Y := by rw [hB, valL_quiet q3 q4]
  rw [cssS, cssS, cssS, e1, ← e2, ← e3]
  exact mark_join hcv _
theorem joins_law (a b : List Int) (ha : InR a) {tk : Tok} (ht : (lexF (runesF 0 a)).getLast? = some tk) (hk : tk.kind = 20 ∨ tk.kind = 13) (hc : Closed (cssF a)) :
    Nd.strips (parseD (cssF (a ++ b))) = Nd.strips (parseD (cssF a)) ++ Nd.strips (parseD (cssF b)) := by
  have hcs : Closed (cssS a) := by rw [← css_strip]; exact hc.strip
  rw [parse_css, parse_css, parse_css, css_join a b ha ht hk hc, parse_join hcs]
theorem joins_at {k n m : List Nd} (h : Nd.strips k = Nd.strips n ++ Nd.strips m) : k.length = n.length + m.length ∧ ∀ (i : Nat) (x y : Nd), k[i]? = some x → (n ++ m)[i]? = some y → x.strip = y.strip := by
  rw [strips_map, strips_map, strips_map, ← List.map_append] at h
  refine ⟨by simpa using congrArg List.length h, fun i x y hx hy => ?_⟩
  have := congrArg (fun l => l[i]?) h
  simp only [List.getElem?_map, hx, hy, Option.map_some, Option.some.injEq] at this
  exact this
theorem strip_same {x y : Nd} (h : x.strip = y.strip) : (toksOf [x]).map strip = (toksOf [y]).map strip := by
  rw [← toksOf_strip, ← toksOf_strip, Nd.strips, Nd.strips, h]; rfl
theorem kept_space (run : List Tok) : ∀ s, run.find? isSp = some s → (run.filter kp).length + 1 ≤ run.length := by
  induction run with
  | nil => intro s h; cases h
  | cons t r ih =>
    intro s h
    cases h1 : isSp t with
    | true =>
      have h2 : kp t = false := by
        cases hk : kp t with
        | false => rfl
        | true =>
          rw [kp, Bool.and_eq_true] at hk
          have e1 := of_eqT hk.1
          have e2 := of_eqT h1
          omega
      rw [List.filter_cons_of_neg (by simp [h2])]
      have := List.length_filter_le kp r
      simp only [List.length_cons]; omega
    | false =>
      rw [List.find?_cons_of_neg (by simp [h1])] at h
      have := ih s h
      rw [List.filter_cons]
      split <;> (simp only [List.length_cons]; omega)
theorem runR_len (pre run rest : List Tok) : (runR pre run rest).length ≤ run.length := by
  unfold runR
  split
  · exact List.length_filter_le _ _
  · rename_i s h
    have := kept_space run s h
    split
    · simp; omega
    · split
      · omega
      · simp; omega
theorem runR_mem {pre run rest : List Tok} {u : Tok} (h : u ∈ runR pre run rest) : u ∈ run ∨ ∃ s f, u = blankTok s f ∧ (strOf s).length = 1 := by
  unfold runR at h
  split at h
  · exact .inl (List.mem_filter.mp h).1
  · split at h
    · rcases List.mem_cons.mp h with rfl | h
      · exact .inr ⟨_, _, rfl, rfl⟩
      · exact .inl (List.mem_filter.mp h).1
    · split at h
      · exact .inl (List.mem_filter.mp h).1
      · rcases List.mem_append.mp h with h | h
        · exact .inl (List.mem_filter.mp h).1
        · rw [List.mem_singleton.mp h]; exact .inr ⟨_, _, rfl, rfl⟩
theorem valL_len : ∀ (n : Nat) (pre suf : List Tok), suf.length ≤ n → (valL pre suf).length ≤ suf.length ∧ ∀ u, u ∈ valL pre suf → u ∈ suf ∨ ∃ s f, u = blankTok s f ∧ (strOf s).length = 1
  | n, pre, [], _ => by rw [valL_nil]; exact ⟨Nat.le_refl _, fun u hu => by simp at hu⟩
  | 0, pre, t :: suf, hn => by simp at hn
  | n + 1, pre, t :: suf, hn => by
    cases hq : quiet t.kind with
    | false =>
      obtain ⟨i1, i2⟩ := valL_len n (pre ++ [t]) suf (by simpa using hn)
      rw [valL_one _ _ hq]
      refine ⟨by simpa using i1, fun u hu => ?_⟩
      rcases List.mem_cons.mp hu with rfl | hu
      · exact .inl (by simp)
      · exact (i2 u hu).imp (fun h => by simp [h]) id
    | true =>
      obtain ⟨run, rest, e, h1, h2⟩ := run_cut suf
      have e' : t :: suf = (t :: run) ++ rest := by rw [e]; rfl
      have hall : ∀ u, u ∈ t :: run → quiet u.kind = true := fun u hu => by rcases List.mem_cons.mp hu with rfl | hu; exact hq; exact h1 u hu
      obtain ⟨i1, i2⟩ := valL_len n (pre ++ (t :: run)) rest (by rw [e] at hn; simp at hn ⊢; omega)
      have hr := runR_len pre (t :: run) rest
      rw [e', valL_run _ (by simp) hall h2]
      refine ⟨by simp only [List.length_append] at i1 hr ⊢; omega, fun u hu => ?_⟩
      rcases List.mem_append.mp hu with hu | hu
      · exact (runR_mem hu).imp (fun h => List.mem_append.mpr (.inl h)) id
      · exact (i2 u hu).imp (fun h => List.mem_append.mpr (.inr h)) id
theorem value_len (ts : List Tok) : (valueD ts).length ≤ ts.length ∧ ∀ u, u ∈ valueD ts → u ∈ ts ∨ ∃ s f, u = blankTok s f ∧ (strOf s).length = 1 := by
  rw [value_valL]; exact valL_len _ _ _ (Nat.le_refl _)
theorem lex_len (bs : List Int) : (lexF (runesF 0 bs)).length ≤ bs.length ∧ ∀ t, t ∈ lexF (runesF 0 bs) → (strOf t.text).length ≤ 4 * bs.length := by
  have h1 := runesF_len bs.length bs (Nat.le_refl _) 0
  obtain ⟨h2, h3⟩ := lexF_text bs.length (runesF 0 bs) h1
  exact ⟨by omega, h3⟩
theorem css_len (bs : List Int) : (cssF bs).length ≤ bs.length := by
  have := (lex_len bs).1
  have := (value_len (lexF (runesF 0 bs))).1
  rw [cssF, markF, markW_length]; omega
end Go.Vx.Seat
end
section
open Go Go.Vx Go.Proofs
namespace Go.Vx.Seat
def reps (n : Nat) : List Int := List.replicate n 20
theorem reps_len (n : Nat) : (reps n).length = n := by simp [reps]
theorem reps_blocks (n : Nat) : allBlocks (reps n) = true := by simp [reps, allBlocks]
def stopE (ts : List Tok) (deep k : Nat) : Prop := (openAt ts k).length = deep ∧ ((kindAt ts k = 20 ∧ 0 < deep) ∨ kindAt ts k = 19 ∨ kindAt ts k = 17)
theorem stopE_D {ts : List Tok} {deep k : Nat} (h : stopD ts (reps deep).length k) : stopE ts deep k := by
  rw [reps_len] at h
  exact ⟨h.1, h.2.elim (fun h => .inr (.inl h)) (fun h => .inl h)⟩
theorem flat_pl {ts : List Tok} {k : Nat} (h : kindAt ts k = 19 ∨ kindAt ts k = 17) : (pl ts k).1 = (openAt ts k).length := by
  rw [pl_open (not_last (by rcases h with h | h <;> rw [h] <;> simp [Shuts]))]
theorem scan_same (ts : List Tok) (deep : Nat) : ∀ d k : Nat, k + d = ts.length → Above ts (reps deep) k →
    scanP ts deep d k = endD ts deep d k ∧ (∀ p, k ≤ p → p < endD ts deep d k → Above ts (reps deep) p ∧ ¬ stopE ts deep p) ∧ (endD ts deep d k < ts.length → Above ts (reps deep) (endD ts deep d k) ∧ stopE ts deep (endD ts deep d k))
  | 0, k, hd, ha => by
    rw [scanP, endD]
    exact ⟨rfl, fun p h1 h2 => by omega, fun h => by omega⟩
  | d + 1, k, hd, ha => by
    have hlt := ha.lt (reps_blocks deep)
    have hlen := ha.len
    rw [reps_len] at hlt hlen
    by_cases hs : stopE ts deep k
    · have e1 : endD ts deep (d + 1) k = k := by rw [endD]; exact if_pos hs
      rw [e1]
      refine ⟨?_, fun p h1 h2 => by omega, fun _ => ⟨ha, hs⟩⟩
      rw [scanP]
      obtain ⟨h1, h2⟩ := hs
      rcases h2 with h2 | h2
      · rw [if_pos (hlt.mpr ⟨h1, h2.1, h2.2⟩)]
      · have hf := flat_pl h2
        rw [if_neg (by omega), if_pos ⟨by omega, h2⟩]
    · have e1 : endD ts deep (d + 1) k = endD ts deep d (k + 1) := by rw [endD]; exact if_neg hs
      have e2 : scanP ts deep (d + 1) k = scanP ts deep d (k + 1) := by
        rw [scanP, if_neg, if_neg]
        · rintro ⟨h1, h2⟩
          have hf := flat_pl h2
          exact hs ⟨by omega, .inr h2⟩
        · intro h
          obtain ⟨h1, h2, h3⟩ := hlt.mp h
          exact hs ⟨h1, .inl ⟨h2, h3⟩⟩
      rw [e1, e2]
      obtain ⟨h1, h2, h3⟩ := scan_same ts deep d (k + 1) (by omega) (ha.step (reps_blocks deep) (by omega) fun h => hs (stopE_D h))
      refine ⟨h1, fun p hp1 hp2 => ?_, h3⟩
      by_cases hp : p = k
      · subst hp; exact ⟨ha, hs⟩
      · exact h2 p (by omega) hp2
theorem contains_colons (ts : List Tok) (n c : Nat) : (colonsTo ts n).contains (c : Int) = true ↔ c < n ∧ docColon ts c = true := by
  rw [List.contains_iff_mem, colonsTo, List.mem_map]
  constructor
  · rintro ⟨a, ha, he⟩
    have : a = c := by omega
    subst this
    simpa using ha
  · intro h
    exact ⟨c, by simpa using h, rfl⟩
theorem colonAt_some {ts : List Tok} {n i k c : Nat} (h : colonAt (colonsTo ts n) i k = some c) : i ≤ c ∧ c < k ∧ c < n ∧ docColon ts c = true := by
  unfold colonAt at h
  split at h
  · rename_i a hf
    split at h
    · rename_i hlt
      cases h
      have h1 := List.find?_some hf
      have h2 := List.mem_of_find?_eq_some hf
      rw [colonsTo, List.mem_map] at h2
      obtain ⟨b, hb, rfl⟩ := h2
      simp at h1 hb
      simp only [Int.toNat_natCast]
      exact ⟨h1, by omega, hb.1, hb.2⟩
    · cases h
  · cases h
theorem colonsTo_sorted (ts : List Tok) (n : Nat) : (colonsTo ts n).Pairwise (· < ·) := by
  rw [colonsTo, List.pairwise_map]
  exact ((List.pairwise_lt_range).filter _).imp fun h => by omega
theorem colonAt_none {ts : List Tok} {n i k c : Nat} (h : colonAt (colonsTo ts n) i k = none) (h1 : i ≤ c) (h2 : c < k) (h3 : c < n) : docColon ts c = false := by
  rw [← Bool.not_eq_true]
  intro hd
  have hm : (c : Int) ∈ colonsTo ts n := List.contains_iff_mem.mp ((contains_colons ts n c).mpr ⟨h3, hd⟩)
  unfold colonAt at h
  cases hf : List.find? (fun c => decide ((i : Int) ≤ c)) (colonsTo ts n) with
  | none =>
    have := List.find?_eq_none.mp hf c hm
    simp at this; omega
  | some a =>
    rw [hf] at h
    simp only at h
    split at h
    · cases h
    · rename_i hak
      obtain ⟨_, xs, ys, he, has⟩ := List.find?_eq_some_iff_append.mp hf
      have hs := colonsTo_sorted ts n
      rw [he] at hm hs
      rcases List.mem_append.mp hm with hm | hm
      · have := has c hm
        simp at this; omega
      · rcases List.mem_cons.mp hm with hm | hm
        · omega
        · have := List.rel_of_pairwise_cons (List.pairwise_append.mp hs).2.1 hm
          omega
theorem colD_some {ts : List Tok} {cols : List Int} {deep i : Nat} : ∀ {m c : Nat}, colD ts cols deep i m = some c → (openAt ts c).length = deep ∧ cols.contains (c : Int) = true
  | 0, c, h => by cases h
  | m + 1, c, h => by
    unfold colD at h
    split at h
    · rename_i hc; cases h; exact hc
    · exact colD_some h
theorem colD_none {ts : List Tok} {cols : List Int} {deep i : Nat} : ∀ {m : Nat}, colD ts cols deep i m = none → ∀ c, i ≤ c → c < i + m → ¬ ((openAt ts c).length = deep ∧ cols.contains (c : Int) = true)
  | 0, h, c, h1, h2 => by omega
  | m + 1, h, c, h1, h2 => by
    unfold colD at h
    split at h
    · cases h
    · rename_i hn
      by_cases hc : c = i + m
      · subst hc; exact hn
      · exact colD_none h c h1 (by omega)
theorem back_other {ts : List Tok} {c : Nat} (hk : kindAt ts c = 16) : ∀ (n a b : Nat), c < n → (∀ p, c < p → p < n → ¬ partAt ts p = true) → b + 1 ≤ (back ts n a b).2
  | n + 1, a, b, hc, hp => by
    unfold back
    by_cases hn : c = n
    · subst hn
      rw [if_neg (by simp [partAt, hk, partK]), if_neg (by simp [quiet, hk]), if_neg (by omega), back_add]
      simp only; omega
    · have ih := fun a b => back_other hk n a b (by omega) fun p h1 h2 => hp p h1 (by omega)
      rw [if_neg (hp n (by omega) (by omega))]
      split
      · exact ih a b
      · split
        · exact ih (a + 1) b
        · have := ih a (b + 1); omega
theorem docColon_facts {ts : List Tok} {c : Nat} (h : docColon ts c = true) : kindAt ts c = 16 ∧ (openAt ts c).length ≠ 0 ∧ allBlocks (openAt ts c) = true ∧ back ts c 0 0 = (1, 0) := by
  simp [docColon] at h
  exact ⟨h.1.1.1.1, fun h0 => h.1.1.1.2 (List.length_eq_zero_iff.mp h0), h.1.1.2, h.1.2⟩
theorem one_colon {ts : List Tok} {deep i k c c' : Nat} (ha : ∀ p, i ≤ p → p < k → Above ts (reps deep) p ∧ ¬ stopE ts deep p) (h1 : i ≤ c) (h2 : c < c') (h3 : c' < k) (hc : docColon ts c = true) (hc' : docColon ts c' = true) : False := by
  obtain ⟨k1, l1, b1, _⟩ := docColon_facts hc
  obtain ⟨k2, l2, b2, e2⟩ := docColon_facts hc'
  have hd : 0 < deep := by
    have := (ha c h1 (by omega)).1.blocks b1
    rw [this, reps_len] at l1
    omega
  have := back_other k1 c' 0 0 h2 fun p hp1 hp2 hpa => by
    obtain ⟨g1, g2⟩ := ha p (by omega) (by omega)
    rw [partAt, Bool.and_eq_true] at hpa
    refine g2 ⟨by rw [g1.blocks hpa.2, reps_len], ?_⟩
    have := hpa.1
    simp [partK] at this
    rcases this with (h | h) | h
    · exact .inr (.inl h)
    · exact .inl ⟨h, hd⟩
    · exact .inr (.inr h)
  rw [e2] at this
  simp at this
theorem colon_at_same {ts : List Tok} {deep i k m : Nat} (ha : ∀ p, i ≤ p → p < k → Above ts (reps deep) p ∧ ¬ stopE ts deep p) (hk : k ≤ ts.length) (hik : i ≤ k) (hm : m = k - i ∨ (m = k - i + 1 ∧ kindAt ts k ≠ 16)) :
    colonAt (colonsTo ts ts.length) i k = colD ts (colonsTo ts ts.length) deep i m := by
  cases hP : colonAt (colonsTo ts ts.length) i k with
  | some c =>
    obtain ⟨p1, p2, p3, p4⟩ := colonAt_some hP
    obtain ⟨k1, l1, b1, _⟩ := docColon_facts p4
    have hlen : (openAt ts c).length = deep := by rw [(ha c p1 p2).1.blocks b1, reps_len]
    cases hD : colD ts (colonsTo ts ts.length) deep i m with
    | none => exact absurd ⟨hlen, (contains_colons ts _ c).mpr ⟨p3, p4⟩⟩ (colD_none hD c p1 (by omega))
    | some c' =>
      obtain ⟨q1, q2⟩ := colD_le hD
      obtain ⟨_, q3⟩ := colD_some hD
      obtain ⟨q4, q5⟩ := (contains_colons ts _ c').mp q3
      have q6 : c' < k := by
        rcases hm with h | ⟨h, h'⟩
        · omega
        · by_cases hck : c' = k
          · rw [hck] at q5; exact absurd (docColon_facts q5).1 h'
          · omega
      rcases Nat.lt_trichotomy c c' with h | h | h
      · exact (one_colon ha p1 h q6 p4 q5).elim
      · rw [h]
      · exact (one_colon ha q1 h p2 q5 p4).elim
  | none =>
    cases hD : colD ts (colonsTo ts ts.length) deep i m with
    | none => rfl
    | some c' =>
      obtain ⟨q1, q2⟩ := colD_le hD
      obtain ⟨_, q3⟩ := colD_some hD
      obtain ⟨q4, q5⟩ := (contains_colons ts _ c').mp q3
      have q6 : c' < k := by
        rcases hm with h | ⟨h, h'⟩
        · omega
        · by_cases hck : c' = k
          · rw [hck] at q5; exact absurd (docColon_facts q5).1 h'
          · omega
      rw [colonAt_none hP q1 q6 q4] at q5
      cases q5
theorem open_same {ts : List Tok} {deep k : Nat} (hk : k < ts.length) (ho : openAt ts k = reps deep) : open_ ts deep k = !shutD ts deep k := by
  have hlt := (Above.same ho).lt (reps_blocks deep)
  rw [reps_len] at hlt
  have hl : (openAt ts k).length = deep := by rw [ho, reps_len]
  rw [Bool.eq_iff_iff, open_, shutD]
  simp only [hk, decide_true, Bool.true_and, Bool.not_eq_true', decide_eq_false_iff_not, Bool.and_eq_false_iff]
  rw [hlt]
  simp only [hl, true_and, not_true_eq_false, or_false]
  omega
theorem reps_block {ts : List Tok} {deep k : Nat} (hk : k < ts.length) (ho : openAt ts k = reps deep) (h : kindAt ts k = 19) : openAt ts (k + 1) = reps (deep + 1) := by
  have ht : ts[k]? = some ts[k] := List.getElem?_eq_getElem hk
  have hn : ¬ (reps deep).getLast? = some 19 := by
    rw [← ho]; exact not_last (by simp [Shuts])
  rw [openAt_succ ht, ← kindAt_some ht, h, nestStep, ho, if_neg hn, if_pos (by decide)]
  rw [show closes 19 = 20 from rfl, reps, reps, List.replicate_succ']
theorem reps_semi {ts : List Tok} {deep k : Nat} (hk : k < ts.length) (ho : openAt ts k = reps deep) (h : kindAt ts k = 17) : openAt ts (k + 1) = reps deep := by
  have ht : ts[k]? = some ts[k] := List.getElem?_eq_getElem hk
  have hn : ¬ (reps deep).getLast? = some 17 := by
    rw [← ho]; exact not_last (by simp [Shuts])
  rw [openAt_succ ht, ← kindAt_some ht, h, nestStep, ho, if_neg hn, if_neg (by decide)]
theorem reps_shut {ts : List Tok} {deep k : Nat} (hk : k < ts.length) (ho : openAt ts k = reps (deep + 1)) (h : kindAt ts k = 20) : openAt ts (k + 1) = reps deep := by
  have ht : ts[k]? = some ts[k] := List.getElem?_eq_getElem hk
  rw [openAt_succ ht, ← kindAt_some ht, h, nestStep, ho, if_pos (blocks_last (reps_blocks _) (by simp [reps]))]
  rw [reps, reps, List.replicate_succ', List.dropLast_concat]
def recOk (ts : List Tok) (cols : List Int) (n : Nat) : Prop := ∀ i deep, i ≤ ts.length → ts.length - i ≤ n → (i < ts.length → openAt ts i = reps deep) →
  nodesP ts cols n i deep = nodesD ts cols n i deep ∧ i ≤ (nodesD ts cols n i deep).2 ∧ (nodesD ts cols n i deep).2 ≤ ts.length ∧
  ((nodesD ts cols n i deep).2 < ts.length → openAt ts (nodesD ts cols n i deep).2 = reps deep ∧ shutD ts deep (nodesD ts cols n i deep).2 = true)
theorem node_same {ts : List Tok} {n i deep : Nat} (hr : recOk ts (colonsTo ts ts.length) n) (hi : i < ts.length) (ho : openAt ts i = reps deep) (hs : shutD ts deep i = false) (hf : ts.length - (i + 1) ≤ n) :
    nodeP ts (colonsTo ts ts.length) (nodesP ts (colonsTo ts ts.length) n) i deep = nodeD ts (colonsTo ts ts.length) (nodesD ts (colonsTo ts ts.length) n) i deep ∧
    i < (nodeD ts (colonsTo ts ts.length) (nodesD ts (colonsTo ts ts.length) n) i deep).2 ∧ (nodeD ts (colonsTo ts ts.length) (nodesD ts (colonsTo ts ts.length) n) i deep).2 ≤ ts.length ∧
    ((nodeD ts (colonsTo ts ts.length) (nodesD ts (colonsTo ts ts.length) n) i deep).2 < ts.length → openAt ts (nodeD ts (colonsTo ts ts.length) (nodesD ts (colonsTo ts ts.length) n) i deep).2 = reps deep) := by
  obtain ⟨e1, ha, hstop⟩ := scan_same ts deep (ts.length - i) i (by omega) (.same ho)
  have hle := endD_le ts deep (ts.length - i) i
  unfold nodeP nodeD
  simp only
  rw [e1]
  generalize endD ts deep (ts.length - i) i = k at ha hstop hle
  by_cases hk : k < ts.length
  · obtain ⟨hab, hlk, hkind⟩ := hstop hk
    have hok := hab.eq (by rw [reps_len]; exact hlk)
    have hop := open_same hk hok
    by_cases h19 : kindAt ts k = 19
    · have hsh : shutD ts deep k = false := by simp [shutD, h19]
      rw [hop, hsh, if_pos ⟨rfl, h19⟩, if_pos ⟨hk, h19⟩]
      obtain ⟨g1, g2, g3, g4⟩ := hr (k + 1) (deep + 1) (by omega) (by omega) fun _ => reps_block hk hok h19
      unfold ruleP
      simp only
      rw [g1]
      refine ⟨rfl, ?_, ?_, ?_⟩
      · split <;> omega
      · split <;> omega
      · split
        · rename_i hlt
          intro _
          obtain ⟨g5, g6⟩ := g4 hlt
          refine reps_shut hlt g5 ?_
          simp [shutD] at g6
          exact g6.1
        · intro h; omega
    · rw [if_neg fun h => h19 h.2, if_neg fun h => h19 h.2, if_pos hk]
      have hcol := colon_at_same (m := k - i + 1) ha (by omega) (by omega) (.inr ⟨rfl, by rcases hkind with h | h | h <;> omega⟩)
      unfold leafP leafD
      simp only
      by_cases h17 : kindAt ts k = 17
      · have hsh : shutD ts deep k = false := by simp [shutD, h17]
        rw [hop, hsh, hcol, h17]
        refine ⟨rfl, ?_, ?_, fun _ => ?_⟩
        · simp; omega
        · simp; omega
        · simpa using reps_semi hk hok h17
      · have h20 : kindAt ts k = 20 ∧ 0 < deep := by rcases hkind with h | h | h <;> first | exact h | omega
        have hsh : shutD ts deep k = true := by simp [shutD, h20.1, h20.2, hlk]
        have hne : k ≠ i := fun h => by rw [h, hs] at hsh; cases hsh
        rw [hop, hsh, hcol, decide_eq_false h17]
        refine ⟨rfl, ?_, ?_, fun _ => ?_⟩
        · simp; omega
        · simp; omega
        · simpa using hok
  · have hkn : k = ts.length := by omega
    have hop : open_ ts deep k = false := by simp [open_, hk]
    rw [hop, if_neg (by simp), if_neg fun h => hk h.1, if_neg hk]
    have hcol := colon_at_same (m := k - i) ha (by omega) (by omega) (.inl rfl)
    unfold leafP leafD
    simp only
    rw [hop, hcol]
    refine ⟨rfl, ?_, ?_, fun h => ?_⟩
    · simp; omega
    · simp; omega
    · simp at h; omega
theorem nodes_same (ts : List Tok) : ∀ n, recOk ts (colonsTo ts ts.length) n
  | 0 => fun i deep h1 h2 h3 => ⟨rfl, Nat.le_refl _, h1, fun h => by simp only [nodesD] at h; omega⟩
  | n + 1 => fun i deep h1 h2 h3 => by
    have ih := nodes_same ts n
    unfold nodesP nodesD
    by_cases hi : i < ts.length
    · have ho := h3 hi
      rw [open_same hi ho]
      cases hs : shutD ts deep i with
      | true => simp [hs, ho, hi, h1]
      | false =>
        obtain ⟨g1, g2, g3, g4⟩ := node_same ih hi ho hs (by omega)
        rw [if_pos (by rfl : (!false) = true), if_pos ⟨hi, rfl⟩]
        simp only
        rw [g1]
        obtain ⟨k1, k2, k3, k4⟩ := ih (nodeD ts (colonsTo ts ts.length) (nodesD ts (colonsTo ts ts.length) n) i deep).2 deep g3 (by omega) g4
        rw [k1]
        exact ⟨rfl, by omega, k3, k4⟩
    · rw [if_neg (by simp [open_, hi]), if_neg fun h => hi h.1]
      exact ⟨rfl, Nat.le_refl _, h1, fun h => absurd h hi⟩
theorem parse_same (ts : List Tok) : parseP ts = parseD ts := by
  rw [parseP, parseD, colons_same]
  rw [(nodes_same ts ts.length 0 0 (by omega) (by omega) fun _ => by simp [openAt, reps]).1]
end Go.Vx.Seat
end
section
open Go Go.Vx Go.Proofs
set_option maxRecDepth 10000
set_option maxHeartbeats 8000000
namespace Go.Vx.Seat
attribute [local irreducible] Rg Rt Ro Ri Rc Rto Rtk Rtf Rti Rw Rl Rd Rcall Rtcall kf
def TokSpecP : Nd → Prop
  | .mk k h t ks o s m a l => ∀ out : List Tok, out.length + (toksOf ks).length ≤ 2000000 → YC C1 false 29 [.c (.own 0 13 0 (out.map Tok.pc).length), .c (.p (rN ks))] [.row 13 (out.map Tok.pc)] (KOwn 13 ((out ++ toksOf ks).map Tok.pc))
theorem toksP_list (ns : List Nd) (hl : ns.length ≤ 1000000) (hr : ∀ x, x ∈ ns → TokSpecP x) (out : List Tok) (hb : out.length + (toksOf ns).length ≤ 2000000) :
    YC C1 false 29 [.c (.own 0 13 0 (out.map Tok.pc).length), .c (.p (rN ns))] [.row 13 (out.map Tok.pc)] (KOwn 13 ((out ++ toksOf ns).map Tok.pc)) := by
  refine Yf0 [] (by rfl) (by rfl) fn29 (by rfl) ?_
  simp only [Try.f29, List.length_cons, List.length_nil, List.replicate, List.cons_append, List.nil_append]
  simp -implicitDefEqProofs only [↓yP, yT]
  refine Rl_alias 0 0 rfl rfl ?_
  refine Rl_inv (fun d e s => ∃ i : Nat, e = [.c (.own 1 13 0 (out ++ toksOf (ns.take i)).length), Tp, Tp, Tp, Tp, Tp, Tp, .c (.p (rN ns)), yd (.int .i64 ns.length), yd (.int .i64 i), Tp, Tp, Tp, Tp, Tp, Tp, Tp, Tp, Tp, Tp, Tp, Tp, Tp, Tp, Tp, Tp, Tp, Tp, Tp, Tp, Tp, Tp, Tp, Tp, Tp, Tp, Tp, Tp, Tp, Tp, Tp, Tp, Tp, Tp, Tp, Tp, Tp, Tp, Tp, Tp, Tp, Tp, Tp, Tp, Tp, Tp, Tp, Tp, Tp, Tp, Tp, Tp, Tp, Tp, Tp, Tp, Tp, Tp, Tp, Tp, Tp, Tp, Tp] ∧ s = [.dead, .row 13 ((out ++ toksOf (ns.take i)).map Tok.pc)] ∧ i + d = ns.length) [true, false, false, false, false, false, false, true, true, true] ns.length [0, 1] (by decide) (pinned_one _) ⟨0, by simp [toksOf]; rfl, by simp [toksOf]; rfl, by omega⟩ ?_
  rintro d e s ⟨i, rfl, rfl, hd⟩
  by_cases hi : i < ns.length
  · obtain ⟨x, hx⟩ := get_lt hi
    have hxr := hr x (List.mem_of_getElem? hx)
    have hle := toksOf_le hx
    have hsn : out ++ toksOf (ns.take (i + 1)) = (out ++ toksOf (ns.take i)) ++ x.toks := by rw [toksOf_take hx, List.append_assoc]
    have hle : (out ++ toksOf (ns.take i)).length + x.toks.length ≤ 2000000 := by rw [List.length_append]; omega
    obtain ⟨k0, h0, t0, ks0, o0, s0, m0, a0, l0⟩ := x
    simp only [TokSpecP] at hxr
    have t1 : leI (ns.length : Nat) (i : Nat) = false := leI_false (by omega)
    have w1 : wrapK .i64 ((i : Int) + 1) = ((i + 1 : Nat) : Int) := wrap_succ (by omega)
    have hg := get_map (f := Nd.pc) hx
    rw [pc_mk] at hg
    generalize hac : out ++ toksOf (ns.take i) = acc at hle hsn ⊢
    have hsl : out.length + (toksOf (ns.take (i + 1))).length = (acc ++ (Nd.mk k0 h0 t0 ks0 o0 s0 m0 a0 l0).toks).length := by rw [← List.length_append, hsn]
    have hsm : out.map Tok.pc ++ (toksOf (ns.take (i + 1))).map Tok.pc = (acc ++ (Nd.mk k0 h0 t0 ks0 o0 s0 m0 a0 l0).toks).map Tok.pc := by rw [← List.map_append, hsn]
    simp only [Nd.toks, List.length_append] at hle
    by_cases q1 : k0 = 2
    · have f1 : eqI k0 2 = true := by rw [q1]; rfl
      have f2 : eqI k0 1 = false := by rw [q1]; rfl
      subst q1
      simp only [if_true, List.length_cons] at hle
      cases m0 with
      | false =>
        simp -implicitDefEqProofs (disch := first | (intros; rename_i h; cases h; done) | ((try simp only [List.length_append, List.length_map, List.length_cons, List.length_nil]); omega)) only [↓yP, yT, Nat.reduceAdd, Nat.reduceMul, Nat.reduceLeDiff, reduceCtorEq, t1, hg, bnd, List.take_of_length_le, List.length_append, f1, f2, w1]
        refine ⟨d - 1, [0, 6], by omega, by decide, pinned_one _, i + 1, ?_, ?_, by omega⟩
        · rw [hsl]
          simp only [yE, reduceCtorEq, Nd.toks]
          try (simp [Nat.add_assoc] <;> omega)
        · rw [hsn]
          simp only [yE, reduceCtorEq, Nd.toks, lit1]
          try simp
      | true =>
        simp -implicitDefEqProofs (disch := first | (intros; rename_i h; cases h; done) | ((try simp only [List.length_append, List.length_map, List.length_cons, List.length_nil]); omega)) only [↓yP, yT, Nat.reduceAdd, Nat.reduceMul, Nat.reduceLeDiff, reduceCtorEq, t1, hg, bnd, List.take_of_length_le, List.length_append, f1, f2, w1]
        refine ⟨d - 1, [0, 8], by omega, by decide, pinned_one _, i + 1, ?_, ?_, by omega⟩
        · rw [hsl]
          simp only [yE, reduceCtorEq, Nd.toks]
          try (simp [Nat.add_assoc] <;> omega)
        · rw [hsn]
          simp only [yE, Nd.toks, lit1]
          try simp
    have f1 : eqI k0 2 = false := eqI_false q1
    by_cases q2 : k0 = 1
    · have f2 : eqI k0 1 = true := by rw [q2]; rfl
      subst q2
      simp only [if_true, List.length_append] at hle
      rcases o0 with _ | _ <;> rcases s0 with _ | _ <;> rcases m0 with _ | _
      · simp -implicitDefEqProofs (disch := first | (intros; rename_i h; cases h; done) | ((try simp only [List.length_append, List.length_map, List.length_cons, List.length_nil]); omega)) only [↓yP, yT, Nat.reduceAdd, reduceCtorEq, t1, hg, bnd, List.take_of_length_le, List.length_append, f1, f2]
        have hks := hxr (acc ++ h0) (by simp at hle ⊢; omega)
        refine Rcall_own' (els := (acc ++ h0).map Tok.pc) (n' := (acc ++ h0 ++ toksOf ks0).length) (by simp) (by simp) (by rfl) (by first | (simp []; done) | (simp [lit1]; omega)) hks ?_
        simp -implicitDefEqProofs (disch := first | (intros; rename_i h; cases h; done) | ((try simp only [List.length_append, List.length_map, List.length_cons, List.length_nil]); omega)) only [↓yP, yT, Nat.reduceAdd, List.map_append, List.length_append, f2, w1]
        refine ⟨d - 1, [0, 4], by omega, by decide, pinned_one _, i + 1, ?_, ?_, by omega⟩
        · rw [hsl]
          simp only [yE, reduceCtorEq, Nd.toks]
          try (simp [Nat.add_assoc] <;> omega)
        · rw [hsm]
          simp only [yE, reduceCtorEq, Nd.toks]
          try simp
      · simp -implicitDefEqProofs (disch := first | (intros; rename_i h; cases h; done) | ((try simp only [List.length_append, List.length_map, List.length_cons, List.length_nil]); omega)) only [↓yP, yT, Nat.reduceAdd, reduceCtorEq, t1, hg, bnd, List.take_of_length_le, List.length_append, f1, f2]
        have hks := hxr (acc ++ h0) (by simp at hle ⊢; omega)
        refine Rcall_own' (els := (acc ++ h0).map Tok.pc) (n' := (acc ++ h0 ++ toksOf ks0).length) (by simp) (by simp) (by rfl) (by first | (simp []; done) | (simp [lit1]; omega)) hks ?_
        simp -implicitDefEqProofs (disch := first | (intros; rename_i h; cases h; done) | ((try simp only [List.length_append, List.length_map, List.length_cons, List.length_nil]); omega)) only [↓yP, yT, Nat.reduceAdd, Nat.reduceMul, Nat.reduceLeDiff, reduceCtorEq, List.map_append, bnd, List.take_of_length_le, List.length_append, f2, w1]
        refine ⟨d - 1, [0, 6], by omega, by decide, pinned_one _, i + 1, ?_, ?_, by omega⟩
        · rw [hsl]
          simp only [yE, reduceCtorEq, Nd.toks]
          try (simp [Nat.add_assoc] <;> omega)
        · rw [hsm]
          simp only [yE, reduceCtorEq, Nd.toks, lit1]
          try simp
      · simp -implicitDefEqProofs (disch := first | (intros; rename_i h; cases h; done) | ((try simp only [List.length_append, List.length_map, List.length_cons, List.length_nil]); omega)) only [↓yP, yT, Nat.reduceAdd, reduceCtorEq, t1, hg, bnd, List.take_of_length_le, List.length_append, f1, f2]
        have hks := hxr (acc ++ h0) (by simp at hle ⊢; omega)
        refine Rcall_own' (els := (acc ++ h0).map Tok.pc) (n' := (acc ++ h0 ++ toksOf ks0).length) (by simp) (by simp) (by rfl) (by first | (simp []; done) | (simp [lit1]; omega)) hks ?_
        simp -implicitDefEqProofs (disch := first | (intros; rename_i h; cases h; done) | ((try simp only [List.length_append, List.length_map, List.length_cons, List.length_nil]); omega)) only [↓yP, yT, Nat.reduceAdd, Nat.reduceMul, Nat.reduceLeDiff, reduceCtorEq, List.map_append, bnd, List.take_of_length_le, List.length_append, f2, w1]
        refine ⟨d - 1, [0, 6], by omega, by decide, pinned_one _, i + 1, ?_, ?_, by omega⟩
        · rw [hsl]
          simp only [yE, reduceCtorEq, Nd.toks]
          try (simp [Nat.add_assoc] <;> omega)
        · rw [hsm]
          simp only [yE, reduceCtorEq, Nd.toks, lit1]
          try simp
      · simp -implicitDefEqProofs (disch := first | (intros; rename_i h; cases h; done) | ((try simp only [List.length_append, List.length_map, List.length_cons, List.length_nil]); omega)) only [↓yP, yT, Nat.reduceAdd, reduceCtorEq, t1, hg, bnd, List.take_of_length_le, List.length_append, f1, f2]
        have hks := hxr (acc ++ h0) (by simp at hle ⊢; omega)
        refine Rcall_own' (els := (acc ++ h0).map Tok.pc) (n' := (acc ++ h0 ++ toksOf ks0).length) (by simp) (by simp) (by rfl) (by first | (simp []; done) | (simp [lit1]; omega)) hks ?_
        simp -implicitDefEqProofs (disch := first | (intros; rename_i h; cases h; done) | ((try simp only [List.length_append, List.length_map, List.length_cons, List.length_nil]); omega)) only [↓yP, yT, Nat.reduceAdd, Nat.reduceMul, Nat.reduceLeDiff, reduceCtorEq, List.map_append, bnd, List.take_of_length_le, List.length_append, f2, w1]
        refine ⟨d - 1, [0, 8], by omega, by decide, pinned_one _, i + 1, ?_, ?_, by omega⟩
        · rw [hsl]
          simp only [yE, reduceCtorEq, Nd.toks]
          try (simp [Nat.add_assoc] <;> omega)
        · rw [hsm]
          simp only [yE, reduceCtorEq, Nd.toks, lit1]
          try simp
      · simp -implicitDefEqProofs (disch := first | (intros; rename_i h; cases h; done) | ((try simp only [List.length_append, List.length_map, List.length_cons, List.length_nil]); omega)) only [↓yP, yT, Nat.reduceAdd, Nat.reduceMul, Nat.reduceLeDiff, reduceCtorEq, t1, hg, bnd, List.take_of_length_le, List.length_append, f1, f2]
        have hks := hxr (acc ++ h0 ++ [mkTok 19 a0]) (by simp at hle ⊢; omega)
        refine Rcall_own' (els := (acc ++ h0 ++ [mkTok 19 a0]).map Tok.pc) (n' := (acc ++ h0 ++ [mkTok 19 a0] ++ toksOf ks0).length) (by first | (simp; done) | (simp; omega)) (by first | (simp; done) | (simp; omega)) (by rfl) (by first | (simp [lit1]; done) | (simp [lit1]; omega)) hks ?_
        simp -implicitDefEqProofs (disch := first | (intros; rename_i h; cases h; done) | ((try simp only [List.length_append, List.length_map, List.length_cons, List.length_nil]); omega)) only [↓yP, yT, Nat.reduceAdd, List.map_append, List.length_append, f2, w1]
        refine ⟨d - 1, [0, 6], by omega, by decide, pinned_one _, i + 1, ?_, ?_, by omega⟩
        · rw [hsl]
          simp only [yE, reduceCtorEq, Nd.toks]
          try (simp [Nat.add_assoc] <;> omega)
        · rw [hsm]
          simp only [yE, reduceCtorEq, Nd.toks, lit1]
          try simp
      · simp -implicitDefEqProofs (disch := first | (intros; rename_i h; cases h; done) | ((try simp only [List.length_append, List.length_map, List.length_cons, List.length_nil]); omega)) only [↓yP, yT, Nat.reduceAdd, Nat.reduceMul, Nat.reduceLeDiff, reduceCtorEq, t1, hg, bnd, List.take_of_length_le, List.length_append, f1, f2]
        have hks := hxr (acc ++ h0 ++ [mkTok 19 a0]) (by simp at hle ⊢; omega)
        refine Rcall_own' (els := (acc ++ h0 ++ [mkTok 19 a0]).map Tok.pc) (n' := (acc ++ h0 ++ [mkTok 19 a0] ++ toksOf ks0).length) (by first | (simp; done) | (simp; omega)) (by first | (simp; done) | (simp; omega)) (by rfl) (by first | (simp [lit1]; done) | (simp [lit1]; omega)) hks ?_
        simp -implicitDefEqProofs (disch := first | (intros; rename_i h; cases h; done) | ((try simp only [List.length_append, List.length_map, List.length_cons, List.length_nil]); omega)) only [↓yP, yT, Nat.reduceAdd, Nat.reduceMul, Nat.reduceLeDiff, reduceCtorEq, List.map_append, bnd, List.take_of_length_le, List.length_append, f2, w1]
        refine ⟨d - 1, [0, 8], by omega, by decide, pinned_one _, i + 1, ?_, ?_, by omega⟩
        · rw [hsl]
          simp only [yE, reduceCtorEq, Nd.toks]
          try (simp [Nat.add_assoc] <;> omega)
        · rw [hsm]
          simp only [yE, reduceCtorEq, Nd.toks, lit1]
          try simp
      · simp -implicitDefEqProofs (disch := first | (intros; rename_i h; cases h; done) | ((try simp only [List.length_append, List.length_map, List.length_cons, List.length_nil]); omega)) only [↓yP, yT, Nat.reduceAdd, Nat.reduceMul, Nat.reduceLeDiff, reduceCtorEq, t1, hg, bnd, List.take_of_length_le, List.length_append, f1, f2]
        have hks := hxr (acc ++ h0 ++ [mkTok 19 a0]) (by simp at hle ⊢; omega)
        refine Rcall_own' (els := (acc ++ h0 ++ [mkTok 19 a0]).map Tok.pc) (n' := (acc ++ h0 ++ [mkTok 19 a0] ++ toksOf ks0).length) (by first | (simp; done) | (simp; omega)) (by first | (simp; done) | (simp; omega)) (by rfl) (by first | (simp [lit1]; done) | (simp [lit1]; omega)) hks ?_
        simp -implicitDefEqProofs (disch := first | (intros; rename_i h; cases h; done) | ((try simp only [List.length_append, List.length_map, List.length_cons, List.length_nil]); omega)) only [↓yP, yT, Nat.reduceAdd, Nat.reduceMul, Nat.reduceLeDiff, reduceCtorEq, List.map_append, bnd, List.take_of_length_le, List.length_append, f2, w1]
        refine ⟨d - 1, [0, 8], by omega, by decide, pinned_one _, i + 1, ?_, ?_, by omega⟩
        · rw [hsl]
          simp only [yE, reduceCtorEq, Nd.toks]
          try (simp [Nat.add_assoc] <;> omega)
        · rw [hsm]
          simp only [yE, reduceCtorEq, Nd.toks, lit1]
          try simp
      · simp -implicitDefEqProofs (disch := first | (intros; rename_i h; cases h; done) | ((try simp only [List.length_append, List.length_map, List.length_cons, List.length_nil]); omega)) only [↓yP, yT, Nat.reduceAdd, Nat.reduceMul, Nat.reduceLeDiff, reduceCtorEq, t1, hg, bnd, List.take_of_length_le, List.length_append, f1, f2]
        have hks := hxr (acc ++ h0 ++ [mkTok 19 a0]) (by simp at hle ⊢; omega)
        refine Rcall_own' (els := (acc ++ h0 ++ [mkTok 19 a0]).map Tok.pc) (n' := (acc ++ h0 ++ [mkTok 19 a0] ++ toksOf ks0).length) (by first | (simp; done) | (simp; omega)) (by first | (simp; done) | (simp; omega)) (by rfl) (by first | (simp [lit1]; done) | (simp [lit1]; omega)) hks ?_
        simp -implicitDefEqProofs (disch := first | (intros; rename_i h; cases h; done) | ((try simp only [List.length_append, List.length_map, List.length_cons, List.length_nil]); omega)) only [↓yP, yT, Nat.reduceAdd, Nat.reduceMul, Nat.reduceLeDiff, reduceCtorEq, List.map_append, bnd, List.take_of_length_le, List.length_append, f2, w1]
        refine ⟨d - 1, [0, 10], by omega, by decide, pinned_one _, i + 1, ?_, ?_, by omega⟩
        · rw [hsl]
          simp only [yE, reduceCtorEq, Nd.toks]
          try (simp [Nat.add_assoc] <;> omega)
        · rw [hsm]
          simp only [yE, Nd.toks, lit1]
          try simp
    · have f2 : eqI k0 1 = false := eqI_false q2
      rw [if_neg q1, if_neg q2] at hle
      cases m0 with
      | false =>
        simp -implicitDefEqProofs (disch := first | (intros; rename_i h; cases h; done) | ((try simp only [List.length_append, List.length_map, List.length_cons, List.length_nil]); omega)) only [↓yP, yT, Nat.reduceAdd, reduceCtorEq, t1, hg, bnd, List.take_of_length_le, List.length_append, f1, f2, w1]
        refine ⟨d - 1, [0, 3], by omega, by decide, pinned_one _, i + 1, ?_, ?_, by omega⟩
        · rw [hsl]
          simp only [yE, reduceCtorEq, Nd.toks, if_neg q1, if_neg q2]
          try (simp [Nat.add_assoc] <;> omega)
        · rw [hsn]
          simp only [yE, reduceCtorEq, Nd.toks, if_neg q1, if_neg q2]
          try simp
      | true =>
        simp -implicitDefEqProofs (disch := first | (intros; rename_i h; cases h; done) | ((try simp only [List.length_append, List.length_map, List.length_cons, List.length_nil]); omega)) only [↓yP, yT, Nat.reduceAdd, Nat.reduceMul, Nat.reduceLeDiff, reduceCtorEq, t1, hg, bnd, List.take_of_length_le, List.length_append, f1, f2, w1]
        refine ⟨d - 1, [0, 5], by omega, by decide, pinned_one _, i + 1, ?_, ?_, by omega⟩
        · rw [hsl]
          simp only [yE, reduceCtorEq, Nd.toks, if_neg q1, if_neg q2]
          try (simp [Nat.add_assoc] <;> omega)
        · rw [hsn]
          simp only [yE, Nd.toks, lit1, if_neg q1, if_neg q2]
          try simp
  · have t1 : leI (ns.length : Nat) (i : Nat) = true := leI_true (by omega)
    have : i = ns.length := by omega
    subst this
    simp -implicitDefEqProofs only [↓yP, yT, reduceCtorEq, t1, List.take_length]
    refine ⟨[0, 1], by decide, pinned_one _, .inr ⟨?_, ?_⟩⟩
    · rw [List.length_map]; rfl
    · simp only [yE]
end Go.Vx.Seat
end
section
open Go Go.Vx Go.Proofs
set_option maxRecDepth 10000
set_option maxHeartbeats 8000000
namespace Go.Vx.Seat
attribute [local irreducible] Rg Rt Ro Ri Rc Rto Rtk Rtf Rti Rw Rl Rd Rcall Rtcall kf
end Go.Vx.Seat
end
section
open Go Go.Vx Go.Proofs
set_option maxRecDepth 10000
set_option maxHeartbeats 8000000
namespace Go.Vx.Seat
attribute [local irreducible] Rg Rt Ro Ri Rc Rto Rtk Rtf Rti Rw Rl Rd Rcall Rtcall kf
inductive Wt : List Nd → Nat → Prop where
  | nil : Wt [] 0
  | snoc {ns : List Nd} {n w : Nat} {k : Int} {h t : List Tok} {ks : List Nd} {o s m : Bool} {a l : Int} : Wt ns n → Wt ks w → Wt (ns ++ [.mk k h t ks o s m a l]) (n + 1 + h.length + t.length + w)
end Go.Vx.Seat
end
section
open Go Go.Vx Go.Proofs
set_option maxRecDepth 10000
set_option maxHeartbeats 8000000
namespace Go.Vx.Seat
attribute [local irreducible] Rg Rt Ro Ri Rc Rto Rtk Rtf Rti Rw Rl Rd Rcall Rtcall kf
theorem Wt.small {ns : List Nd} {n : Nat} (hw : Wt ns n) : ns.length ≤ n ∧ (toksOf ns).length ≤ 5 * n := by
  induction hw with
  | nil => simp [toksOf]
  | @snoc ns n w k h t ks o s m a l h1 h2 ih1 ih2 =>
    refine ⟨by simp; omega, ?_⟩
    rw [toksOf_snoc, List.length_append, Nd.toks]
    have e1 : (if k = 2 then mkTok 16 a :: t else []).length ≤ t.length + 1 := by split <;> simp
    have e2 : (if k = 1 then (if o then [mkTok 19 a] else []) ++ toksOf ks ++ (if s then [mkTok 20 l] else []) else []).length ≤ (toksOf ks).length + 2 := by
      split
      · cases o <;> cases s <;> simp
      · simp
    have e3 : (if m then [mkTok 17 l] else []).length ≤ 1 := by split <;> simp
    simp only [List.length_append] at e2 ⊢
    omega
theorem Wt.toks {ns : List Nd} {n : Nat} (hw : Wt ns n) : n ≤ 1000 → ∀ x, x ∈ ns → TokSpec x ∧ TokSpecP x := by
  induction hw with
  | nil => intro _ x hx; simp at hx
  | @snoc ns n w k h t ks o s m a l h1 h2 ih1 ih2 =>
    intro hn x hx
    rcases List.mem_append.mp hx with hx | hx
    · exact ih1 (by omega) x hx
    · obtain rfl := List.mem_singleton.mp hx
      have hs := h2.small
      have ih := ih2 (by omega)
      exact ⟨fun hb => toksD_list ks (by omega) (fun y hy => (ih y hy).1) hb, fun out hb => toksP_list ks (by omega) (fun y hy => (ih y hy).2) out hb⟩
theorem tokensP_spec {ns : List Nd} {n : Nat} (hw : Wt ns n) (hn : n ≤ 1000) : PCall C1 15 [.c (.p (rN ns))] fun y => y = .c (.p (rT (toksOf ns))) := by
  have hs := hw.small
  have hc := toksP_list ns (by omega) (fun x hx => (hw.toks hn x hx).2) [] (by simp; omega)
  rw [List.nil_append] at hc
  refine Pf (by rfl) (by rfl) fn15 (by rfl) ?_
  simp only [Try.f15, List.length_cons, List.length_nil, List.replicate, List.cons_append, List.nil_append]
  simp -implicitDefEqProofs only [↓yP, yT]
  refine Rcall_own_nil (by decide) (by rfl) hc ?_
  simp -implicitDefEqProofs only [↓yP, yT, reduceCtorEq]
end Go.Vx.Seat
end
section
open Go Go.Vx Go.Proofs
namespace Go.Vx.Seat
end Go.Vx.Seat
end
section
open Go Go.Vx Go.Proofs
namespace Go.Vx.Seat
def Signs (ts : List Tok) : Prop := ∀ t, t ∈ ts → 16 ≤ t.kind → t.kind ≤ 24 → t = mkTok t.kind t.start
theorem slice_add {ts : List Tok} {a b c : Nat} (h1 : a ≤ b) (h2 : b ≤ c) : slice ts a b ++ slice ts b c = slice ts a c := by
  unfold slice
  rw [show c - a = (b - a) + (c - b) by omega, List.take_add, List.drop_drop, show a + (b - a) = b by omega]
theorem slice_one {ts : List Tok} {k : Nat} {t : Tok} (h : ts[k]? = some t) : slice ts k (k + 1) = [t] := by
  have hk := (List.getElem?_eq_some_iff.mp h).1
  unfold slice
  rw [show k + 1 - k = 1 by omega, List.drop_eq_getElem_cons hk, List.take_succ_cons, List.take_zero]
  rw [List.getElem?_eq_getElem hk] at h
  rw [Option.some.inj h]
theorem slice_self (ts : List Tok) (k : Nat) : slice ts k k = [] := by simp [slice]
theorem slice_len2 {ts : List Tok} {a b : Nat} (h : b ≤ ts.length) : (slice ts a b).length = b - a := by simp [slice]; omega
theorem slice_sign {ts : List Tok} (hs : Signs ts) {k : Nat} (hk : k < ts.length) {n : Int} (hn : kindAt ts k = n) (h1 : 16 ≤ n) (h2 : n ≤ 24) : slice ts k (k + 1) = [mkTok n (startAt ts k)] := by
  have ht : ts[k]? = some ts[k] := List.getElem?_eq_getElem hk
  rw [slice_one ht]
  have hkk := kindAt_some ht
  rw [hkk] at hn
  rw [startAt_some ht]
  have := hs _ (List.getElem_mem hk) (by omega) (by omega)
  rw [hn] at this
  rw [← this]
theorem Wt.cons {k : Int} {h t : List Tok} {ks : List Nd} {o s m : Bool} {a l : Int} {w : Nat} (hw : Wt ks w) {ns : List Nd} {n : Nat} (hn : Wt ns n) : Wt (.mk k h t ks o s m a l :: ns) (1 + h.length + t.length + w + n) := by
  induction hn with
  | nil =>
    have := Wt.snoc (k := k) (h := h) (t := t) (o := o) (s := s) (m := m) (a := a) (l := l) Wt.nil hw
    simpa [Nat.add_assoc] using this
  | @snoc ns n w' k' h' t' ks' o' s' m' a' l' h1 h2 ih1 ih2 =>
    have := Wt.snoc (k := k') (h := h') (t := t') (o := o') (s := s') (m := m') (a := a') (l := l') ih1 h2
    rw [show 1 + h.length + t.length + w + n + 1 + h'.length + t'.length + w' = 1 + h.length + t.length + w + (n + 1 + h'.length + t'.length + w') by omega] at this
    exact this
def BackOk (ts : List Tok) (cols : List Int) (n : Nat) : Prop := ∀ i deep, i ≤ ts.length → ts.length - i ≤ n → (i < ts.length → openAt ts i = reps deep) →
  (Signs ts → toksOf (nodesD ts cols n i deep).1 = slice ts i (nodesD ts cols n i deep).2) ∧ ∃ w, Wt (nodesD ts cols n i deep).1 w ∧ w ≤ 2 * ((nodesD ts cols n i deep).2 - i)
theorem node_back {ts : List Tok} {n i deep : Nat} (hb : BackOk ts (colonsTo ts ts.length) n) (hi : i < ts.length) (ho : openAt ts i = reps deep) (hs : shutD ts deep i = false) (hf : ts.length - (i + 1) ≤ n) :
    (Signs ts → (nodeD ts (colonsTo ts ts.length) (nodesD ts (colonsTo ts ts.length) n) i deep).1.toks = slice ts i (nodeD ts (colonsTo ts ts.length) (nodesD ts (colonsTo ts ts.length) n) i deep).2) ∧
    ∃ (k : Int) (h t : List Tok) (ks : List Nd) (o s m : Bool) (a l : Int) (w : Nat), (nodeD ts (colonsTo ts ts.length) (nodesD ts (colonsTo ts ts.length) n) i deep).1 = .mk k h t ks o s m a l ∧ Wt ks w ∧
      1 + h.length + t.length + w ≤ 2 * ((nodeD ts (colonsTo ts ts.length) (nodesD ts (colonsTo ts ts.length) n) i deep).2 - i) := by
  obtain ⟨e1, ha, hstop⟩ := scan_same ts deep (ts.length - i) i (by omega) (.same ho)
  have hle := endD_le ts deep (ts.length - i) i
  have hr := nodes_same ts n
  obtain ⟨_, hprog, hlast, _⟩ := node_same hr hi ho hs hf
  unfold nodeD at hprog hlast ⊢
  simp only at hprog hlast ⊢
  generalize endD ts deep (ts.length - i) i = k at ha hstop hle hprog hlast ⊢
  have leaf : ∀ (c : Option Nat) (semi : Bool), (∀ c', c = some c' → i ≤ c' ∧ c' < k ∧ kindAt ts c' = 16) → (semi = true → k < ts.length ∧ kindAt ts k = 17) → i < (leafD ts c i k semi).2 →
      (Signs ts → (leafD ts c i k semi).1.toks = slice ts i (leafD ts c i k semi).2) ∧ ∃ (k' : Int) (h t : List Tok) (ks : List Nd) (o s m : Bool) (a l : Int) (w : Nat), (leafD ts c i k semi).1 = .mk k' h t ks o s m a l ∧ Wt ks w ∧ 1 + h.length + t.length + w ≤ 2 * ((leafD ts c i k semi).2 - i) := by
    intro c semi hc hsemi hpr
    have hkl : k ≤ ts.length := by omega
    cases c with
    | none =>
      unfold leafD at hpr ⊢
      simp only at hpr ⊢
      refine ⟨fun hsg => ?_, _, _, _, _, _, _, _, _, _, 0, rfl, Wt.nil, ?_⟩
      · cases semi with
        | false => simp [Nd.toks]
        | true =>
          obtain ⟨g1, g2⟩ := hsemi rfl
          simp only [Nd.toks, if_true, ← slice_sign hsg g1 g2 (by decide) (by decide)]
          rw [if_neg (by decide), if_neg (by decide), List.append_nil, List.append_nil]
          exact slice_add (by omega) (by omega)
      · rw [slice_len2 hkl]
        cases semi <;> simp at hpr ⊢ <;> omega
    | some c =>
      obtain ⟨c1, c2, c3⟩ := hc c rfl
      unfold leafD at hpr ⊢
      simp only at hpr ⊢
      refine ⟨fun hsg => ?_, _, _, _, _, _, _, _, _, _, 0, rfl, Wt.nil, ?_⟩
      · have hcs := slice_sign hsg (k := c) (by omega) c3 (by decide) (by decide)
        have e1 : slice ts i c ++ (mkTok 16 (startAt ts c) :: slice ts (c + 1) k) = slice ts i k := by
          rw [← List.singleton_append, ← hcs, slice_add (by omega) (by omega), slice_add (by omega) (by omega)]
        cases semi with
        | false => simp [Nd.toks, e1]
        | true =>
          obtain ⟨g1, g2⟩ := hsemi rfl
          simp only [Nd.toks, if_true, ← slice_sign hsg g1 g2 (by decide) (by decide)]
          rw [if_neg (by decide), List.append_nil, e1]
          exact slice_add (by omega) (by omega)
      · rw [slice_len2 (by omega), slice_len2 hkl]
        cases semi <;> simp at hpr ⊢ <;> omega
  have hcol : ∀ m c', colD ts (colonsTo ts ts.length) deep i m = some c' → i ≤ c' ∧ c' < i + m ∧ kindAt ts c' = 16 := by
    intro m c' h
    have h1 := colD_le h
    have h2 := colD_some h
    have h3 := (contains_colons ts ts.length c').mp h2.2
    exact ⟨h1.1, h1.2, (docColon_facts h3.2).1⟩
  by_cases hk : k < ts.length
  · obtain ⟨hab, hlk, hkind⟩ := hstop hk
    have hok := hab.eq (by rw [reps_len]; exact hlk)
    by_cases h19 : kindAt ts k = 19
    · rw [if_pos ⟨hk, h19⟩] at hprog hlast ⊢
      obtain ⟨g1, g2, g3, g4⟩ := hr (k + 1) (deep + 1) (by omega) (by omega) fun _ => reps_block hk hok h19
      obtain ⟨b1, w, b2, b3⟩ := hb (k + 1) (deep + 1) (by omega) (by omega) fun _ => reps_block hk hok h19
      unfold ruleP at hprog hlast ⊢
      simp only at hprog hlast ⊢
      generalize nodesD ts (colonsTo ts ts.length) n (k + 1) (deep + 1) = r at g1 g2 g3 g4 b1 b2 b3 hprog hlast ⊢
      refine ⟨fun hsg => ?_, _, _, _, _, _, _, _, _, _, w, rfl, b2, ?_⟩
      · have hks := slice_sign hsg hk h19 (by decide) (by decide)
        have e1 : slice ts i k ++ ([mkTok 19 (startAt ts k)] ++ toksOf r.1) = slice ts i r.2 := by
          rw [← hks, b1 hsg, slice_add (by omega) g2, slice_add (by omega) (by omega)]
        by_cases hj : r.2 < ts.length
        · obtain ⟨g5, g6⟩ := g4 hj
          have h20 : kindAt ts r.2 = 20 := by simp [shutD] at g6; exact g6.1
          have hjs := slice_sign hsg hj h20 (by decide) (by decide)
          simp only [Nd.toks, hj, decide_true, if_true]
          rw [if_neg (by decide), List.append_nil, ← hjs]
          simp only [Bool.false_eq_true, if_false, List.append_nil]
          rw [← List.append_assoc, e1]
          exact slice_add (by omega) (by omega)
        · simp only [Nd.toks, hj, decide_false, if_true, if_false]
          rw [if_neg (by decide), List.append_nil]
          simp only [Bool.false_eq_true, if_false, List.append_nil]
          exact e1
      · rw [slice_len2 (by omega)]
        by_cases hj : r.2 < ts.length
        · simp only [hj, if_true, List.length_nil]; omega
        · simp only [hj, if_false, List.length_nil]; omega
    · rw [if_neg (fun h => h19 h.2), if_pos hk] at hprog hlast ⊢
      refine leaf _ _ (fun c' hc => ?_) (fun h => ⟨hk, by simpa using h⟩) hprog
      obtain ⟨q1, q2, q3⟩ := hcol _ _ hc
      refine ⟨q1, ?_, q3⟩
      have hne : c' ≠ k := fun e => by
        subst e
        rcases hkind with h | h | h
        · omega
        · exact h19 h
        · omega
      omega
  · rw [if_neg (fun h => hk h.1), if_neg hk] at hprog hlast ⊢
    refine leaf _ _ (fun c' hc => ?_) (fun h => by cases h) hprog
    obtain ⟨q1, q2, q3⟩ := hcol _ _ hc
    exact ⟨q1, by omega, q3⟩
theorem nodes_back (ts : List Tok) : ∀ n, BackOk ts (colonsTo ts ts.length) n
  | 0 => fun i deep h1 h2 h3 => ⟨fun _ => by simp [nodesD, toksOf, slice_self], 0, by simp only [nodesD]; exact Wt.nil, by omega⟩
  | n + 1 => fun i deep h1 h2 h3 => by
    have ih := nodes_back ts n
    have hr := nodes_same ts n
    unfold nodesD
    by_cases hi : i < ts.length
    · have ho := h3 hi
      cases hs : shutD ts deep i with
      | true =>
        rw [if_neg (by simp)]
        exact ⟨fun _ => by simp [toksOf, slice_self], 0, Wt.nil, by omega⟩
      | false =>
        rw [if_pos ⟨hi, rfl⟩]
        simp only
        obtain ⟨_, g2, g3, g4⟩ := node_same hr hi ho hs (by omega)
        obtain ⟨b1, k, h, t, ks, o, s, m, a, l, w, e, hw, hwl⟩ := node_back ih hi ho hs (by omega)
        obtain ⟨c1, w2, c2, c3⟩ := ih (nodeD ts (colonsTo ts ts.length) (nodesD ts (colonsTo ts ts.length) n) i deep).2 deep g3 (by omega) g4
        obtain ⟨_, k2, k3, _⟩ := hr (nodeD ts (colonsTo ts ts.length) (nodesD ts (colonsTo ts ts.length) n) i deep).2 deep g3 (by omega) g4
        refine ⟨fun hsg => ?_, _, by rw [e]; exact Wt.cons hw c2, by omega⟩
        rw [toksOf, b1 hsg, c1 hsg]
        exact slice_add (by omega) k2
    · rw [if_neg (fun h => hi h.1)]
      exact ⟨fun _ => by simp [toksOf, slice_self], 0, Wt.nil, by omega⟩
theorem parse_end (ts : List Tok) : (nodesD ts (colonsTo ts ts.length) ts.length 0 0).2 = ts.length := by
  obtain ⟨_, h1, h2, h3⟩ := nodes_same ts ts.length 0 0 (by omega) (by omega) fun _ => by simp [openAt, reps]
  rcases Nat.lt_or_ge (nodesD ts (colonsTo ts ts.length) ts.length 0 0).2 ts.length with g | g
  · have := (h3 g).2
    simp [shutD] at this
  · omega
theorem parse_wt (ts : List Tok) : ∃ w, Wt (parseD ts) w ∧ w ≤ 2 * ts.length := by
  obtain ⟨w, h1, h2⟩ := (nodes_back ts ts.length 0 0 (by omega) (by omega) fun _ => by simp [openAt, reps]).2
  rw [parse_end] at h2
  exact ⟨w, h1, h2⟩
end Go.Vx.Seat
end
section
open Go Go.Vx Go.Proofs
set_option maxRecDepth 20000
set_option maxHeartbeats 4000000
namespace Go.Vx.Seat
attribute [local irreducible] Rg Rt Ro Ri Rc Rto Rtk Rtf Rti Rw Rl Rd Rcall Rtcall kf
def signTok (k a : Int) : Tok := ⟨k, ⟨#[]⟩, ⟨#[]⟩, false, ⟨#[]⟩, ⟨#[]⟩, false, false, 0, 0, 0, 0, a⟩
theorem live_spec : PCall C1 8 [] fun y => y = yd (.bool true) := PCall_told0 (by rfl) (by rfl)
theorem Lexed.each {l : List Rn} {i : Nat} {ts : List Tok} (h : Lexed l i ts) : ∀ t, t ∈ ts → (strOf t.text).length ≤ 4 * l.length ∧ (16 ≤ t.kind → t.kind ≤ 24 → t = signTok t.kind t.start) := by
  induction h with
  | nil => intro t ht; simp at ht
  | @snoc i k ts x t h1 h2 h3 h4 h5 h6 ih =>
    intro u hu
    rcases List.mem_append.mp hu with hu | hu
    · exact ih u hu
    · rw [List.mem_singleton.mp hu]
      refine ⟨h5.text, fun a b => ?_⟩
      have := h5.sign a b
      show { t with start := x.a } = signTok t.kind x.a
      generalize t.kind = kk at this
      rw [this]; rfl
end Go.Vx.Seat
end
section
open Go Go.Vx Go.Proofs
set_option maxRecDepth 20000
set_option maxHeartbeats 4000000
namespace Go.Vx.Seat
attribute [local irreducible] Rg Rt Ro Ri Rc Rto Rtk Rtf Rti Rw Rl Rd Rcall Rtcall kf
theorem fn38 : nth C1.P.funcs.toList 38 = some Try.f38 := by kernel_rfl
theorem fn22 : nth C1.P.funcs.toList 22 = some Try.f22 := by kernel_rfl
theorem fn21 : nth C1.P.funcs.toList 21 = some Try.f21 := by kernel_rfl
theorem cssX_spec (bs : List Int) (hl : bs.length ≤ 100000) : PCall C1 17 [.c (.p (rB bs))] fun y => y = .c (.p (rT (cssF bs))) := by
  obtain ⟨l1, l2⟩ := lex_len bs
  obtain ⟨v1, v2⟩ := value_len (lexF (runesF 0 bs))
  have hr := runesF_len bs.length bs (Nat.le_refl _) 0
  refine Pf (by rfl) (by rfl) fn17 (by rfl) ?_
  simp only [Try.f17, List.length_cons, List.length_nil, List.replicate, List.cons_append, List.nil_append]
  simp -implicitDefEqProofs only [↓yP, yT]
  refine Rcall_pure (runesX_spec bs (by omega)) (by rfl) fun y hy => ?_
  subst hy
  simp -implicitDefEqProofs only [yT]
  refine Rcall_pure (clexX_spec (runesF 0 bs) (by omega)) (by rfl) fun y hy => ?_
  subst hy
  simp -implicitDefEqProofs only [yT]
  refine Rcall_pure (valueX_spec (lexF (runesF 0 bs)) (by omega) (fun t ht => by have := l2 t ht; omega)) (by rfl) fun y hy => ?_
  subst hy
  simp -implicitDefEqProofs only [yT]
  refine Rcall_pure (markX_spec (valueD (lexF (runesF 0 bs))) (by omega) (fun t ht => by
    rcases v2 t ht with h | ⟨s, f, rfl, hs⟩
    · have := l2 t h; omega
    · show (strOf s).length ≤ _; omega)) (by rfl) fun y hy => ?_
  subst hy
  simp -implicitDefEqProofs only [↓yP, yT, reduceCtorEq]
  rfl
theorem bareX_spec (l : List Tok) (hl : l.length ≤ 1000000) : PCall C1 38 [.c (.p (rT l))] fun y => y = .c (.p (rT (l.map strip))) := by
  refine Pf (by rfl) (by rfl) fn38 (by rfl) ?_
  simp only [Try.f38, List.length_cons, List.length_nil, List.replicate, List.cons_append, List.nil_append]
  simp -implicitDefEqProofs only [↓yP, yT]
  refine Rl_nil 3 13 (by decide) rfl ?_
  refine Rl_inv (fun d e s => ∃ (i : Nat) (out : List Tok), e = ([.c (.p (rT l)), Tp, Tp, .c (.own 0 13 0 out.length), yd (.int .i64 (i : Nat)), Tp, Tp, Tp, Tp, Tp, Tp, Tp, Tp, Tp, Tp, Tp, Tp, Tp, Tp, Tp, Tp, Tp]) ∧ s = [.row 13 (out.map Tok.pc)] ∧ i + d = l.length ∧ out = (l.take i).map strip)
    [true, false, false, true, true] l.length [0] (by decide) (pinned_zero _) ⟨0, [], by (simp only [yE]; try rfl), by (simp only [yE]; try rfl), by omega, by simp⟩ ?_
  rintro d e s ⟨i, out, rfl, rfl, hd, hout⟩
  by_cases hi : i < l.length
  · obtain ⟨t, ht⟩ := get_lt hi
    have t1 : leI (l.length : Nat) (i : Nat) = false := leI_false (by omega)
    have w1 : wrapK .i64 ((i : Int) + 1) = ((i + 1 : Nat) : Int) := wrap_succ (by omega)
    have hlen : out.length = i := by rw [hout]; simp; omega
    have b1 : (out.length + 1) * 128 ≤ 70368744177664 := by rw [hlen]; omega
    simp -implicitDefEqProofs only [↓yP, yT, Nat.reduceAdd, Nat.reduceMul, Nat.reduceLeDiff, reduceCtorEq, t1, get_map ht, Tok.pc, b1, w1]
    refine ⟨d - 1, [3], by omega, by decide, pinned_zero _, i + 1, out ++ [strip t], by (simp only [yE]; try rfl), ?_, by omega, by rw [hout, List.take_add_one, ht]; simp⟩
    simp only [yE, List.map_append]; rfl
  · have t1 : leI (l.length : Nat) (i : Nat) = true := leI_true (by omega)
    have hlen : l.take i = l := List.take_of_length_le (by omega)
    rw [hlen] at hout
    subst hout
    simp -implicitDefEqProofs only [↓yP, yT, reduceCtorEq, t1]
    rw [List.take_of_length_le (by simp)]
theorem sameX_spec (l m : List Tok) (hl : l.length ≤ 1000000) (hm : m.length ≤ 1000000) (he : l.map strip = m.map strip) : PCall C1 22 [.c (.p (rT l)), .c (.p (rT m))] fun y => y = yd (.bool true) := by
  refine Pf (by rfl) (by rfl) fn22 (by rfl) ?_
  simp only [Try.f22, List.length_cons, List.length_nil, List.replicate, List.cons_append, List.nil_append]
  simp -implicitDefEqProofs only [↓yP, yT]
  refine Rcall_pure (bareX_spec l hl) (by rfl) fun y hy => ?_
  subst hy
  simp -implicitDefEqProofs only [yT]
  refine Rcall_pure (bareX_spec m hm) (by rfl) fun y hy => ?_
  subst hy
  rw [he]
  simp -implicitDefEqProofs only [yT]
  refine Rcall_pure (sameTok_refl _ (by simpa using hm)) (by rfl) fun y hy => ?_
  subst hy
  simp -implicitDefEqProofs only [↓yP, yT, reduceCtorEq]
theorem last_at {α : Type} {l : List α} {x : α} (h : l[l.length - 1]? = some x) : ∃ u, l = u ++ [x] ∧ u.length = l.length - 1 := by
  rcases List.eq_nil_or_concat l with e | ⟨u, z, e⟩
  · rw [e] at h; cases h
  · rw [List.concat_eq_append] at e
    have : z = x := by rw [e] at h; simpa using h
    exact ⟨u, by rw [e, this], by rw [e]; simp⟩
theorem closed_at {l : List Tok} {t : Tok} (ht : l[l.length - 1]? = some t) (hk : t.kind = 20) (ho : openAt l (l.length - 1) = [20]) : Closed l := by
  obtain ⟨u, e, hu⟩ := last_at ht
  refine ⟨u, t, e, hk, ?_⟩
  rw [open_take l _ (by omega), ← hu, e] at ho
  simpa using ho
def EndedQ (bs : List Int) (y : YV) : Prop := ∃ e : Bool, y = yd (.bool e) ∧ (e = true → (∃ tk, (lexF (runesF 0 bs)).getLast? = some tk ∧ (tk.kind = 20 ∨ tk.kind = 13)) ∧ Closed (cssF bs))
theorem EndedQ.no {bs : List Int} {y : YV} (h : y = yd (.bool false)) : EndedQ bs y := ⟨false, h, fun h => by cases h⟩
theorem ended_spec (bs : List Int) (hl : bs.length ≤ 100000) : PCall C1 21 [.c (.p (rB bs))] (EndedQ bs) := by
  obtain ⟨l1, l2⟩ := lex_len bs
  have hcl := css_len bs
  have hr := runesF_len bs.length bs (Nat.le_refl _) 0
  refine Pf (by rfl) (by rfl) fn21 (by rfl) ?_
  simp only [Try.f21, List.length_cons, List.length_nil, List.replicate, List.cons_append, List.nil_append]
  simp -implicitDefEqProofs only [↓yP, yT]
  refine Rcall_pure (runesX_spec bs (by omega)) (by rfl) fun y hy => ?_
  subst hy
  simp -implicitDefEqProofs only [yT]
  refine Rcall_pure (clexX_spec (runesF 0 bs) (by omega)) (by rfl) fun y hy => ?_
  subst hy
  simp -implicitDefEqProofs only [↓yP, yT]
  refine Rcall_pure (cssX_spec bs hl) (by rfl) fun y hy => ?_
  subst hy
  generalize hT : lexF (runesF 0 bs) = T at l1
  generalize hL : cssF bs = L at hcl
  cases z1 : eqI (L.length : Nat) 0 with
  | true =>
    simp -implicitDefEqProofs only [↓yP, yT, reduceCtorEq, z1]
    exact .no rfl
  | false =>
  cases z2 : eqI (T.length : Nat) 0 with
  | true =>
    simp -implicitDefEqProofs only [↓yP, yT, reduceCtorEq, z1, z2]
    exact .no rfl
  | false =>
  have n1 := of_eqF z1
  have n2 := of_eqF z2
  obtain ⟨tk, hk⟩ := get_lt (l := T) (i := T.length - 1) (by omega)
  obtain ⟨tl, hl⟩ := get_lt (l := L) (i := L.length - 1) (by omega)
  have hnl := nest_at L (i := L.length - 1) (by omega)
  have wT : wrapK .i64 ((T.length : Int) - 1) = ((T.length - 1 : Nat) : Int) := by rw [show (T.length : Int) - 1 = ((T.length - 1 : Nat) : Int) by omega]; exact wrap_nat (by omega)
  have wL : wrapK .i64 ((L.length : Int) - 1) = ((L.length - 1 : Nat) : Int) := by rw [show (L.length : Int) - 1 = ((L.length - 1 : Nat) : Int) by omega]; exact wrap_nat (by omega)
  have leT : leI (T.length : Nat) ((T.length - 1 : Nat) : Int) = false := leI_false (by omega)
  have leL : leI (L.length : Nat) ((L.length - 1 : Nat) : Int) = false := leI_false (by omega)
  cases k1 : eqI tk.kind 20 with
  | true =>
    have k2 : True := trivial
    simp -implicitDefEqProofs only [↓yP, yT, reduceCtorEq, z1, z2]
    have h13 : tk.kind = 20 ∨ tk.kind = 13 := .inl (of_eqT k1)
    simp -implicitDefEqProofs only [↓yP, yT, Nat.reduceAdd, wT, get_map hk, Tok.pc, k1]
    refine Rcall_pure (nest_spec L (by omega)) (by rfl) fun y hy => ?_
    subst hy
    simp -implicitDefEqProofs only [↓yP, yT, reduceCtorEq, wL, get_map hnl, e2]
    cases f1 : eqI tl.kind 20 with
    | false =>
      simp -implicitDefEqProofs only [↓yP, yT, Nat.reduceAdd, reduceCtorEq, get_map hl, Tok.pc, f1]
      exact .no rfl
    | true =>
      cases f2 : eqI ((openAt L (L.length - 1)).length : Nat) 1 with
      | false =>
        simp -implicitDefEqProofs only [↓yP, yT, Nat.reduceAdd, reduceCtorEq, get_map hl, Tok.pc, f1, f2]
        exact .no rfl
      | true =>
        have hn1 := of_eqT f2
        obtain ⟨z, hz⟩ : ∃ z, openAt L (L.length - 1) = [z] := List.length_eq_one_iff.mp (by omega)
        rw [hz]
        have e11 : eqI ((1 : Nat) : Int) 1 = true := rfl
        have i00 : Int.toNat 0 = 0 := rfl
        have g0 : ([z].map ei)[0]? = some (ei z) := rfl
        cases f3 : eqI z 20 with
        | false =>
          simp -implicitDefEqProofs only [↓yP, yT, Nat.reduceAdd, reduceCtorEq, get_map hl, Tok.pc, f1, e11, i00, f3, ei]
          exact .no rfl
        | true =>
          simp -implicitDefEqProofs only [↓yP, yT, Nat.reduceAdd, reduceCtorEq, get_map hl, Tok.pc, f1, e11, i00, f3, ei]
          exact ⟨true, rfl, fun _ => ⟨⟨tk, by obtain ⟨u, e, _⟩ := last_at hk; rw [hT, e, List.getLast?_concat], h13⟩, hL ▸ closed_at hl (of_eqT f1) (by rw [hz, of_eqT f3])⟩⟩
  | false =>
    cases k2 : eqI tk.kind 13 with
    | true =>
      simp -implicitDefEqProofs only [↓yP, yT, reduceCtorEq, z1, z2]
      have h13 : tk.kind = 20 ∨ tk.kind = 13 := .inr (of_eqT k2)
      simp -implicitDefEqProofs only [↓yP, yT, Nat.reduceAdd, reduceCtorEq, wT, get_map hk, Tok.pc, k1, k2]
      refine Rcall_pure (nest_spec L (by omega)) (by rfl) fun y hy => ?_
      subst hy
      simp -implicitDefEqProofs only [↓yP, yT, reduceCtorEq, wL, get_map hnl, e2]
      cases f1 : eqI tl.kind 20 with
      | false =>
        simp -implicitDefEqProofs only [↓yP, yT, Nat.reduceAdd, reduceCtorEq, get_map hl, Tok.pc, f1]
        exact .no rfl
      | true =>
        cases f2 : eqI ((openAt L (L.length - 1)).length : Nat) 1 with
        | false =>
          simp -implicitDefEqProofs only [↓yP, yT, Nat.reduceAdd, reduceCtorEq, get_map hl, Tok.pc, f1, f2]
          exact .no rfl
        | true =>
          have hn1 := of_eqT f2
          obtain ⟨z, hz⟩ : ∃ z, openAt L (L.length - 1) = [z] := List.length_eq_one_iff.mp (by omega)
          rw [hz]
          have e11 : eqI ((1 : Nat) : Int) 1 = true := rfl
          have i00 : Int.toNat 0 = 0 := rfl
          have g0 : ([z].map ei)[0]? = some (ei z) := rfl
          cases f3 : eqI z 20 with
          | false =>
            simp -implicitDefEqProofs only [↓yP, yT, Nat.reduceAdd, reduceCtorEq, get_map hl, Tok.pc, f1, e11, i00, f3, ei]
            exact .no rfl
          | true =>
            simp -implicitDefEqProofs only [↓yP, yT, Nat.reduceAdd, reduceCtorEq, get_map hl, Tok.pc, f1, e11, i00, f3, ei]
            exact ⟨true, rfl, fun _ => ⟨⟨tk, by obtain ⟨u, e, _⟩ := last_at hk; rw [hT, e, List.getLast?_concat], h13⟩, hL ▸ closed_at hl (of_eqT f1) (by rw [hz, of_eqT f3])⟩⟩
    | false =>
      simp -implicitDefEqProofs only [↓yP, yT, Nat.reduceAdd, reduceCtorEq, z1, z2, wT, get_map hk, Tok.pc, k1, k2]
      exact .no rfl
end Go.Vx.Seat
end
section
open Go Go.Vx Go.Proofs
set_option maxRecDepth 20000
set_option maxHeartbeats 4000000
namespace Go.Vx.Seat
attribute [local irreducible] Rg Rt Ro Ri Rc Rto Rtk Rtf Rti Rw Rl Rd Rcall Rtcall kf
theorem fn6 : nth C1.P.funcs.toList 6 = some Try.f6 := by kernel_rfl
theorem wt_length {ns : List Nd} {n : Nat} (h : Wt ns n) : ns.length ≤ n := by
  induction h with
  | nil => simp
  | @snoc ns n w k h t ks o s m a l h1 h2 ih1 ih2 => simp; omega
theorem parse_length (ts : List Tok) : (parseD ts).length ≤ 2 * ts.length := by
  obtain ⟨w, h1, h2⟩ := parse_wt ts
  have := wt_length h1; omega
theorem wt_one {ns : List Nd} {n : Nat} (h : Wt ns n) : ∀ x, x ∈ ns → ∃ m, m ≤ n ∧ Wt [x] m := by
  induction h with
  | nil => intro x hx; simp at hx
  | @snoc ns n w k h t ks o s m a l h1 h2 ih1 ih2 =>
    intro x hx
    rcases List.mem_append.mp hx with hx | hx
    · obtain ⟨m, hm, hw⟩ := ih1 x hx; exact ⟨m, by omega, hw⟩
    · rw [List.mem_singleton.mp hx]
      exact ⟨0 + 1 + h.length + t.length + w, by omega, .snoc .nil h2⟩
theorem drop_at' {α : Type} {l : List α} {i : Nat} {x : α} (h : l[i]? = some x) : l.drop i = x :: l.drop (i + 1) := by
  obtain ⟨h1, h2⟩ := List.getElem?_eq_some_iff.mp h
  rw [List.drop_eq_getElem_cons h1, h2]
theorem tokensF_spec {ns : List Nd} {n : Nat} (hw : Wt ns n) (hn : n ≤ 1000) : PCallF C1 15 [.c (.p (rN ns))] fun y => y = .c (.p (rT (toksOf ns))) := by
  have hs := hw.small
  have hc := toksP_list ns (by omega) (fun x hx => (hw.toks hn x hx).2) [] (by simp; omega)
  rw [List.nil_append] at hc
  refine PfF (by rfl) (by rfl) fn15 (by rfl) ?_
  simp only [Try.f15, List.length_cons, List.length_nil, List.replicate, List.cons_append, List.nil_append]
  simp -implicitDefEqProofs only [↓yP, yT]
  refine Rcall_own_nil (by decide) (by rfl) hc ?_
  simp -implicitDefEqProofs only [↓yP, yT, reduceCtorEq]
  exact ⟨1, 13, 0, _, (toksOf ns).map Tok.pc, rfl, (by rw [show nth [Ent.dead, Ent.row 13 ((toksOf ns).map Tok.pc)] 1 = some (.row 13 ((toksOf ns).map Tok.pc)) from rfl]; simp [take_map_len]), tok_dry _, rfl⟩
theorem lend_one (B : Ent) (x : List PC) : [YV.c (.own 1 9 0 1)].map (borV [B, .row 9 [x]]) = [.c (.p (.row 9 [x]))] := by
  have hn : nth [B, Ent.row 9 [x]] 1 = some (.row 9 [x]) := rfl
  simp [borV, borC, yrow, hn]
theorem give_app (a b : List Int) : yfzC [.dead, .row 1 (a.map eb ++ b.map eb)] (.own 1 1 0 (a.length + b.length)) = some (.p (rB (a ++ b)), [.dead, .dead]) := by
  have h : ((a.map eb ++ b.map eb).drop 0).take (a.length + b.length) = (a ++ b).map eb := by
    rw [List.drop_zero, List.map_append, List.take_of_length_le (by simp)]
  have hn : nth [Ent.dead, .row 1 (a.map eb ++ b.map eb)] 1 = some (.row 1 (a.map eb ++ b.map eb)) := rfl
  rw [List.drop_zero] at h
  simp [yfzC, yrow, hn, h, List.map_append]
theorem joins_spec (a b : List Int) (ha : InR a) : PCall C1 6 [.c (.p (rB a)), .c (.p (rB b))] fun y => y = yd (.bool true) := by
  refine Pf (by rfl) (by rfl) fn6 (by rfl) ?_
  simp only [Try.f6, List.length_cons, List.length_nil, List.replicate, List.cons_append, List.nil_append]
  simp -implicitDefEqProofs only [↓yP, yT]
  refine Rcall_pure live_spec (by rfl) fun y hy => ?_
  subst hy
  by_cases la : a.length ≤ 200
  · have t1 : leI (a.length : Nat) 200 = true := leI_true (by omega)
    by_cases lb : b.length ≤ 200
    · have t2 : leI (b.length : Nat) 200 = true := leI_true (by omega)
      simp -implicitDefEqProofs only [↓yP, yT, t1, t2]
      refine Rcall_pure (ended_spec a (by omega)) (by rfl) fun y hy => ?_
      obtain ⟨e, rfl, he⟩ := hy
      cases e with
      | false => simp -implicitDefEqProofs only [↓yP, yT, reduceCtorEq]
      | true =>
        obtain ⟨⟨tk, hT, hk⟩, hcl⟩ := he rfl
        have hJ := joins_law a b ha hT hk hcl
        have c1 := css_len a
        have c2 := css_len b
        have c3 := css_len (a ++ b)
        rw [List.length_append] at c3
        simp -implicitDefEqProofs only [↓yP, yT]
        refine Rcall_pure (cssX_spec a (by omega)) (by rfl) fun y hy => ?_
        subst hy
        simp -implicitDefEqProofs only [yT]
        refine Rcall_pure (parseP_spec (cssF a) (by omega)) (by rfl) fun y hy => ?_
        subst hy
        rw [parse_same]
        simp -implicitDefEqProofs only [↓yP, yT]
        refine Rcall_pure (cssX_spec b (by omega)) (by rfl) fun y hy => ?_
        subst hy
        simp -implicitDefEqProofs only [yT]
        refine Rcall_pure (parseP_spec (cssF b) (by omega)) (by rfl) fun y hy => ?_
        subst hy
        rw [parse_same]
        have b1 : a.length * 1 ≤ 70368744177664 := by omega
        have b2 : a.length ≤ 70368744177664 := by omega
        have b3 : (a.length + b.length) * 1 ≤ 70368744177664 := by omega
        have b4 : a.length + b.length ≤ 70368744177664 := by omega
        simp -implicitDefEqProofs only [↓yP, yT, b1, b3]
        refine Rcall_give (give_app a b) (cssX_spec (a ++ b) (by rw [List.length_append]; omega)) (by rfl) fun y hy => ?_
        subst hy
        simp -implicitDefEqProofs only [yT]
        refine Rcall_pure (parseP_spec (cssF (a ++ b)) (by omega)) (by rfl) fun y hy => ?_
        subst hy
        rw [parse_same]
        obtain ⟨hlen, hat⟩ := joins_at hJ
        obtain ⟨wk, hwk1, hwk2⟩ := parse_wt (cssF (a ++ b))
        obtain ⟨wn, hwn1, hwn2⟩ := parse_wt (cssF a)
        obtain ⟨wm, hwm1, hwm2⟩ := parse_wt (cssF b)
        have kl := parse_length (cssF (a ++ b))
        have nl := parse_length (cssF a)
        have ml := parse_length (cssF b)
        generalize parseD (cssF (a ++ b)) = K at hlen hat hwk1 kl ⊢
        generalize parseD (cssF a) = N at hlen hat hwn1 nl ⊢
        generalize parseD (cssF b) = M at hlen hat hwm1 ml ⊢
        have w0 : wrapK .i64 ((N.length : Int) + (M.length : Nat)) = ((N.length + M.length : Nat) : Int) := wrap_nat (i := N.length + M.length) (by omega)
        have z0 : eqI (K.length : Nat) ((N.length + M.length : Nat) : Int) = true := by rw [hlen, eqI_true]
        simp -implicitDefEqProofs only [↓yP, yT, w0, z0]
        refine Rl_inv (fun d e s => ∃ (i : Nat), e = ([Tp, Tp, Tp, Tp, Tp, Tp, .c (.p (rN N)), .c (.p (rN M)), .c (.p (rN K)), yd (.int .i64 (i : Nat)), Tp, Tp, Tp, Tp, Tp, Tp, Tp, Tp, Tp, Tp, Tp, Tp, Tp, Tp, Tp, Tp, Tp, Tp, Tp, Tp, Tp, Tp, Tp, Tp, Tp, Tp, Tp, Tp, Tp, Tp, Tp, Tp, Tp, Tp, Tp, Tp, Tp, Tp, Tp, Tp, Tp, Tp, Tp, Tp, Tp, Tp, Tp, Tp, Tp, Tp, Tp, Tp, Tp, Tp, Tp, Tp, Tp, Tp, Tp, Tp, Tp, Tp, Tp, Tp, Tp, Tp, Tp, Tp, Tp, Tp, Tp, Tp, Tp, Tp, Tp, Tp, Tp, Tp, Tp, Tp, Tp, Tp, Tp, Tp, Tp, Tp, Tp, Tp, Tp, Tp, Tp, Tp, Tp, Tp, Tp]) ∧ s = [] ∧ i + d = K.length) [false, false, false, false, false, false, true, true, true, true] K.length [] (by decide) (pinned_zero _) ⟨0, by (simp only [yE]; try rfl), by (simp only [yE]; try rfl), by omega⟩ ?_
        rintro d e s ⟨i, rfl, rfl, hd⟩
        by_cases hi : i < K.length
        · obtain ⟨x, hx⟩ := get_lt hi
          obtain ⟨y, hy⟩ := get_lt (l := N ++ M) (i := i) (by rw [List.length_append]; omega)
          have hxy := hat i x y hx hy
          obtain ⟨mx, hmx, hwx⟩ := wt_one hwk1 x (List.mem_of_getElem? hx)
          have hsl : ((K.map Nd.pc).drop i).take 1 = [x].map Nd.pc := by
            rw [← List.map_drop, drop_at' hx]; rfl
          have t3 : leI (K.length : Nat) (i : Nat) = false := leI_false (by omega)
          have v1 : wrapK .i64 ((i : Int) + 1) = ((i + 1 : Nat) : Int) := wrap_succ (by omega)
          by_cases hiN : i < N.length
          · have t4 : leI (N.length : Nat) (i : Nat) = false := leI_false (by omega)
            have hyN : N[i]? = some y := by rw [List.getElem?_append_left hiN] at hy; exact hy
            obtain ⟨my, hmy, hwy⟩ := wt_one hwn1 y (List.mem_of_getElem? hyN)
            obtain ⟨k0, h0, q0, ks0, o0, s0, m0, a0, l0⟩ := x
            obtain ⟨k9, h9, q9, ks9, o9, s9, m9, a9, l9⟩ := y
            have gx := get_map (f := Nd.pc) hx
            have gy := get_map (f := Nd.pc) hyN
            rw [pc_mk] at gx gy
            simp -implicitDefEqProofs only [↓yP, yT, Nat.reduceAdd, reduceCtorEq, t3, t4, gy]
            have hst := strip_same hxy
            have hxy2 := hxy
            simp only [Nd.strip, Nd.mk.injEq] at hxy2
            obtain ⟨rfl, _, _, hks, _⟩ := hxy2
            have hkl : ks0.length = ks9.length := by rw [strips_map, strips_map] at hks; simpa using congrArg List.length hks
            have f1 : eqI k0 k0 = true := eqI_true _
            have f2 : eqI (ks0.length : Nat) (ks9.length : Nat) = true := by rw [hkl, eqI_true]
            have d1 : i + 1 - i = 1 := by omega
            have u1 : (0 : Int) ≤ (i : Nat) := by omega
            have u2 : ((i : Nat) : Int) ≤ ((i + 1 : Nat) : Int) := by omega
            have u3 : ((i + 1 : Nat) : Int) ≤ (K.length : Nat) := by omega
            refine Rd_calm (by rw [C1_P]; kernel_rfl) ?_
            simp -implicitDefEqProofs only [↓yP, yT, Nat.reduceAdd, Nat.reduceLeDiff, reduceCtorEq, gx, f1, f2, v1, u1, u2, u3, d1, hsl]
            refine Rcall_pure (tokensP_spec hwx (by omega)) (by rfl) fun y hy => ?_
            subst hy
            simp -implicitDefEqProofs only [yT, Nat.reduceAdd, Nat.reduceMul, Nat.reduceLeDiff]
            have hty := tokensF_spec hwy (by omega)
            simp only [rN, List.map_cons, List.map_nil, pc_mk] at hty
            have hsx := hwx.small.2
            have hsy := hwy.small.2
            refine Rcall_lendF (lend_one _ _) hty (by rfl) fun y hy => ?_
            subst hy
            simp -implicitDefEqProofs only [yT]
            refine Rcall_pure (sameX_spec _ _ (by omega) (by omega) hst) (by rfl) fun y hy => ?_
            subst hy
            simp -implicitDefEqProofs only [↓yP, yT, v1]
            refine ⟨d - 1, [], by omega, by decide, pinned_zero _, i + 1, by (simp only [yE]; try rfl), by (simp only [yE]; try rfl), by omega⟩
          · have t4 : leI (N.length : Nat) (i : Nat) = true := leI_true (by omega)
            have hyM : M[i - N.length]? = some y := by rw [List.getElem?_append_right (by omega)] at hy; exact hy
            have v2 : wrapK .i64 ((i : Int) - (N.length : Nat)) = ((i - N.length : Nat) : Int) := by rw [show (i : Int) - (N.length : Nat) = ((i - N.length : Nat) : Int) by omega]; exact wrap_nat (by omega)
            obtain ⟨my, hmy, hwy⟩ := wt_one hwm1 y (List.mem_of_getElem? hyM)
            obtain ⟨k0, h0, q0, ks0, o0, s0, m0, a0, l0⟩ := x
            obtain ⟨k9, h9, q9, ks9, o9, s9, m9, a9, l9⟩ := y
            have gx := get_map (f := Nd.pc) hx
            have gy := get_map (f := Nd.pc) hyM
            rw [pc_mk] at gx gy
            simp -implicitDefEqProofs only [↓yP, yT, Nat.reduceAdd, reduceCtorEq, t3, t4, gy, v2]
            have hst := strip_same hxy
            have hxy2 := hxy
            simp only [Nd.strip, Nd.mk.injEq] at hxy2
            obtain ⟨rfl, _, _, hks, _⟩ := hxy2
            have hkl : ks0.length = ks9.length := by rw [strips_map, strips_map] at hks; simpa using congrArg List.length hks
            have f1 : eqI k0 k0 = true := eqI_true _
            have f2 : eqI (ks0.length : Nat) (ks9.length : Nat) = true := by rw [hkl, eqI_true]
            have d1 : i + 1 - i = 1 := by omega
            have u1 : (0 : Int) ≤ (i : Nat) := by omega
            have u2 : ((i : Nat) : Int) ≤ ((i + 1 : Nat) : Int) := by omega
            have u3 : ((i + 1 : Nat) : Int) ≤ (K.length : Nat) := by omega
            refine Rd_calm (by rw [C1_P]; kernel_rfl) ?_
            simp -implicitDefEqProofs only [↓yP, yT, Nat.reduceAdd, Nat.reduceLeDiff, reduceCtorEq, gx, f1, f2, v1, u1, u2, u3, d1, hsl]
            refine Rcall_pure (tokensP_spec hwx (by omega)) (by rfl) fun y hy => ?_
            subst hy
            simp -implicitDefEqProofs only [yT, Nat.reduceAdd, Nat.reduceMul, Nat.reduceLeDiff]
            have hty := tokensF_spec hwy (by omega)
            simp only [rN, List.map_cons, List.map_nil, pc_mk] at hty
            have hsx := hwx.small.2
            have hsy := hwy.small.2
            refine Rcall_lendF (lend_one _ _) hty (by rfl) fun y hy => ?_
            subst hy
            simp -implicitDefEqProofs only [yT]
            refine Rcall_pure (sameX_spec _ _ (by omega) (by omega) hst) (by rfl) fun y hy => ?_
            subst hy
            simp -implicitDefEqProofs only [↓yP, yT, v1]
            refine ⟨d - 1, [], by omega, by decide, pinned_zero _, i + 1, by (simp only [yE]; try rfl), by (simp only [yE]; try rfl), by omega⟩
        · have t3 : leI (K.length : Nat) (i : Nat) = true := leI_true (by omega)
          simp -implicitDefEqProofs only [↓yP, yT, reduceCtorEq, t3]
    · have t2 : leI (b.length : Nat) 200 = false := leI_false (by omega)
      simp -implicitDefEqProofs only [↓yP, yT, reduceCtorEq, t1, t2]
  · have t1 : leI (a.length : Nat) 200 = false := leI_false (by omega)
    simp -implicitDefEqProofs only [↓yP, yT, reduceCtorEq, t1]
end Go.Vx.Seat
end
section
open Go Go.Vx Go.Proofs Go.RowKit
set_option maxRecDepth 100000
namespace Go.Vx.Seat
theorem ce5 : Try.prog.cellsOf 5 = 1 := by kernel_rfl
section
variable {D : Type} {enc : TypeId × Value → D} {w : World} {base : Nat}
theorem ground1 {t e : TypeId} {r : Reach} {base : Nat} {v : Value} (ht : Try.prog.underlying t = some (.slice e)) (hv : Value.okWide Try.prog w r base t v) : v = .slice none 0 0 ∨ ∃ a n c, v = .slice (some a) n c ∧ ∃ (c : Array Value) (el : TypeId) (fr : Nat × Nat), w.heap[a.block]? = some (Obj.cells c el fr) := by
  unfold Value.okWide at hv
  rw [ht] at hv
  simp only at hv
  unfold Cell.okWide at hv
  rw [ht] at hv
  simp only at hv
  unfold Cell.ok at hv
  rw [ht] at hv
  cases v with
  | slice a n c =>
    cases a with
    | none =>
      left
      split at hv
      all_goals first | (simp_all; done) | rfl | exact hv.elim
    | some a =>
      right
      simp only at hv
      obtain ⟨_, _, hh⟩ := hv
      obtain ⟨_, _, row, cells, hs, _⟩ := hh
      refine ⟨a, n, c, rfl, ?_⟩
      unfold World.shape? at hs
      split at hs
      · rename_i c el fr hw; exact ⟨c, el, fr, hw⟩
      · cases hs
  | _ => simp at hv
theorem all_map1 {α β : Type} {f : α → β} {p : α → Prop} : ∀ {l : List β}, (∀ x, x ∈ l → ∃ a, p a ∧ x = f a) → ∃ ys : List α, (∀ a, a ∈ ys → p a) ∧ l = ys.map f
  | [], _ => ⟨[], by simp, rfl⟩
  | x :: l, h => by
    obtain ⟨a, h1, h2⟩ := h x (List.mem_cons_self ..)
    obtain ⟨ys, h3, h4⟩ := all_map1 (l := l) fun y hy => h y (List.mem_cons_of_mem _ hy)
    refine ⟨a :: ys, fun b hb => ?_, by rw [h2, h4]; rfl⟩
    rcases List.mem_cons.mp hb with rfl | hb
    · exact h1
    · exact h3 b hb
theorem slice_VR1 {φ : Phi} {u v : Value} {sz : Nat} {els : List (List PC)} {R : Nat → Prop} {h : H} (hp : PRep R h (.row sz els) u) (hc : CR φ u v) : VR φ u v := by
  rcases hp.lay with ⟨rfl, _⟩ | ⟨b, off, blk, rfl, _⟩ <;> exact hc
end
end Go.Vx.Seat
end
section
open Go Go.Vx Go.Proofs Go.RowKit
set_option maxRecDepth 100000
namespace Go.Vx.Seat
section
variable {D : Type} {enc : TypeId × Value → D} {w : World} {base : Nat}
theorem lays_u8r (m : Nat) : Lays enc Try.prog w base m 5 fun ps => ∃ n : Int, (0 ≤ n ∧ n < 256) ∧ ps = eb n := by
  intro cs x φ h hi hx _
  have hl : ∃ v, cs = [v] ∧ ∃ n : Int, (0 ≤ n ∧ n < 256) ∧ v = .int .u8 n := by
    obtain ⟨n, h1, _, h2⟩ := DataW.trod_int Try.underlying5 hx
    refine ⟨_, h1, n, ?_, rfl⟩
    simp only [Lit.wf, Bool.and_eq_true, decide_eq_true_eq] at h2
    have a1 : IntKind.u8.min = 0 := by decide
    have a2 : IntKind.u8.max = 255 := by decide
    rw [a1, a2] at h2
    omega
  obtain ⟨v, rfl, n, hn, rfl⟩ := hl
  exact ⟨φ, h, _, _, hi, .refl _ _, Laid.dry rfl, n, hn, rfl⟩
theorem bytes_more {r : Reach} {base : Nat} {v0 : Value} {x0 : DataW D × List MemPlace} {m0 : Nat} {φ : Phi} {h : H} (hi : Go.Vx.In w.heap.size φ h w) (k0 : Value.okWide Try.prog w r base 32 v0)
    (h0 : DataW.trod enc Try.prog w 0 (fun _ => true) true m0 32 v0.cells.toList = some x0) (w0 : (x0.1.weights Try.prog 32).all (· ≤ reachBytes) = true) :
    ∃ (φ' : Phi) (h' : H) (us : List Value) (bs : List Int), Go.Vx.In w.heap.size φ' h' w ∧ Gr φ φ' h h' ∧ Laid φ' h' us [v0] [rB bs] ∧ InR bs := by
  rcases ground1 Try.underlying32 k0 with rfl | ⟨a, n, c, rfl, hg⟩
  · refine ⟨φ, h, [.slice none 0 0], [], hi, .refl _ _, ⟨All2.same fun v hv => ?_, L2.single PRep.nil⟩, fun c hc => by simp at hc⟩
    rw [List.mem_singleton.mp hv]; exact CR_dry rfl
  · cases m0 with
    | zero => simp [DataW.trod] at h0
    | succ m =>
      have h0' : DataW.trod enc Try.prog w 0 (fun _ => true) true (m + 1) 32 [.slice (some a) n c] = some x0 := h0
      obtain ⟨φ', h', us, ps, i1, g1, l1, els, rfl, hle, hE⟩ := lays_slice1 (lays_u8r m) Try.underlying32 (by rw [ce5]; omega) (fun a' n' c' e => by cases e; exact hg) x0 _ _ hi h0' w0
      obtain ⟨bs, hb, rfl⟩ := all_map1 (f := eb) (p := fun n => 0 ≤ n ∧ n < 256) fun p hp => hE p hp
      exact ⟨φ', h', us, bs, i1, g1, by rw [ce5] at l1; exact l1, hb⟩
theorem bytes2_calls {f : FuncId} {r : Reach} {base : Nat} {v0 v1 : Value} {x0 x1 : DataW D × List MemPlace} {m0 m1 : Nat} (ht : C1.told f = none) (hf : ∀ a b, InR a → PCall C1 f [.c (.p (rB a)), .c (.p (rB b))] fun y => y = yd (.bool true))
    (k0 : Value.okWide Try.prog w r base 32 v0) (k1 : Value.okWide Try.prog w r base 32 v1)
    (h0 : DataW.trod enc Try.prog w 0 (fun _ => true) true m0 32 v0.cells.toList = some x0) (h1 : DataW.trod enc Try.prog w 0 (fun _ => true) true m1 32 v1.cells.toList = some x1) (w0 : (x0.1.weights Try.prog 32).all (· ≤ reachBytes) = true) (w1 : (x1.1.weights Try.prog 32).all (· ≤ reachBytes) = true) :
    Calls Try.prog f #[v0, v1] w fun e w' => e = .returned (.bool true) ∧ Below w.heap.size w w' := by
  obtain ⟨φ1, h1', us1, as1, i1, g1, l1, ha1⟩ := bytes_more (Go.Vx.In.nil w.heap.size w) k0 h0 w0
  obtain ⟨φ, h, us2, bs, hi, g2, l2, _⟩ := bytes_more i1 k1 h1 w1
  have hl := (l1.mono g2).app l2
  obtain ⟨hc, hp⟩ := hl
  generalize us1 ++ us2 = us at hc hp
  match us, hp.1, hc, hp with
  | [u0, u1], _, hc, hp =>
    have p0 : PRep (fun b => b < h.n) h (rB as1) u0 := hp.2 0 _ _ rfl rfl
    have p1 : PRep (fun b => b < h.n) h (rB bs) u1 := hp.2 1 _ _ rfl rfl
    obtain ⟨n, v, h', hx, R', y, hy, hv, _⟩ := hf as1 bs ha1 0 (fun b => b < h.n) h [u0, u1] (Nat.zero_le _) (fun b hb => hb) (L2.cons (show VRep [] (fun b => b < h.n) h (.c (.p (rB as1))) u0 from p0) (L2.single (show VRep [] (fun b => b < h.n) h (.c (.p (rB bs))) u1 from p1)))
    subst hy
    obtain rfl : v = .bool true := by cases hv; rfl
    have ha : All2 (VR φ) [u0, u1] #[v0, v1].toList := ⟨rfl, fun i u hu => by
      match i, hu with
      | 0, hu => cases hu; obtain ⟨v, e, hr⟩ := hc.2 0 u0 rfl; exact ⟨v, e, slice_VR1 p0 hr⟩
      | 1, hu => cases hu; obtain ⟨v, e, hr⟩ := hc.2 1 u1 rfl; exact ⟨v, e, slice_VR1 p1 hr⟩⟩
    refine Calls.mono (calls_of_xfun good1 hx ht hi.hr ⟨Nat.le_refl _, trivial⟩ ha fun i g1 g2 => ?_) fun e w' ⟨v', he, φ', hv', st⟩ => ?_
    · cases e : φ i with
      | none => rfl
      | some l => have := hi.dom i l e; omega
    · subst he
      exact ⟨by rw [hv'.bool], st.below⟩
end
end Go.Vx.Seat
end
