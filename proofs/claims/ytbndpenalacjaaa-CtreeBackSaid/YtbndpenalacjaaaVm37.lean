/- Texts joined: VyD2 VyE1 VyF1 VyF2 VyE2 VyE3 VyE4 VyE5 VyF3 VyP1 VyG1 VyL1 VyL2 VyL3 VyL4 VyL5 VyL6 VyL7 VyL8. -/
import Derived.Test.YtbndpenalacjaaaVm36
import Derived.Test.YtbndpenalacjaaaVyOwn
import Derived.Test.YtbndpenalacjaaaVyGive
/- The document's nodes and Parse. -/
section
open Go Go.Vx Go.Proofs
set_option linter.unusedSimpArgs false
set_option linter.unusedVariables false
set_option maxRecDepth 10000
set_option maxHeartbeats 4000000
namespace Go.Vx.Seat
attribute [local congr] Rg_at Rt_at Ro_at Ri_at Rc_at Rto_at Rtk_at Rtf_at Rti_at
attribute [local irreducible] Rg Rt Ro Ri Rc Rto Rtk Rtf Rti Rw Rl Rd Rcall Rtcall kf
theorem leafD_in (ts : List Tok) (c : Option Nat) (i k : Nat) (semi : Bool) : (leafD ts c i k semi).2 = if semi then k + 1 else k := rfl
theorem nodeD_in (ts : List Tok) (cols : List Int) (rec : Nat → Nat → List Nd × Nat) (hin : In ts rec) (i deep : Nat) (hi : i < ts.length) (ho : shutD ts deep i = false) : i < (nodeD ts cols rec i deep).2 ∧ (nodeD ts cols rec i deep).2 ≤ ts.length := by
  have hs := endD_le ts deep (ts.length - i) i
  have hgt : endD ts deep (ts.length - i) i = i → kindAt ts i = 19 ∨ kindAt ts i = 17 := by
    intro he
    rw [show ts.length - i = (ts.length - i - 1) + 1 by omega, endD] at he
    by_cases hq : (openAt ts i).length = deep ∧ ((kindAt ts i = 20 ∧ 0 < deep) ∨ kindAt ts i = 19 ∨ kindAt ts i = 17)
    · rcases hq.2 with h | h
      · exfalso
        simp [shutD, hq.1, h.1, h.2] at ho
      · exact h
    · rw [if_neg hq] at he
      have := endD_le ts deep (ts.length - i - 1) (i + 1)
      omega
  unfold nodeD
  simp only
  generalize endD ts deep (ts.length - i) i = k at hs hgt
  split
  · rename_i hq
    have hk := hq.1
    have := hin (k + 1) (deep + 1) (by omega)
    unfold ruleP
    simp only
    split
    · omega
    · omega
  · rename_i hnr
    split
    · rename_i hk
      rw [leafD_in]
      by_cases h17 : kindAt ts k = 17
      · simp [h17]; omega
      · simp [h17]
        have : k ≠ i := fun he => by subst he; rcases hgt rfl with h | h; exact hnr ⟨hk, h⟩; exact h17 h
        omega
    · rw [leafD_in]; simp; omega
theorem nodesD_in (ts : List Tok) (cols : List Int) : ∀ n, In ts (nodesD ts cols n)
  | 0 => fun i deep hi => by simp [nodesD]; exact hi
  | n + 1 => fun i deep hi => by
    unfold nodesD
    split
    · rename_i ho
      have h1 := nodeD_in ts cols _ (nodesD_in ts cols n) i deep ho.1 ho.2
      have h2 := nodesD_in ts cols n (nodeD ts cols (nodesD ts cols n) i deep).2 deep h1.2
      simp only
      omega
    · simp; exact hi

theorem nodesD_spec (ts : List Tok) (cols : List Int) (hl : ts.length ≤ 1000000) (hcl0 : cols.length ≤ 1000000) (hcol : ∀ k : Nat, cols.contains (k : Int) = true → kindAt ts k = 16) (n : Nat) : NodesSpecD ts cols n := by
  induction n using Nat.strongRecOn with
  | _ n ih =>
  intro i0 deep hdi0 hi0 hf0
  refine Yf0 [] (by rfl) (by rfl) fn28 (by rfl) ?_
  simp only [Try.f28, List.length_cons, List.length_nil, List.replicate, List.cons_append, List.nil_append, tbC]
  simp -implicitDefEqProofs only [↓yP, yT, Nat.reduceAdd, Nat.reduceMul, Nat.reduceSub, Nat.reduceLeDiff, Nat.reduceEqDiff, reduceCtorEq, Nat.reduceBEq]
  refine Rl_nil 5 9 (by decide) rfl ?_
  refine Rl_inv (fun d e s => ∃ (m i : Nat) (acc : List Nd), e = [.c (.ptr 0 0 0 0), yd (.int .i64 deep), .c .top, .c .top, .c .top, .c (.own 1 9 0 acc.length), .c .top, .c .top, .c .top, .c .top, .c .top, .c .top, .c .top, .c .top, .c .top, .c .top, .c .top, .c .top, .c .top, .c .top, .c .top, .c .top, .c .top, .c .top, .c .top, .c .top, .c .top, .c .top, .c .top, .c .top, .c .top, .c .top, .c .top, .c .top, .c .top, .c .top, .c .top, .c .top, .c .top, .c .top, .c .top, .c .top, .c .top, .c .top, .c .top, .c .top, .c .top, .c .top, .c .top, .c .top, .c .top, .c .top, .c .top, .c .top, .c .top, .c .top, .c .top] ∧ s = [.box (tbC ts cols i), .row 9 (acc.map Nd.pc)] ∧ m = d ∧ m ≤ n ∧ ts.length - i ≤ m ∧ deep ≤ i ∧ i ≤ ts.length ∧ acc.length ≤ i ∧ acc ++ (nodesD ts cols m i deep).1 = (nodesD ts cols n i0 deep).1 ∧ (nodesD ts cols m i deep).2 = (nodesD ts cols n i0 deep).2)
    [true, true, false, false, false, true] n [0, 1] (by decide) (pinned_one _) ⟨n, i0, [], rfl, rfl, rfl, Nat.le_refl _, hf0, hdi0, hi0, by simp, by simp, rfl⟩ ?_
  rintro d e s ⟨m, i, acc, rfl, rfl, rfl, hmn, hf, hdi, hi, hacc, hout, hend⟩
  simp only [tbC]
  simp -implicitDefEqProofs only [↓yP, yT, Nat.reduceAdd, Nat.reduceMul, Nat.reduceSub, Nat.reduceLeDiff, Nat.reduceEqDiff, reduceCtorEq, Nat.reduceBEq]
  refine Rd_calm (by rw [C1_P]; kernel_rfl) ?_
  by_cases hil : i < ts.length
  · obtain ⟨t, ht⟩ := get_lt hil
    have hkk := kindAt_some ht
    have hn1 := nest_at ts hil
    have t1 : leI (ts.length : Nat) (i : Nat) = false := leI_false (by omega)
    cases hsh : shutD ts deep i with
    | true =>
      have hres : nodesD ts cols m i deep = ([], i) := by
        cases m with
        | zero => rfl
        | succ m => rw [nodesD, hsh]; simp
      rw [hres] at hout hend
      simp only [List.append_nil] at hout hend
      simp only [shutD, Bool.and_eq_true, decide_eq_true_eq] at hsh
      obtain ⟨⟨k20, hd0⟩, hlv⟩ := hsh
      rw [hkk] at k20
      have f1 : eqI t.kind 20 = true := by rw [k20]; rfl
      have f2 : leI (deep : Nat) 0 = false := leI_false (by omega)
      have f3 : eqI ((openAt ts i).length : Nat) (deep : Nat) = true := by rw [hlv]; exact eqI_true _
      simp -implicitDefEqProofs only [↓yP, yT, Nat.reduceAdd, Nat.reduceMul, Nat.reduceSub, Nat.reduceLeDiff, Nat.reduceEqDiff, reduceCtorEq, Nat.reduceBEq, t1, get_map ht, Tok.pc, get_map hn1, e2, f1, f2, f3]
      refine ⟨[0], by decide, pinned_one _, ?_, ?_⟩
      · simp only [yE, Nat.reduceEqDiff, Nat.reduceAdd, reduceCtorEq, ← hout]; rfl
      · simp only [yE, Nat.reduceEqDiff, Nat.reduceAdd, reduceCtorEq, ← hend, tbC]
    | false =>
      obtain ⟨m, rfl⟩ : ∃ m', m = m' + 1 := ⟨m - 1, by omega⟩
      have hin := nodesD_in ts cols m
      have hx := nodeD_in ts cols _ hin i deep hil hsh
      have hnode := nodeD_spec ts cols m hl hcl0 hcol (ih m (by omega)) hin i deep hil hdi (by omega)
      have hres : nodesD ts cols (m + 1) i deep = ((nodeD ts cols (nodesD ts cols m) i deep).1 :: (nodesD ts cols m (nodeD ts cols (nodesD ts cols m) i deep).2 deep).1, (nodesD ts cols m (nodeD ts cols (nodesD ts cols m) i deep).2 deep).2) := by
        rw [nodesD, if_pos ⟨hil, hsh⟩]
      rw [hres] at hout hend
      have b1 : (acc.length + 1) * 104 ≤ 70368744177664 := by omega
      by_cases k20 : t.kind = 20
      · have f1 : eqI t.kind 20 = true := by rw [k20]; rfl
        by_cases hd0 : 0 < deep
        · have f2 : leI (deep : Nat) 0 = false := leI_false (by omega)
          have hlv : ¬ (openAt ts i).length = deep := fun h => by simp [shutD, hkk, k20, hd0, h] at hsh
          have f3 : eqI ((openAt ts i).length : Nat) (deep : Nat) = false := eqI_false (by omega)
          simp -implicitDefEqProofs only [↓yP, yT, Nat.reduceAdd, Nat.reduceMul, Nat.reduceSub, Nat.reduceLeDiff, Nat.reduceEqDiff, reduceCtorEq, Nat.reduceBEq, t1, get_map ht, Tok.pc, get_map hn1, e2, f1, f2, f3]
          refine Rcall_hand 1 [.box (tbC ts cols i)] rfl hnode (by simp) rfl (by rfl) fun y s' hy => ?_
          obtain ⟨rfl, rfl⟩ := hy
          refine ⟨rfl, ?_⟩
          generalize hr : nodeD ts cols (nodesD ts cols m) i deep = r at hx hout hend
          obtain ⟨⟨k0, h0, t0, ks0, o0, s0, m0, a0, l0⟩, j⟩ := r
          simp only [tbC, Nd.cs, pc_mk, List.map_cons, List.map_nil]
          simp -implicitDefEqProofs only [↓yP, yT, Nat.reduceAdd, Nat.reduceMul, Nat.reduceSub, Nat.reduceLeDiff, Nat.reduceEqDiff, reduceCtorEq, Nat.reduceBEq, b1]
          refine ⟨m, [0, 3], by omega, by decide, pinned_one _, m, j, acc ++ [.mk k0 h0 t0 ks0 o0 s0 m0 a0 l0], ?_, ?_, rfl, by omega, by simp only at hx; omega, by simp only at hx; omega, by simp only at hx; omega, by simp only at hx; simp; omega, ?_, hend⟩
          · simp only [yE, Nat.reduceEqDiff, Nat.reduceAdd, reduceCtorEq]
          · simp only [yE, Nat.reduceEqDiff, Nat.reduceAdd, reduceCtorEq, List.map_append, pc_mk, tbC]
          · rw [← hout]; simp
        · have f2 : leI (deep : Nat) 0 = true := leI_true (by omega)
          simp -implicitDefEqProofs only [↓yP, yT, Nat.reduceAdd, Nat.reduceMul, Nat.reduceSub, Nat.reduceLeDiff, Nat.reduceEqDiff, reduceCtorEq, Nat.reduceBEq, t1, get_map ht, Tok.pc, get_map hn1, e2, f1, f2]
          refine Rcall_hand 1 [.box (tbC ts cols i)] rfl hnode (by simp) rfl (by rfl) fun y s' hy => ?_
          obtain ⟨rfl, rfl⟩ := hy
          refine ⟨rfl, ?_⟩
          generalize hr : nodeD ts cols (nodesD ts cols m) i deep = r at hx hout hend
          obtain ⟨⟨k0, h0, t0, ks0, o0, s0, m0, a0, l0⟩, j⟩ := r
          simp only [tbC, Nd.cs, pc_mk, List.map_cons, List.map_nil]
          simp -implicitDefEqProofs only [↓yP, yT, Nat.reduceAdd, Nat.reduceMul, Nat.reduceSub, Nat.reduceLeDiff, Nat.reduceEqDiff, reduceCtorEq, Nat.reduceBEq, b1]
          refine ⟨m, [0, 3], by omega, by decide, pinned_one _, m, j, acc ++ [.mk k0 h0 t0 ks0 o0 s0 m0 a0 l0], ?_, ?_, rfl, by omega, by simp only at hx; omega, by simp only at hx; omega, by simp only at hx; omega, by simp only at hx; simp; omega, ?_, hend⟩
          · simp only [yE, Nat.reduceEqDiff, Nat.reduceAdd, reduceCtorEq]
          · simp only [yE, Nat.reduceEqDiff, Nat.reduceAdd, reduceCtorEq, List.map_append, pc_mk, tbC]
          · rw [← hout]; simp
      · have f1 : eqI t.kind 20 = false := eqI_false k20
        simp -implicitDefEqProofs only [↓yP, yT, Nat.reduceAdd, Nat.reduceMul, Nat.reduceSub, Nat.reduceLeDiff, Nat.reduceEqDiff, reduceCtorEq, Nat.reduceBEq, t1, get_map ht, Tok.pc, get_map hn1, e2, f1]
        refine Rcall_hand 1 [.box (tbC ts cols i)] rfl hnode (by simp) rfl (by rfl) fun y s' hy => ?_
        obtain ⟨rfl, rfl⟩ := hy
        refine ⟨rfl, ?_⟩
        generalize hr : nodeD ts cols (nodesD ts cols m) i deep = r at hx hout hend
        obtain ⟨⟨k0, h0, t0, ks0, o0, s0, m0, a0, l0⟩, j⟩ := r
        simp only [tbC, Nd.cs, pc_mk, List.map_cons, List.map_nil]
        simp -implicitDefEqProofs only [↓yP, yT, Nat.reduceAdd, Nat.reduceMul, Nat.reduceSub, Nat.reduceLeDiff, Nat.reduceEqDiff, reduceCtorEq, Nat.reduceBEq, b1]
        refine ⟨m, [0, 3], by omega, by decide, pinned_one _, m, j, acc ++ [.mk k0 h0 t0 ks0 o0 s0 m0 a0 l0], ?_, ?_, rfl, by omega, by simp only at hx; omega, by simp only at hx; omega, by simp only at hx; omega, by simp only at hx; simp; omega, ?_, hend⟩
        · simp only [yE, Nat.reduceEqDiff, Nat.reduceAdd, reduceCtorEq]
        · simp only [yE, Nat.reduceEqDiff, Nat.reduceAdd, reduceCtorEq, List.map_append, pc_mk, tbC]
        · rw [← hout]; simp
  · have t1 : leI (ts.length : Nat) (i : Nat) = true := leI_true (by omega)
    have hres : nodesD ts cols m i deep = ([], i) := by
      cases m with
      | zero => rfl
      | succ m => rw [nodesD, if_neg (fun h => hil h.1)]
    rw [hres] at hout hend
    simp only [List.append_nil] at hout hend
    simp -implicitDefEqProofs only [↓yP, yT, Nat.reduceAdd, Nat.reduceMul, Nat.reduceSub, Nat.reduceLeDiff, Nat.reduceEqDiff, reduceCtorEq, Nat.reduceBEq, t1]
    refine ⟨[0], by decide, pinned_one _, ?_, ?_⟩
    · simp only [yE, Nat.reduceEqDiff, Nat.reduceAdd, reduceCtorEq, ← hout]; rfl
    · simp only [yE, Nat.reduceEqDiff, Nat.reduceAdd, reduceCtorEq, ← hend, tbC]

theorem docColon_kind {ts : List Tok} {n k : Nat} (h : (colonsTo ts n).contains (k : Int) = true) : kindAt ts k = 16 := by
  simp only [colonsTo, List.contains_iff_mem, List.mem_map, List.mem_filter] at h
  obtain ⟨j, ⟨_, hj⟩, he⟩ := h
  have : j = k := by omega
  subst this
  simp only [docColon, Bool.and_eq_true, decide_eq_true_eq] at hj
  exact hj.1.1.1.1
def parseD (ts : List Tok) : List Nd := (nodesD ts (colonsTo ts ts.length) ts.length 0 0).1
theorem parseD_spec (ts : List Tok) (hl : ts.length ≤ 1000000) : PCall C1 13 [.c (.p (rT ts))] fun y => y = .c (.p (rN (parseD ts))) := by
  have hn := nodesD_spec ts (colonsTo ts ts.length) hl (by have := colonsTo_length ts ts.length; omega) (fun k h => docColon_kind h) ts.length 0 0 (by omega) (by omega) (by omega)
  refine Pf (by rfl) (by rfl) fn13 (by rfl) ?_
  simp only [Try.f13, List.length_cons, List.length_nil, List.replicate, List.cons_append, List.nil_append]
  simp -implicitDefEqProofs only [↓yP, yT, Nat.reduceAdd, Nat.reduceMul, Nat.reduceSub, Nat.reduceLeDiff, Nat.reduceEqDiff, reduceCtorEq, Nat.reduceBEq]
  refine Rcall_pure (nest_spec ts hl) (by rfl) fun y hy => ?_
  subst hy
  simp -implicitDefEqProofs only [↓yP, yT, Nat.reduceAdd, Nat.reduceMul, Nat.reduceSub, Nat.reduceLeDiff, Nat.reduceEqDiff, reduceCtorEq, Nat.reduceBEq]
  refine Rcall_pure (colons_spec ts hl) (by rfl) fun y hy => ?_
  subst hy
  simp -implicitDefEqProofs only [↓yP, yT, Nat.reduceAdd, Nat.reduceMul, Nat.reduceSub, Nat.reduceLeDiff, Nat.reduceEqDiff, reduceCtorEq, Nat.reduceBEq]
  refine Rcall_hand 1 [.box (tbC ts (colonsTo ts ts.length) 0)] rfl hn (by simp) rfl (by rfl) fun y s' hy => ?_
  obtain ⟨rfl, rfl⟩ := hy
  refine ⟨rfl, ?_⟩
  simp only [tbC]
  simp -implicitDefEqProofs only [↓yP, yT, Nat.reduceAdd, Nat.reduceMul, Nat.reduceSub, Nat.reduceLeDiff, Nat.reduceEqDiff, reduceCtorEq, Nat.reduceBEq]
  rfl
end Go.Vx.Seat
end
/- Are two rows of tokens one? Are two rows of nodes? -/
section
open Go Go.Vx Go.Proofs
set_option linter.unusedSimpArgs false
set_option linter.unusedVariables false
set_option maxRecDepth 10000
set_option maxHeartbeats 4000000
namespace Go.Vx.Seat
attribute [local congr] Rg_at Rt_at Ro_at Ri_at Rc_at Rto_at Rtk_at Rtf_at Rti_at
attribute [local irreducible] Rg Rt Ro Ri Rc Rto Rtk Rtf Rti Rw Rl Rd Rcall Rtcall kf
theorem fn14 : nth C1.P.funcs.toList 14 = some Try.f14 := by kernel_rfl
theorem fn11 : nth C1.P.funcs.toList 11 = some Try.f11 := by kernel_rfl
def Tok.vals (t : Tok) : List Value :=
  [.int .i64 t.kind, .string t.text, .string t.unit, .bool t.neg, .string t.digits, .string t.exp, .bool t.flag, .bool t.sign, .int .i64 t.c0, .int .i64 t.c1, .int .i64 t.c2, .int .i64 t.c3, .int .i64 t.start]
noncomputable def tokEq (t u : Tok) : Bool := match cellsEq t.vals u.vals with | some b => b | none => false
theorem strOf_eq (a b : ByteArray) : strOf a = strOf b ↔ a = b := by
  constructor
  · intro h
    cases a; cases b
    simp only [strOf] at h
    congr 1
    exact Array.toList_inj.mp h
  · intro h; rw [h]
theorem tokEq_iff (t u : Tok) : tokEq t u = true ↔ t = u := by
  cases t; cases u
  simp only [tokEq, Tok.vals, cellsEq, cellEq, if_true, Bool.and_true, Bool.and_eq_true, decide_eq_true_eq, beq_iff_eq, strOf_eq, Tok.mk.injEq]
theorem cellsEq_tok (t u : Tok) : cellsEq t.vals u.vals = some (tokEq t u) := by
  simp only [tokEq, Tok.vals, cellsEq, cellEq, if_true]
theorem zero44 : tyZero Try.prog 44 = some (.agg #[.int .i64 0, .string ⟨#[]⟩, .string ⟨#[]⟩, .bool false, .string ⟨#[]⟩, .string ⟨#[]⟩, .bool false, .bool false, .int .i64 0, .int .i64 0, .int .i64 0, .int .i64 0, .int .i64 0]) := by kernel_rfl
theorem eqs44 : C1.eqs.contains 44 = true := by kernel_rfl
theorem neq_tok (t u : Tok) : xbin Try.prog C1.eqs .neq 44 (.agg ⟨t.vals⟩) (.agg ⟨u.vals⟩) = some (.bool (!tokEq t u)) := by
  have h1 : likes (clist (.agg #[.int .i64 0, .string ⟨#[]⟩, .string ⟨#[]⟩, .bool false, .string ⟨#[]⟩, .string ⟨#[]⟩, .bool false, .bool false, .int .i64 0, .int .i64 0, .int .i64 0, .int .i64 0, .int .i64 0])) t.vals = true := rfl
  have h2 : likes (clist (.agg #[.int .i64 0, .string ⟨#[]⟩, .string ⟨#[]⟩, .bool false, .string ⟨#[]⟩, .string ⟨#[]⟩, .bool false, .bool false, .int .i64 0, .int .i64 0, .int .i64 0, .int .i64 0, .int .i64 0])) u.vals = true := rfl
  simp only [xbin, xbinA, eqs44, if_true, aggEq, zero44]
  rw [h1, h2]
  simp only [Bool.and_self, if_true, cellsEq_tok]
theorem sameTok_spec (l m : List Tok) (hl : l.length ≤ 1000000) : PCall C1 14 [.c (.p (rT l)), .c (.p (rT m))] fun y => ∃ b : Bool, y = yd (.bool b) ∧ (b = true ↔ l = m) := by
  refine Pf (by rfl) (by rfl) fn14 (by rfl) ?_
  simp only [Try.f14, List.length_cons, List.length_nil, List.replicate, List.cons_append, List.nil_append]
  by_cases hlen : l.length = m.length
  · have f1 : eqI (l.length : Nat) (m.length : Nat) = true := by rw [hlen]; exact eqI_true _
    simp -implicitDefEqProofs only [↓yP, yT, Nat.reduceAdd, Nat.reduceMul, Nat.reduceSub, Nat.reduceLeDiff, Nat.reduceEqDiff, reduceCtorEq, Nat.reduceBEq, f1]
    refine Rl_inv (fun d e s => ∃ i : Nat, e = [.c (.p (rT l)), .c (.p (rT m)), .c .top, .c .top, .c .top, yd (.int .i64 i), .c .top, .c .top, .c .top, .c .top, .c .top, .c .top, .c .top, .c .top, .c .top, .c .top, .c .top, .c .top, .c .top, .c .top, .c .top, .c .top, .c .top, .c .top, .c .top, .c .top] ∧ s = [] ∧ i + d = l.length ∧ ∀ j, j < i → l[j]? = m[j]?) [true, true, false, false, false, true] l.length [] (by decide) (pinned_zero _) ⟨0, by simp only [yE, Nat.reduceEqDiff, Nat.reduceAdd, reduceCtorEq]; rfl, rfl, by omega, fun j hj => by omega⟩ ?_
    rintro d e s ⟨i, rfl, rfl, hd, hsame⟩
    by_cases hi : i < l.length
    · obtain ⟨t, ht⟩ := get_lt hi
      obtain ⟨u, hu⟩ := get_lt (show i < m.length by omega)
      have t1 : leI (l.length : Nat) (i : Nat) = false := leI_false (by omega)
      have w1 : wrapK .i64 ((i : Int) + 1) = ((i + 1 : Nat) : Int) := wrap_succ (by omega)
      have hneq := neq_tok t u
      simp only [Tok.vals] at hneq
      simp -implicitDefEqProofs only [↓yP, yT, Nat.reduceAdd, Nat.reduceMul, Nat.reduceSub, Nat.reduceLeDiff, Nat.reduceEqDiff, reduceCtorEq, Nat.reduceBEq, t1]
      refine Rd_calm (by rw [C1_P]; kernel_rfl) ?_
      cases hq : tokEq t u with
      | true =>
        rw [hq] at hneq
        have he := (tokEq_iff t u).mp hq
        simp -implicitDefEqProofs only [↓yP, yT, Nat.reduceAdd, Nat.reduceMul, Nat.reduceSub, Nat.reduceLeDiff, Nat.reduceEqDiff, reduceCtorEq, Nat.reduceBEq, get_map ht, get_map hu, Tok.pc, hneq, w1]
        refine ⟨d - 1, [], by omega, by decide, pinned_zero _, i + 1, ?_, rfl, by omega, fun j hj => ?_⟩
        · simp only [yE, Nat.reduceEqDiff, Nat.reduceAdd, reduceCtorEq]
        · by_cases e : j = i
          · subst e; rw [ht, hu, he]
          · exact hsame j (by omega)
      | false =>
        rw [hq] at hneq
        simp -implicitDefEqProofs only [↓yP, yT, Nat.reduceAdd, Nat.reduceMul, Nat.reduceSub, Nat.reduceLeDiff, Nat.reduceEqDiff, reduceCtorEq, Nat.reduceBEq, get_map ht, get_map hu, Tok.pc, hneq]
        refine ⟨false, rfl, by simp; intro h; subst h; rw [ht] at hu; cases hu; rw [(tokEq_iff t t).mpr rfl] at hq; cases hq⟩
    · have t1 : leI (l.length : Nat) (i : Nat) = true := leI_true (by omega)
      simp -implicitDefEqProofs only [↓yP, yT, Nat.reduceAdd, Nat.reduceMul, Nat.reduceSub, Nat.reduceLeDiff, Nat.reduceEqDiff, reduceCtorEq, Nat.reduceBEq, t1]
      refine ⟨true, rfl, by simp; apply List.ext_getElem?; intro j; by_cases hj : j < i; exact hsame j hj; rw [List.getElem?_eq_none (by omega), List.getElem?_eq_none (by omega)]⟩
  · have f1 : eqI (l.length : Nat) (m.length : Nat) = false := eqI_false (by omega)
    simp -implicitDefEqProofs only [↓yP, yT, Nat.reduceAdd, Nat.reduceMul, Nat.reduceSub, Nat.reduceLeDiff, Nat.reduceEqDiff, reduceCtorEq, Nat.reduceBEq, f1]
    refine ⟨false, rfl, by simp; intro h; subst h; exact hlen rfl⟩
theorem sameTok_refl (l : List Tok) (hl : l.length ≤ 1000000) : PCall C1 14 [.c (.p (rT l)), .c (.p (rT l))] fun y => y = yd (.bool true) :=
  (sameTok_spec l l hl).mono fun y ⟨b, h1, h2⟩ => by rw [h1, h2.mpr rfl]

/-- Nodes that are not too many. -/
inductive NdOk : Nd → Prop where
  | mk {k : Int} {h t : List Tok} {ks : List Nd} {o s m : Bool} {a l : Int} : h.length ≤ 1000000 → t.length ≤ 1000000 → ks.length ≤ 1000000 → (∀ x, x ∈ ks → NdOk x) → NdOk (.mk k h t ks o s m a l)
def Refl : Nd → Prop
  | .mk k h t ks o s m a l => h.length ≤ 1000000 ∧ t.length ≤ 1000000 ∧ PCall C1 11 [.c (.p (rN ks)), .c (.p (rN ks))] fun y => y = yd (.bool true)
theorem bool_neq (b : Bool) : (!(b == b)) = false := by simp
theorem under4 : Try.prog.underlying 4 = some .bool := by kernel_rfl
theorem sameNodes_list (ns : List Nd) (hl : ns.length ≤ 1000000) (hr : ∀ x, x ∈ ns → Refl x) : PCall C1 11 [.c (.p (rN ns)), .c (.p (rN ns))] fun y => y = yd (.bool true) := by
  refine Pf (by rfl) (by rfl) fn11 (by rfl) ?_
  simp only [Try.f11, List.length_cons, List.length_nil, List.replicate, List.cons_append, List.nil_append]
  simp -implicitDefEqProofs only [↓yP, yT, Nat.reduceAdd, Nat.reduceMul, Nat.reduceSub, Nat.reduceLeDiff, Nat.reduceEqDiff, reduceCtorEq, Nat.reduceBEq, eqI_true]
  refine Rl_inv (fun d e s => ∃ i : Nat, e = [.c (.p (rN ns)), .c (.p (rN ns)), .c .top, .c .top, .c .top, yd (.int .i64 i), .c .top, .c .top, .c .top, .c .top, .c .top, .c .top, .c .top, .c .top, .c .top, .c .top, .c .top, .c .top, .c .top, .c .top, .c .top, .c .top, .c .top, .c .top, .c .top, .c .top, .c .top, .c .top, .c .top, .c .top, .c .top, .c .top, .c .top, .c .top, .c .top, .c .top, .c .top, .c .top, .c .top, .c .top, .c .top, .c .top, .c .top, .c .top, .c .top, .c .top, .c .top, .c .top, .c .top, .c .top, .c .top, .c .top, .c .top, .c .top, .c .top, .c .top, .c .top, .c .top, .c .top, .c .top, .c .top, .c .top, .c .top, .c .top, .c .top, .c .top, .c .top, .c .top, .c .top, .c .top, .c .top, .c .top, .c .top, .c .top, .c .top, .c .top, .c .top, .c .top, .c .top, .c .top, .c .top, .c .top, .c .top, .c .top, .c .top, .c .top, .c .top, .c .top, .c .top, .c .top, .c .top] ∧ s = [] ∧ i + d = ns.length) [true, true, false, false, false, true] ns.length [] (by decide) (pinned_zero _) ⟨0, by simp only [yE, Nat.reduceEqDiff, Nat.reduceAdd, reduceCtorEq]; rfl, rfl, by omega⟩ ?_
  rintro d e s ⟨i, rfl, rfl, hd⟩
  by_cases hi : i < ns.length
  · obtain ⟨x, hx⟩ := get_lt hi
    have hxr := hr x (List.mem_of_getElem? hx)
    obtain ⟨k0, h0, t0, ks0, o0, s0, m0, a0, l0⟩ := x
    obtain ⟨hh, ht, hk⟩ := hxr
    have t1 : leI (ns.length : Nat) (i : Nat) = false := leI_false (by omega)
    have w1 : wrapK .i64 ((i : Int) + 1) = ((i + 1 : Nat) : Int) := wrap_succ (by omega)
    have hg := get_map (f := Nd.pc) hx
    rw [pc_mk] at hg
    simp -implicitDefEqProofs only [↓yP, yT, Nat.reduceAdd, Nat.reduceMul, Nat.reduceSub, Nat.reduceLeDiff, Nat.reduceEqDiff, reduceCtorEq, Nat.reduceBEq, t1, hg, eqI_true]
    refine Rcall_pure (sameTok_refl h0 hh) (by rfl) fun y hy => ?_
    subst hy
    simp -implicitDefEqProofs only [↓yP, yT, Nat.reduceAdd, Nat.reduceMul, Nat.reduceSub, Nat.reduceLeDiff, Nat.reduceEqDiff, reduceCtorEq, Nat.reduceBEq]
    refine Rcall_pure (sameTok_refl t0 ht) (by rfl) fun y hy => ?_
    subst hy
    simp -implicitDefEqProofs only [↓yP, yT, Nat.reduceAdd, Nat.reduceMul, Nat.reduceSub, Nat.reduceLeDiff, Nat.reduceEqDiff, reduceCtorEq, Nat.reduceBEq]
    refine Rcall_pure hk (by rfl) fun y hy => ?_
    subst hy
    simp -implicitDefEqProofs only [↓yP, yT, Nat.reduceAdd, Nat.reduceMul, Nat.reduceSub, Nat.reduceLeDiff, Nat.reduceEqDiff, reduceCtorEq, Nat.reduceBEq, bool_neq, eqI_true, under4, w1]
    refine ⟨d - 1, [], by omega, by decide, pinned_zero _, i + 1, ?_, rfl, by omega⟩
    simp only [yE, Nat.reduceEqDiff, Nat.reduceAdd, reduceCtorEq]
  · have t1 : leI (ns.length : Nat) (i : Nat) = true := leI_true (by omega)
    simp -implicitDefEqProofs only [↓yP, yT, Nat.reduceAdd, Nat.reduceMul, Nat.reduceSub, Nat.reduceLeDiff, Nat.reduceEqDiff, reduceCtorEq, Nat.reduceBEq, t1]
theorem refl_of_ok {x : Nd} (hx : NdOk x) : Refl x := by
  induction hx with
  | mk h1 h2 h3 h4 ih => exact ⟨h1, h2, sameNodes_list _ h3 ih⟩
theorem sameNodes_refl (ns : List Nd) (hl : ns.length ≤ 1000000) (hr : ∀ x, x ∈ ns → NdOk x) : PCall C1 11 [.c (.p (rN ns)), .c (.p (rN ns))] fun y => y = yd (.bool true) :=
  sameNodes_list ns hl fun x hx => refl_of_ok (hr x hx)
end Go.Vx.Seat
end
/- The document's colons are the program's: plain law. -/
section
open Go Go.Vx Go.Proofs
set_option linter.unusedSimpArgs false
set_option linter.unusedVariables false
namespace Go.Vx.Seat
def Shuts (k : Int) : Prop := k = 22 ∨ k = 24 ∨ k = 20
theorem closes_shuts {k : Int} (h : closes k > 0) : Shuts (closes k) := by
  unfold closes at h ⊢
  unfold Shuts
  split
  · simp
  · split
    · simp
    · split
      · simp
      · simp_all
theorem closes_20 {k : Int} (h : closes k = 20) : k = 19 := by
  unfold closes at h
  split at h
  · omega
  · split at h
    · omega
    · split at h <;> omega
theorem openAt_shuts (ts : List Tok) : ∀ (i : Nat) (k : Int), k ∈ openAt ts i → Shuts k
  | 0, k, h => by simp [openAt] at h
  | i + 1, k, h => by
    have ih := openAt_shuts ts i k
    unfold openAt at h
    split at h
    · unfold nestStep at h
      split at h
      · exact ih ((List.dropLast_sublist _).subset h)
      · split at h
        · rename_i hc
          rcases List.mem_append.mp h with h | h
          · exact ih h
          · rw [List.mem_singleton.mp h]; exact closes_shuts hc
        · exact ih h
    · exact ih h
theorem last_shuts {ts : List Tok} {i : Nat} {k : Int} (h : (openAt ts i).getLast? = some k) : Shuts k := openAt_shuts ts i k (List.mem_of_getLast? h)
theorem blocks_mem {o : List Int} (h : allBlocks o = true) {k : Int} (hk : k ∈ o) : k = 20 := by
  have := List.all_eq_true.mp h k hk
  simpa using this
theorem blocks_last {o : List Int} (h : allBlocks o = true) (hn : 0 < o.length) : o.getLast? = some 20 := by
  cases hl : o.getLast? with
  | none => rw [List.getLast?_eq_none_iff.mp hl] at hn; simp at hn
  | some a => rw [blocks_mem h (List.mem_of_getLast? hl)]
/-- What is open there is what is open here and more, and not another block. -/
def Above (ts : List Tok) (o : List Int) (k : Nat) : Prop := ∃ rest, openAt ts k = o ++ rest ∧ rest.head? ≠ some 20
theorem Above.same {ts : List Tok} {o : List Int} {k : Nat} (h : openAt ts k = o) : Above ts o k := ⟨[], by simp [h], by simp⟩
theorem Above.len {ts : List Tok} {o : List Int} {k : Nat} (h : Above ts o k) : o.length ≤ (openAt ts k).length := by
  obtain ⟨r, h1, _⟩ := h; rw [h1]; simp
theorem Above.eq {ts : List Tok} {o : List Int} {k : Nat} (h : Above ts o k) (hl : (openAt ts k).length = o.length) : openAt ts k = o := by
  obtain ⟨r, h1, _⟩ := h
  rw [h1] at hl ⊢
  have : r = [] := by cases r with | nil => rfl | cons a r => simp at hl
  simp [this]
theorem Above.blocks {ts : List Tok} {o : List Int} {k : Nat} (h : Above ts o k) (hb : allBlocks (openAt ts k) = true) : openAt ts k = o := by
  obtain ⟨r, h1, h2⟩ := h
  cases r with
  | nil => simpa using h1
  | cons a r => exact absurd (by rw [List.head?_cons, blocks_mem hb (k := a) (by rw [h1]; simp)]) h2
/-- Does what is looked at stop there? -/
def stopD (ts : List Tok) (n k : Nat) : Prop := (openAt ts k).length = n ∧ (kindAt ts k = 19 ∨ (kindAt ts k = 20 ∧ 0 < n))
theorem getLast_app {o r : List Int} (h : r ≠ []) : (o ++ r).getLast? = r.getLast? := by
  rw [List.getLast?_append]; cases hr : r.getLast? with
  | none => exact absurd (List.getLast?_eq_none_iff.mp hr) h
  | some a => rfl
theorem Above.step {ts : List Tok} {o : List Int} {k : Nat} (h : Above ts o k) (hb : allBlocks o = true) (hk : k < ts.length) (hs : ¬ stopD ts o.length k) : Above ts o (k + 1) := by
  obtain ⟨r, h1, h2⟩ := h
  have ht : ts[k]? = some ts[k] := List.getElem?_eq_getElem hk
  have hkk := kindAt_some ht
  unfold stopD at hs
  rw [Above, openAt_succ ht, ← hkk]
  generalize kindAt ts k = K at hs
  rw [h1] at hs ⊢
  unfold nestStep
  cases r with
  | nil =>
    simp only [List.append_nil] at hs ⊢
    split
    · rename_i hl
      have hm := blocks_mem hb (List.mem_of_getLast? hl)
      have : 0 < o.length := List.length_pos_of_mem (List.mem_of_getLast? hl)
      exact absurd ⟨by simp, .inr ⟨hm, this⟩⟩ hs
    · split
      · refine ⟨[closes K], rfl, fun h => ?_⟩
        have : closes K = 20 := by simpa using h
        exact hs ⟨by simp, .inl (closes_20 this)⟩
      · exact ⟨[], by simp, by simp⟩
  | cons a r =>
    split
    · refine ⟨(a :: r).dropLast, by rw [List.dropLast_append_of_ne_nil (by simp)], ?_⟩
      cases r with
      | nil => simp
      | cons b r => simpa using h2
    · split
      · exact ⟨a :: r ++ [closes K], by simp, by simpa using h2⟩
      · exact ⟨a :: r, rfl, h2⟩
theorem pl_closes {ts : List Tok} {k : Nat} (h : (openAt ts k).getLast? = some (kindAt ts k)) : (pl ts k).1 = (openAt ts k).length - 1 := by
  simp [pl, plOf, h]
theorem pl_open {ts : List Tok} {k : Nat} (h : ¬ (openAt ts k).getLast? = some (kindAt ts k)) : pl ts k = ((openAt ts k).length, allBlocks (openAt ts k), false) := by
  simp [pl, plOf, h]
theorem Above.lt {ts : List Tok} {o : List Int} {k : Nat} (h : Above ts o k) (hb : allBlocks o = true) : (pl ts k).1 < o.length ↔ (openAt ts k).length = o.length ∧ kindAt ts k = 20 ∧ 0 < o.length := by
  have hl := h.len
  by_cases hc : (openAt ts k).getLast? = some (kindAt ts k)
  · rw [pl_closes hc]
    constructor
    · intro h1
      have h2 : (openAt ts k).length = o.length := by omega
      have h3 := h.eq h2
      rw [h3] at hc
      exact ⟨h2, blocks_mem hb (List.mem_of_getLast? hc), List.length_pos_of_mem (List.mem_of_getLast? hc)⟩
    · rintro ⟨h1, h2, h3⟩
      omega
  · rw [pl_open hc]
    constructor
    · intro h1; simp only at h1; omega
    · rintro ⟨h1, h2, h3⟩
      rw [h.eq h1, h2] at hc
      exact absurd (blocks_last hb h3) hc
theorem Above.part {ts : List Tok} {o : List Int} {k : Nat} (h : Above ts o k) (hb : allBlocks o = true) (hn : ¬ (pl ts k).1 < o.length) : ((pl ts k).1 = o.length ∧ partK (kindAt ts k) = true) ↔ ((openAt ts k).length = o.length ∧ partK (kindAt ts k) = true) := by
  by_cases hc : (openAt ts k).getLast? = some (kindAt ts k)
  · have hp := pl_closes hc
    obtain ⟨r, h1, h2⟩ := h
    have hsh := last_shuts hc
    have hlen : (openAt ts k).length = o.length + r.length := by rw [h1]; simp
    cases r with
    | nil =>
      exfalso
      have : 0 < (openAt ts k).length := List.length_pos_of_mem (List.mem_of_getLast? hc)
      simp at hlen
      omega
    | cons a r =>
      constructor
      · rintro ⟨h3, h4⟩
        exfalso
        have hr : r = [] := by
          cases r with
          | nil => rfl
          | cons b r => simp at hlen; omega
        subst hr
        rw [h1, getLast_app (by simp)] at hc
        simp at hc h2
        rcases hsh with h | h | h
        · rw [h] at h4; simp [partK] at h4
        · rw [h] at h4; simp [partK] at h4
        · rw [h] at hc; exact h2 hc
      · rintro ⟨h3, h4⟩
        simp at hlen; omega
  · rw [pl_open hc]
theorem not_last {ts : List Tok} {i : Nat} {k : Int} (h : ¬ Shuts k) : ¬ (openAt ts i).getLast? = some k := fun hl => h (last_shuts hl)
/-! ### The colons -/
theorem plain_behind {ts : List Tok} {i : Nat} (hb : allBlocks (openAt ts i) = true) (hp : (pl ts i).1 = (openAt ts i).length) : ∀ (d k : Nat), k + d = ts.length → Above ts (openAt ts i) k → plainFrom ts i d k = behind ts i d k
  | 0, k, _, _ => by rw [plainFrom, behind]
  | d + 1, k, hd, ha => by
    rw [plainFrom, behind, hp]
    by_cases h1 : (pl ts k).1 < (openAt ts i).length
    · obtain ⟨h2, h3, h4⟩ := (ha.lt hb).mp h1
      rw [if_pos h1, if_pos ⟨h2, by rw [h3]; rfl⟩, h3]; rfl
    · rw [if_neg h1]
      by_cases h2 : (openAt ts k).length = (openAt ts i).length ∧ partK (kindAt ts k) = true
      · rw [if_pos ((ha.part hb h1).mpr h2), if_pos h2]
      · rw [if_neg fun h => h2 ((ha.part hb h1).mp h), if_neg h2]
        refine plain_behind hb hp d (k + 1) (by omega) (ha.step hb (by omega) ?_)
        rintro ⟨h3, h4⟩
        refine h2 ⟨h3, ?_⟩
        rcases h4 with h4 | h4
        · rw [h4]; rfl
        · rw [h4.1]; rfl
theorem part_at (ts : List Tok) (i : Nat) : (partK (kindAt ts i) = true ∧ (pl ts i).2.1 = true) ↔ partAt ts i = true := by
  rw [partAt, Bool.and_eq_true]
  refine and_congr_right fun hp => ?_
  by_cases hc : (openAt ts i).getLast? = some (kindAt ts i)
  · have hsh := last_shuts hc
    have h20 : kindAt ts i = 20 := by
      rcases hsh with h | h | h
      · rw [h] at hp; simp [partK] at hp
      · rw [h] at hp; simp [partK] at hp
      · exact h
    rw [h20] at hc
    have hd : openAt ts i = (openAt ts i).dropLast ++ [20] := by
      obtain ⟨ys, hy⟩ := List.getLast?_eq_some_iff.mp hc
      rw [hy, List.dropLast_concat]
    simp only [pl, plOf, h20, hc, if_pos]
    conv => rhs; rw [hd]
    simp [allBlocks]
  · rw [pl_open hc]
theorem back_add (ts : List Tok) : ∀ (n a b : Nat), back ts n a b = (a + (back ts n 0 0).1, b + (back ts n 0 0).2)
  | 0, a, b => by simp [back]
  | n + 1, a, b => by
    unfold back
    split
    · simp
    · split
      · exact back_add ts n a b
      · split
        · rw [back_add ts n (a + 1) b, back_add ts n (0 + 1) 0]; simp; omega
        · rw [back_add ts n a (b + 1), back_add ts n 0 (0 + 1)]; simp; omega
theorem since_back (ts : List Tok) : ∀ n : Nat, (since ts n).1 = (back ts n 0 0).1 + (back ts n 0 0).2 ∧ ((since ts n).1 = 1 → ((since ts n).2 = true ↔ (back ts n 0 0).1 = 1))
  | 0 => by simp [since, back]
  | n + 1 => by
    obtain ⟨h1, h2⟩ := since_back ts n
    have hp := part_at ts n
    unfold since back
    by_cases hq : quiet (kindAt ts n) = true
    · have hno : ¬ partAt ts n = true := by
        rw [partAt, Bool.and_eq_true]
        rintro ⟨h3, _⟩
        simp [quiet] at hq
        rcases hq with h | h <;> rw [h] at h3 <;> simp [partK] at h3
      rw [if_pos hq, if_neg hno, if_pos hq]
      exact ⟨h1, h2⟩
    · rw [if_neg hq]
      by_cases hpa : partAt ts n = true
      · rw [if_pos (hp.mpr hpa), if_pos hpa]; simp
      · rw [if_neg fun h => hpa (hp.mp h), if_neg hpa, if_neg hq]
        by_cases h3 : kindAt ts n = 1
        · rw [if_pos h3, back_add]; simp [h3]; omega
        · rw [if_neg h3, back_add]; simp [h3]; omega
theorem colon_same (ts : List Tok) {i : Nat} (hi : i < ts.length) : isColon ts i = docColon ts i := by
  rw [Bool.eq_iff_iff, isColon, docColon]
  simp only [Bool.and_eq_true, decide_eq_true_eq]
  by_cases hk : kindAt ts i = 16
  · have hno : ¬ (openAt ts i).getLast? = some (kindAt ts i) := not_last (by rw [hk]; simp [Shuts])
    have hpl := pl_open hno
    obtain ⟨s1, s2⟩ := since_back ts i
    rw [hpl]
    simp only
    by_cases hb : allBlocks (openAt ts i) = true
    · have h1 : plainAt ts i = behind ts i (ts.length - (i + 1)) (i + 1) := by
        refine plain_behind hb (by rw [hpl]) _ _ (by omega) ((Above.same rfl).step hb hi ?_)
        rintro ⟨_, h⟩
        rw [hk] at h; simp at h
      rw [h1]
      constructor
      · rintro ⟨⟨⟨⟨⟨_, _⟩, h2⟩, h3⟩, h4⟩, h5⟩
        have h6 := (s2 h3).mp h4
        refine ⟨⟨⟨⟨hk, by omega⟩, hb⟩, ?_⟩, h5⟩
        exact Prod.ext h6 (by simp only; omega)
      · rintro ⟨⟨⟨⟨_, h2⟩, _⟩, h3⟩, h5⟩
        rw [h3] at s1 s2
        have h4 : (since ts i).1 = 1 := by simpa using s1
        exact ⟨⟨⟨⟨⟨hk, hb⟩, by omega⟩, h4⟩, (s2 h4).mpr rfl⟩, h5⟩
    · simp [hb]
  · simp [hk]
theorem colons_same (ts : List Tok) : colonsP ts ts.length = colonsTo ts ts.length := by
  rw [colonsP, colonsTo]
  congr 1
  refine List.filter_congr fun i hi => colon_same ts (by simpa using hi)
end Go.Vx.Seat
end
/- The document's Parse is the program's: plain law. -/
section
open Go Go.Vx Go.Proofs
set_option linter.unusedSimpArgs false
set_option linter.unusedVariables false
namespace Go.Vx.Seat
def reps (n : Nat) : List Int := List.replicate n 20
theorem reps_len (n : Nat) : (reps n).length = n := by simp [reps]
theorem reps_blocks (n : Nat) : allBlocks (reps n) = true := by simp [reps, allBlocks]
def stopE (ts : List Tok) (deep k : Nat) : Prop := (openAt ts k).length = deep ∧ ((kindAt ts k = 20 ∧ 0 < deep) ∨ kindAt ts k = 19 ∨ kindAt ts k = 17)
theorem stopE_D {ts : List Tok} {deep k : Nat} (h : stopD ts (reps deep).length k) : stopE ts deep k := by
  rw [reps_len] at h
  exact ⟨h.1, h.2.elim (fun h => .inr (.inl h)) (fun h => .inl h)⟩
theorem flat_pl {ts : List Tok} {k : Nat} (h : kindAt ts k = 19 ∨ kindAt ts k = 17) : (pl ts k).1 = (openAt ts k).length := by
  rw [pl_open (not_last (by rcases h with h | h <;> rw [h] <;> simp [Shuts]))]
theorem scan_same (ts : List Tok) (deep : Nat) : ∀ d k : Nat, k + d = ts.length → Above ts (reps deep) k →
    scanP ts deep d k = endD ts deep d k ∧ (∀ p, k ≤ p → p < endD ts deep d k → Above ts (reps deep) p ∧ ¬ stopE ts deep p) ∧ (endD ts deep d k < ts.length → Above ts (reps deep) (endD ts deep d k) ∧ stopE ts deep (endD ts deep d k))
  | 0, k, hd, ha => by
    rw [scanP, endD]
    exact ⟨rfl, fun p h1 h2 => by omega, fun h => by omega⟩
  | d + 1, k, hd, ha => by
    have hlt := ha.lt (reps_blocks deep)
    have hlen := ha.len
    rw [reps_len] at hlt hlen
    by_cases hs : stopE ts deep k
    · have e1 : endD ts deep (d + 1) k = k := by rw [endD]; exact if_pos hs
      rw [e1]
      refine ⟨?_, fun p h1 h2 => by omega, fun _ => ⟨ha, hs⟩⟩
      rw [scanP]
      obtain ⟨h1, h2⟩ := hs
      rcases h2 with h2 | h2
      · rw [if_pos (hlt.mpr ⟨h1, h2.1, h2.2⟩)]
      · have hf := flat_pl h2
        rw [if_neg (by omega), if_pos ⟨by omega, h2⟩]
    · have e1 : endD ts deep (d + 1) k = endD ts deep d (k + 1) := by rw [endD]; exact if_neg hs
      have e2 : scanP ts deep (d + 1) k = scanP ts deep d (k + 1) := by
        rw [scanP, if_neg, if_neg]
        · rintro ⟨h1, h2⟩
          have hf := flat_pl h2
          exact hs ⟨by omega, .inr h2⟩
        · intro h
          obtain ⟨h1, h2, h3⟩ := hlt.mp h
          exact hs ⟨h1, .inl ⟨h2, h3⟩⟩
      rw [e1, e2]
      obtain ⟨h1, h2, h3⟩ := scan_same ts deep d (k + 1) (by omega) (ha.step (reps_blocks deep) (by omega) fun h => hs (stopE_D h))
      refine ⟨h1, fun p hp1 hp2 => ?_, h3⟩
      by_cases hp : p = k
      · subst hp; exact ⟨ha, hs⟩
      · exact h2 p (by omega) hp2
/-! ### Which colon -/
theorem contains_colons (ts : List Tok) (n c : Nat) : (colonsTo ts n).contains (c : Int) = true ↔ c < n ∧ docColon ts c = true := by
  rw [List.contains_iff_mem, colonsTo, List.mem_map]
  constructor
  · rintro ⟨a, ha, he⟩
    have : a = c := by omega
    subst this
    simpa using ha
  · intro h
    exact ⟨c, by simpa using h, rfl⟩
theorem colonAt_some {ts : List Tok} {n i k c : Nat} (h : colonAt (colonsTo ts n) i k = some c) : i ≤ c ∧ c < k ∧ c < n ∧ docColon ts c = true := by
  unfold colonAt at h
  split at h
  · rename_i a hf
    split at h
    · rename_i hlt
      cases h
      have h1 := List.find?_some hf
      have h2 := List.mem_of_find?_eq_some hf
      rw [colonsTo, List.mem_map] at h2
      obtain ⟨b, hb, rfl⟩ := h2
      simp at h1 hb
      simp only [Int.toNat_natCast]
      exact ⟨h1, by omega, hb.1, hb.2⟩
    · cases h
  · cases h
theorem colonsTo_sorted (ts : List Tok) (n : Nat) : (colonsTo ts n).Pairwise (· < ·) := by
  rw [colonsTo, List.pairwise_map]
  exact ((List.pairwise_lt_range).filter _).imp fun h => by omega
theorem colonAt_none {ts : List Tok} {n i k c : Nat} (h : colonAt (colonsTo ts n) i k = none) (h1 : i ≤ c) (h2 : c < k) (h3 : c < n) : docColon ts c = false := by
  rw [← Bool.not_eq_true]
  intro hd
  have hm : (c : Int) ∈ colonsTo ts n := List.contains_iff_mem.mp ((contains_colons ts n c).mpr ⟨h3, hd⟩)
  unfold colonAt at h
  cases hf : List.find? (fun c => decide ((i : Int) ≤ c)) (colonsTo ts n) with
  | none =>
    have := List.find?_eq_none.mp hf c hm
    simp at this; omega
  | some a =>
    rw [hf] at h
    simp only at h
    split at h
    · cases h
    · rename_i hak
      obtain ⟨_, xs, ys, he, has⟩ := List.find?_eq_some_iff_append.mp hf
      have hs := colonsTo_sorted ts n
      rw [he] at hm hs
      rcases List.mem_append.mp hm with hm | hm
      · have := has c hm
        simp at this; omega
      · rcases List.mem_cons.mp hm with hm | hm
        · omega
        · have := List.rel_of_pairwise_cons (List.pairwise_append.mp hs).2.1 hm
          omega
theorem colD_some {ts : List Tok} {cols : List Int} {deep i : Nat} : ∀ {m c : Nat}, colD ts cols deep i m = some c → (openAt ts c).length = deep ∧ cols.contains (c : Int) = true
  | 0, c, h => by cases h
  | m + 1, c, h => by
    unfold colD at h
    split at h
    · rename_i hc; cases h; exact hc
    · exact colD_some h
theorem colD_none {ts : List Tok} {cols : List Int} {deep i : Nat} : ∀ {m : Nat}, colD ts cols deep i m = none → ∀ c, i ≤ c → c < i + m → ¬ ((openAt ts c).length = deep ∧ cols.contains (c : Int) = true)
  | 0, h, c, h1, h2 => by omega
  | m + 1, h, c, h1, h2 => by
    unfold colD at h
    split at h
    · cases h
    · rename_i hn
      by_cases hc : c = i + m
      · subst hc; exact hn
      · exact colD_none h c h1 (by omega)
theorem back_other {ts : List Tok} {c : Nat} (hk : kindAt ts c = 16) : ∀ (n a b : Nat), c < n → (∀ p, c < p → p < n → ¬ partAt ts p = true) → b + 1 ≤ (back ts n a b).2
  | n + 1, a, b, hc, hp => by
    unfold back
    by_cases hn : c = n
    · subst hn
      rw [if_neg (by simp [partAt, hk, partK]), if_neg (by simp [quiet, hk]), if_neg (by omega), back_add]
      simp only; omega
    · have ih := fun a b => back_other hk n a b (by omega) fun p h1 h2 => hp p h1 (by omega)
      rw [if_neg (hp n (by omega) (by omega))]
      split
      · exact ih a b
      · split
        · exact ih (a + 1) b
        · have := ih a (b + 1); omega
theorem docColon_facts {ts : List Tok} {c : Nat} (h : docColon ts c = true) : kindAt ts c = 16 ∧ (openAt ts c).length ≠ 0 ∧ allBlocks (openAt ts c) = true ∧ back ts c 0 0 = (1, 0) := by
  simp [docColon] at h
  exact ⟨h.1.1.1.1, fun h0 => h.1.1.1.2 (List.length_eq_zero_iff.mp h0), h.1.1.2, h.1.2⟩
/-- Among what is looked at there is one colon at most, at the level itself. -/
theorem one_colon {ts : List Tok} {deep i k c c' : Nat} (ha : ∀ p, i ≤ p → p < k → Above ts (reps deep) p ∧ ¬ stopE ts deep p) (h1 : i ≤ c) (h2 : c < c') (h3 : c' < k) (hc : docColon ts c = true) (hc' : docColon ts c' = true) : False := by
  obtain ⟨k1, l1, b1, _⟩ := docColon_facts hc
  obtain ⟨k2, l2, b2, e2⟩ := docColon_facts hc'
  have hd : 0 < deep := by
    have := (ha c h1 (by omega)).1.blocks b1
    rw [this, reps_len] at l1
    omega
  have := back_other k1 c' 0 0 h2 fun p hp1 hp2 hpa => by
    obtain ⟨g1, g2⟩ := ha p (by omega) (by omega)
    rw [partAt, Bool.and_eq_true] at hpa
    refine g2 ⟨by rw [g1.blocks hpa.2, reps_len], ?_⟩
    have := hpa.1
    simp [partK] at this
    rcases this with (h | h) | h
    · exact .inr (.inl h)
    · exact .inl ⟨h, hd⟩
    · exact .inr (.inr h)
  rw [e2] at this
  simp at this
theorem colon_at_same {ts : List Tok} {deep i k m : Nat} (ha : ∀ p, i ≤ p → p < k → Above ts (reps deep) p ∧ ¬ stopE ts deep p) (hk : k ≤ ts.length) (hik : i ≤ k) (hm : m = k - i ∨ (m = k - i + 1 ∧ kindAt ts k ≠ 16)) :
    colonAt (colonsTo ts ts.length) i k = colD ts (colonsTo ts ts.length) deep i m := by
  cases hP : colonAt (colonsTo ts ts.length) i k with
  | some c =>
    obtain ⟨p1, p2, p3, p4⟩ := colonAt_some hP
    obtain ⟨k1, l1, b1, _⟩ := docColon_facts p4
    have hlen : (openAt ts c).length = deep := by rw [(ha c p1 p2).1.blocks b1, reps_len]
    cases hD : colD ts (colonsTo ts ts.length) deep i m with
    | none => exact absurd ⟨hlen, (contains_colons ts _ c).mpr ⟨p3, p4⟩⟩ (colD_none hD c p1 (by omega))
    | some c' =>
      obtain ⟨q1, q2⟩ := colD_le hD
      obtain ⟨_, q3⟩ := colD_some hD
      obtain ⟨q4, q5⟩ := (contains_colons ts _ c').mp q3
      have q6 : c' < k := by
        rcases hm with h | ⟨h, h'⟩
        · omega
        · by_cases hck : c' = k
          · rw [hck] at q5; exact absurd (docColon_facts q5).1 h'
          · omega
      rcases Nat.lt_trichotomy c c' with h | h | h
      · exact (one_colon ha p1 h q6 p4 q5).elim
      · rw [h]
      · exact (one_colon ha q1 h p2 q5 p4).elim
  | none =>
    cases hD : colD ts (colonsTo ts ts.length) deep i m with
    | none => rfl
    | some c' =>
      obtain ⟨q1, q2⟩ := colD_le hD
      obtain ⟨_, q3⟩ := colD_some hD
      obtain ⟨q4, q5⟩ := (contains_colons ts _ c').mp q3
      have q6 : c' < k := by
        rcases hm with h | ⟨h, h'⟩
        · omega
        · by_cases hck : c' = k
          · rw [hck] at q5; exact absurd (docColon_facts q5).1 h'
          · omega
      rw [colonAt_none hP q1 q6 q4] at q5
      cases q5
/-! ### A node, nodes -/
theorem open_same {ts : List Tok} {deep k : Nat} (hk : k < ts.length) (ho : openAt ts k = reps deep) : open_ ts deep k = !shutD ts deep k := by
  have hlt := (Above.same ho).lt (reps_blocks deep)
  rw [reps_len] at hlt
  have hl : (openAt ts k).length = deep := by rw [ho, reps_len]
  rw [Bool.eq_iff_iff, open_, shutD]
  simp only [hk, decide_true, Bool.true_and, Bool.not_eq_true', decide_eq_false_iff_not, Bool.and_eq_false_iff]
  rw [hlt]
  simp only [hl, true_and, not_true_eq_false, or_false]
  omega
theorem reps_block {ts : List Tok} {deep k : Nat} (hk : k < ts.length) (ho : openAt ts k = reps deep) (h : kindAt ts k = 19) : openAt ts (k + 1) = reps (deep + 1) := by
  have ht : ts[k]? = some ts[k] := List.getElem?_eq_getElem hk
  have hn : ¬ (reps deep).getLast? = some 19 := by
    rw [← ho]; exact not_last (by simp [Shuts])
  rw [openAt_succ ht, ← kindAt_some ht, h, nestStep, ho, if_neg hn, if_pos (by decide)]
  rw [show closes 19 = 20 from rfl, reps, reps, List.replicate_succ']
theorem reps_semi {ts : List Tok} {deep k : Nat} (hk : k < ts.length) (ho : openAt ts k = reps deep) (h : kindAt ts k = 17) : openAt ts (k + 1) = reps deep := by
  have ht : ts[k]? = some ts[k] := List.getElem?_eq_getElem hk
  have hn : ¬ (reps deep).getLast? = some 17 := by
    rw [← ho]; exact not_last (by simp [Shuts])
  rw [openAt_succ ht, ← kindAt_some ht, h, nestStep, ho, if_neg hn, if_neg (by decide)]
theorem reps_shut {ts : List Tok} {deep k : Nat} (hk : k < ts.length) (ho : openAt ts k = reps (deep + 1)) (h : kindAt ts k = 20) : openAt ts (k + 1) = reps deep := by
  have ht : ts[k]? = some ts[k] := List.getElem?_eq_getElem hk
  rw [openAt_succ ht, ← kindAt_some ht, h, nestStep, ho, if_pos (blocks_last (reps_blocks _) (by simp [reps]))]
  rw [reps, reps, List.replicate_succ', List.dropLast_concat]
def recOk (ts : List Tok) (cols : List Int) (n : Nat) : Prop := ∀ i deep, i ≤ ts.length → ts.length - i ≤ n → (i < ts.length → openAt ts i = reps deep) →
  nodesP ts cols n i deep = nodesD ts cols n i deep ∧ i ≤ (nodesD ts cols n i deep).2 ∧ (nodesD ts cols n i deep).2 ≤ ts.length ∧
  ((nodesD ts cols n i deep).2 < ts.length → openAt ts (nodesD ts cols n i deep).2 = reps deep ∧ shutD ts deep (nodesD ts cols n i deep).2 = true)
theorem node_same {ts : List Tok} {n i deep : Nat} (hr : recOk ts (colonsTo ts ts.length) n) (hi : i < ts.length) (ho : openAt ts i = reps deep) (hs : shutD ts deep i = false) (hf : ts.length - (i + 1) ≤ n) :
    nodeP ts (colonsTo ts ts.length) (nodesP ts (colonsTo ts ts.length) n) i deep = nodeD ts (colonsTo ts ts.length) (nodesD ts (colonsTo ts ts.length) n) i deep ∧
    i < (nodeD ts (colonsTo ts ts.length) (nodesD ts (colonsTo ts ts.length) n) i deep).2 ∧ (nodeD ts (colonsTo ts ts.length) (nodesD ts (colonsTo ts ts.length) n) i deep).2 ≤ ts.length ∧
    ((nodeD ts (colonsTo ts ts.length) (nodesD ts (colonsTo ts ts.length) n) i deep).2 < ts.length → openAt ts (nodeD ts (colonsTo ts ts.length) (nodesD ts (colonsTo ts ts.length) n) i deep).2 = reps deep) := by
  obtain ⟨e1, ha, hstop⟩ := scan_same ts deep (ts.length - i) i (by omega) (.same ho)
  have hle := endD_le ts deep (ts.length - i) i
  unfold nodeP nodeD
  simp only
  rw [e1]
  generalize endD ts deep (ts.length - i) i = k at ha hstop hle
  by_cases hk : k < ts.length
  · obtain ⟨hab, hlk, hkind⟩ := hstop hk
    have hok := hab.eq (by rw [reps_len]; exact hlk)
    have hop := open_same hk hok
    by_cases h19 : kindAt ts k = 19
    · have hsh : shutD ts deep k = false := by simp [shutD, h19]
      rw [hop, hsh, if_pos ⟨rfl, h19⟩, if_pos ⟨hk, h19⟩]
      obtain ⟨g1, g2, g3, g4⟩ := hr (k + 1) (deep + 1) (by omega) (by omega) fun _ => reps_block hk hok h19
      unfold ruleP
      simp only
      rw [g1]
      refine ⟨rfl, ?_, ?_, ?_⟩
      · split <;> omega
      · split <;> omega
      · split
        · rename_i hlt
          intro _
          obtain ⟨g5, g6⟩ := g4 hlt
          refine reps_shut hlt g5 ?_
          simp [shutD] at g6
          exact g6.1
        · intro h; omega
    · rw [if_neg fun h => h19 h.2, if_neg fun h => h19 h.2, if_pos hk]
      have hcol := colon_at_same (m := k - i + 1) ha (by omega) (by omega) (.inr ⟨rfl, by rcases hkind with h | h | h <;> omega⟩)
      unfold leafP leafD
      simp only
      by_cases h17 : kindAt ts k = 17
      · have hsh : shutD ts deep k = false := by simp [shutD, h17]
        rw [hop, hsh, hcol, h17]
        refine ⟨rfl, ?_, ?_, fun _ => ?_⟩
        · simp; omega
        · simp; omega
        · simpa using reps_semi hk hok h17
      · have h20 : kindAt ts k = 20 ∧ 0 < deep := by rcases hkind with h | h | h <;> first | exact h | omega
        have hsh : shutD ts deep k = true := by simp [shutD, h20.1, h20.2, hlk]
        have hne : k ≠ i := fun h => by rw [h, hs] at hsh; cases hsh
        rw [hop, hsh, hcol, decide_eq_false h17]
        refine ⟨rfl, ?_, ?_, fun _ => ?_⟩
        · simp; omega
        · simp; omega
        · simpa using hok
  · have hkn : k = ts.length := by omega
    have hop : open_ ts deep k = false := by simp [open_, hk]
    rw [hop, if_neg (by simp), if_neg fun h => hk h.1, if_neg hk]
    have hcol := colon_at_same (m := k - i) ha (by omega) (by omega) (.inl rfl)
    unfold leafP leafD
    simp only
    rw [hop, hcol]
    refine ⟨rfl, ?_, ?_, fun h => ?_⟩
    · simp; omega
    · simp; omega
    · simp at h; omega
theorem nodes_same (ts : List Tok) : ∀ n, recOk ts (colonsTo ts ts.length) n
  | 0 => fun i deep h1 h2 h3 => ⟨rfl, Nat.le_refl _, h1, fun h => by simp only [nodesD] at h; omega⟩
  | n + 1 => fun i deep h1 h2 h3 => by
    have ih := nodes_same ts n
    unfold nodesP nodesD
    by_cases hi : i < ts.length
    · have ho := h3 hi
      rw [open_same hi ho]
      cases hs : shutD ts deep i with
      | true => simp [hs, ho, hi, h1]
      | false =>
        obtain ⟨g1, g2, g3, g4⟩ := node_same ih hi ho hs (by omega)
        rw [if_pos (by rfl : (!false) = true), if_pos ⟨hi, rfl⟩]
        simp only
        rw [g1]
        obtain ⟨k1, k2, k3, k4⟩ := ih (nodeD ts (colonsTo ts ts.length) (nodesD ts (colonsTo ts ts.length) n) i deep).2 deep g3 (by omega) g4
        rw [k1]
        exact ⟨rfl, by omega, k3, k4⟩
    · rw [if_neg (by simp [open_, hi]), if_neg fun h => hi h.1]
      exact ⟨rfl, Nat.le_refl _, h1, fun h => absurd h hi⟩
theorem parse_same (ts : List Tok) : parseP ts = parseD ts := by
  rw [parseP, parseD, colons_same]
  rw [(nodes_same ts ts.length 0 0 (by omega) (by omega) fun _ => by simp [openAt, reps]).1]
end Go.Vx.Seat
end
/- The tokens of nodes. -/
section
open Go Go.Vx Go.Proofs
set_option linter.unusedSimpArgs false
set_option linter.unusedVariables false
set_option maxRecDepth 10000
set_option maxHeartbeats 8000000
namespace Go.Vx.Seat
attribute [local congr] Rg_at Rt_at Ro_at Ri_at Rc_at Rto_at Rtk_at Rtf_at Rti_at
attribute [local irreducible] Rg Rt Ro Ri Rc Rto Rtk Rtf Rti Rw Rl Rd Rcall Rtcall kf
theorem fn16 : nth C1.P.funcs.toList 16 = some Try.f16 := by kernel_rfl
theorem fn29 : nth C1.P.funcs.toList 29 = some Try.f29 := by kernel_rfl
theorem fn15 : nth C1.P.funcs.toList 15 = some Try.f15 := by kernel_rfl
theorem xbinI_eql (k k' : IntKind) (a b : Int) : xbinI .eql k k' a b = if k = k' then xint .eql k a b else none := rfl
theorem xbinI_neq (k k' : IntKind) (a b : Int) : xbinI .neq k k' a b = if k = k' then xint .neq k a b else none := rfl
theorem xbinI_lss (k k' : IntKind) (a b : Int) : xbinI .lss k k' a b = if k = k' then xint .lss k a b else none := rfl
theorem xbinI_leq (k k' : IntKind) (a b : Int) : xbinI .leq k k' a b = if k = k' then xint .leq k a b else none := rfl
theorem xbinI_gtr (k k' : IntKind) (a b : Int) : xbinI .gtr k k' a b = if k = k' then xint .gtr k a b else none := rfl
theorem xbinI_geq (k k' : IntKind) (a b : Int) : xbinI .geq k k' a b = if k = k' then xint .geq k a b else none := rfl
theorem xbinI_add (k k' : IntKind) (a b : Int) : xbinI .add k k' a b = if k = k' then xint .add k a b else none := rfl
theorem xbinI_sub (k k' : IntKind) (a b : Int) : xbinI .sub k k' a b = if k = k' then xint .sub k a b else none := rfl
theorem ySource_row (s : Sto) (sz z : Nat) (els : List (List PC)) : ySource s sz (.c (.p (.row z els))) = if z = sz then some els else none := rfl
theorem ySource_own (s : Sto) (sz id z o l : Nat) : ySource s sz (.c (.own id z o l)) = (match yrow s (.c (.own id z o l)) with | some (z, els) => if z = sz then some els else none | none => none) := rfl
theorem ySource_nil (s : Sto) (sz c : Nat) : ySource s sz (.c (.p (.d (.slice none 0 c)))) = some [] := rfl
def mkTok (k a : Int) : Tok := ⟨k, ⟨#[]⟩, ⟨#[]⟩, false, ⟨#[]⟩, ⟨#[]⟩, false, false, 0, 0, 0, 0, a⟩
mutual
def Nd.toks : Nd → List Tok
  | .mk k h t ks o s m a l => h ++ (if k = 2 then mkTok 16 a :: t else []) ++ (if k = 1 then (if o then [mkTok 19 a] else []) ++ toksOf ks ++ (if s then [mkTok 20 l] else []) else []) ++ (if m then [mkTok 17 l] else [])
def toksOf : List Nd → List Tok
  | [] => []
  | n :: ns => n.toks ++ toksOf ns
end
theorem toksOf_map : ∀ ns : List Nd, toksOf ns = (ns.map Nd.toks).flatten
  | [] => by rw [toksOf]; rfl
  | n :: ns => by rw [toksOf, toksOf_map ns]; rfl
theorem toksOf_snoc (ns : List Nd) (x : Nd) : toksOf (ns ++ [x]) = toksOf ns ++ x.toks := by simp [toksOf_map]
theorem toksOf_take {ns : List Nd} {i : Nat} {x : Nd} (h : ns[i]? = some x) : toksOf (ns.take (i + 1)) = toksOf (ns.take i) ++ x.toks := by
  rw [List.take_add_one, h]; exact toksOf_snoc _ _
theorem toksOf_le {ns : List Nd} {i : Nat} {x : Nd} (h : ns[i]? = some x) : (toksOf (ns.take i)).length + x.toks.length ≤ (toksOf ns).length := by
  have h1 : toksOf ns = toksOf (ns.take (i + 1)) ++ toksOf (ns.drop (i + 1)) := by
    rw [toksOf_map, toksOf_map, toksOf_map, ← List.flatten_append, ← List.map_append, List.take_append_drop]
  rw [← List.length_append, ← toksOf_take h, h1, List.length_append]
  omega
theorem bnd {n : Nat} (h : n ≤ 549755813888) : (n * 128 ≤ 70368744177664) = True := by simp; omega
theorem lit1 (k a : Int) : [[PC.d (.int .i64 k), .d (.string ⟨#[]⟩), .d (.string ⟨#[]⟩), .d (.bool false), .d (.string ⟨#[]⟩), .d (.string ⟨#[]⟩), .d (.bool false), .d (.bool false), .d (.int .i64 0), .d (.int .i64 0), .d (.int .i64 0), .d (.int .i64 0), .d (.int .i64 a)]] = [mkTok k a].map Tok.pc := rfl

/-- What a node's tokens are, by what is read of it. -/
def TokSpec : Nd → Prop
  | .mk k h t ks o s m a l => (toksOf ks).length ≤ 1000000 → PCall C1 16 [.c (.p (rN ks))] fun y => y = .c (.p (rT (toksOf ks)))
theorem toksD_list (ns : List Nd) (hl : ns.length ≤ 1000000) (hr : ∀ x, x ∈ ns → TokSpec x) (hb : (toksOf ns).length ≤ 1000000) : PCall C1 16 [.c (.p (rN ns))] fun y => y = .c (.p (rT (toksOf ns))) := by
  refine Pf (by rfl) (by rfl) fn16 (by rfl) ?_
  simp only [Try.f16, List.length_cons, List.length_nil, List.replicate, List.cons_append, List.nil_append]
  simp -implicitDefEqProofs only [↓yP, yT, Nat.reduceAdd, Nat.reduceMul, Nat.reduceSub, Nat.reduceLeDiff, Nat.reduceEqDiff, reduceCtorEq, Nat.reduceBEq]
  refine Rl_nil 3 13 (by decide) rfl ?_
  refine Rl_inv (fun d e s => ∃ i : Nat, e = [.c (.p (rN ns)), .c .top, .c .top, .c (.own 0 13 0 (toksOf (ns.take i)).length), yd (.int .i64 i), .c .top, .c .top, .c .top, .c .top, .c .top, .c .top, .c .top, .c .top, .c .top, .c .top, .c .top, .c .top, .c .top, .c .top, .c .top, .c .top, .c .top, .c .top, .c .top, .c .top, .c .top, .c .top, .c .top, .c .top, .c .top, .c .top, .c .top, .c .top, .c .top, .c .top, .c .top, .c .top, .c .top, .c .top, .c .top, .c .top, .c .top, .c .top, .c .top, .c .top, .c .top, .c .top, .c .top, .c .top, .c .top, .c .top, .c .top, .c .top, .c .top, .c .top, .c .top, .c .top, .c .top, .c .top, .c .top, .c .top, .c .top, .c .top, .c .top, .c .top] ∧ s = [.row 13 ((toksOf (ns.take i)).map Tok.pc)] ∧ i + d = ns.length) [true, false, false, true, true] ns.length [0] (by decide) (pinned_zero _) ⟨0, rfl, rfl, by omega⟩ ?_
  rintro d e s ⟨i, rfl, rfl, hd⟩
  by_cases hi : i < ns.length
  · obtain ⟨x, hx⟩ := get_lt hi
    have hxr := hr x (List.mem_of_getElem? hx)
    have hle := toksOf_le hx
    have hsn := toksOf_take hx
    obtain ⟨k0, h0, t0, ks0, o0, s0, m0, a0, l0⟩ := x
    simp only [TokSpec] at hxr
    have t1 : leI (ns.length : Nat) (i : Nat) = false := leI_false (by omega)
    have w1 : wrapK .i64 ((i : Int) + 1) = ((i + 1 : Nat) : Int) := wrap_succ (by omega)
    have hg := get_map (f := Nd.pc) hx
    rw [pc_mk] at hg
    simp only [Nd.toks, List.length_append] at hle
    generalize hac : toksOf (ns.take i) = acc at hle hsn ⊢
    by_cases q1 : k0 = 2
    · have f1 : eqI k0 2 = true := by rw [q1]; rfl
      have f2 : True := trivial
      subst q1
      simp only [if_true, List.length_cons] at hle
      cases m0 with
      | false =>
        simp -implicitDefEqProofs (disch := first | (intros; rename_i h; cases h; done) | ((try simp only [List.length_append, List.length_map, List.length_cons, List.length_nil]); omega)) only [↓yP, yT, Nat.reduceAdd, Nat.reduceMul, Nat.reduceSub, Nat.reduceLeDiff, Nat.reduceEqDiff, reduceCtorEq, Nat.reduceBEq, t1, hg, xbinI_eql, xbinI_neq, xbinI_lss, xbinI_leq, xbinI_gtr, xbinI_geq, xbinI_add, xbinI_sub, ySource_row, ySource_own, ySource_nil, bnd, List.take_of_length_le, List.length_append, f1, f2, w1]
        refine Rd_trace ?_
        simp -implicitDefEqProofs (disch := first | (intros; rename_i h; cases h; done) | ((try simp only [List.length_append, List.length_map, List.length_cons, List.length_nil]); omega)) only [↓yP, yT, Nat.reduceAdd, Nat.reduceMul, Nat.reduceSub, Nat.reduceLeDiff, Nat.reduceEqDiff, reduceCtorEq, Nat.reduceBEq, xbinI_eql, xbinI_neq, xbinI_lss, xbinI_leq, xbinI_gtr, xbinI_geq, xbinI_add, xbinI_sub, ySource_row, ySource_own, ySource_nil, bnd, List.take_of_length_le, List.length_append, f1, f2, w1]
        refine ⟨d - 1, [5], by omega, by decide, pinned_zero _, i + 1, ?_, ?_, by omega⟩
        · simp only [yE, Nat.reduceEqDiff, Nat.reduceAdd, reduceCtorEq, hsn, Nd.toks]
          try (simp [Nat.add_assoc] <;> omega)
        · simp only [yE, Nat.reduceEqDiff, Nat.reduceAdd, reduceCtorEq, hsn, Nd.toks, lit1]
          try simp
      | true =>
        simp -implicitDefEqProofs (disch := first | (intros; rename_i h; cases h; done) | ((try simp only [List.length_append, List.length_map, List.length_cons, List.length_nil]); omega)) only [↓yP, yT, Nat.reduceAdd, Nat.reduceMul, Nat.reduceSub, Nat.reduceLeDiff, Nat.reduceEqDiff, reduceCtorEq, Nat.reduceBEq, t1, hg, xbinI_eql, xbinI_neq, xbinI_lss, xbinI_leq, xbinI_gtr, xbinI_geq, xbinI_add, xbinI_sub, ySource_row, ySource_own, ySource_nil, bnd, List.take_of_length_le, List.length_append, f1, f2, w1]
        refine Rd_trace ?_
        simp -implicitDefEqProofs (disch := first | (intros; rename_i h; cases h; done) | ((try simp only [List.length_append, List.length_map, List.length_cons, List.length_nil]); omega)) only [↓yP, yT, Nat.reduceAdd, Nat.reduceMul, Nat.reduceSub, Nat.reduceLeDiff, Nat.reduceEqDiff, reduceCtorEq, Nat.reduceBEq, xbinI_eql, xbinI_neq, xbinI_lss, xbinI_leq, xbinI_gtr, xbinI_geq, xbinI_add, xbinI_sub, ySource_row, ySource_own, ySource_nil, bnd, List.take_of_length_le, List.length_append, f1, f2, w1]
        refine ⟨d - 1, [7], by omega, by decide, pinned_zero _, i + 1, ?_, ?_, by omega⟩
        · simp only [yE, Nat.reduceEqDiff, Nat.reduceAdd, reduceCtorEq, hsn, Nd.toks]
          try (simp [Nat.add_assoc] <;> omega)
        · simp only [yE, Nat.reduceEqDiff, Nat.reduceAdd, reduceCtorEq, hsn, Nd.toks, lit1]
          try simp
    have f1 : eqI k0 2 = false := eqI_false q1
    by_cases q2 : k0 = 1
    · have f2 : eqI k0 1 = true := by rw [q2]; rfl
      subst q2
      simp only [if_true, List.length_append] at hle
      have hks := hxr (by omega)
      rcases o0 with _ | _ <;> rcases s0 with _ | _ <;> rcases m0 with _ | _
      · skip
        simp -implicitDefEqProofs (disch := first | (intros; rename_i h; cases h; done) | ((try simp only [List.length_append, List.length_map, List.length_cons, List.length_nil]); omega)) only [↓yP, yT, Nat.reduceAdd, Nat.reduceMul, Nat.reduceSub, Nat.reduceLeDiff, Nat.reduceEqDiff, reduceCtorEq, Nat.reduceBEq, t1, hg, xbinI_eql, xbinI_neq, xbinI_lss, xbinI_leq, xbinI_gtr, xbinI_geq, xbinI_add, xbinI_sub, ySource_row, ySource_own, ySource_nil, bnd, List.take_of_length_le, List.length_append, f1, f2, w1]
        refine Rcall_pure hks (by rfl) fun y hy => ?_
        subst hy
        simp -implicitDefEqProofs (disch := first | (intros; rename_i h; cases h; done) | ((try simp only [List.length_append, List.length_map, List.length_cons, List.length_nil]); omega)) only [↓yP, yT, Nat.reduceAdd, Nat.reduceMul, Nat.reduceSub, Nat.reduceLeDiff, Nat.reduceEqDiff, reduceCtorEq, Nat.reduceBEq, xbinI_eql, xbinI_neq, xbinI_lss, xbinI_leq, xbinI_gtr, xbinI_geq, xbinI_add, xbinI_sub, ySource_row, ySource_own, ySource_nil, bnd, List.take_of_length_le, List.length_append, f1, f2, w1]
        refine ⟨d - 1, [3], by omega, by decide, pinned_zero _, i + 1, ?_, ?_, by omega⟩
        · simp only [yE, Nat.reduceEqDiff, Nat.reduceAdd, reduceCtorEq, hsn, Nd.toks]
          try (simp [Nat.add_assoc] <;> omega)
        · simp only [yE, Nat.reduceEqDiff, Nat.reduceAdd, reduceCtorEq, hsn, Nd.toks, lit1]
          try simp
      · skip
        simp -implicitDefEqProofs (disch := first | (intros; rename_i h; cases h; done) | ((try simp only [List.length_append, List.length_map, List.length_cons, List.length_nil]); omega)) only [↓yP, yT, Nat.reduceAdd, Nat.reduceMul, Nat.reduceSub, Nat.reduceLeDiff, Nat.reduceEqDiff, reduceCtorEq, Nat.reduceBEq, t1, hg, xbinI_eql, xbinI_neq, xbinI_lss, xbinI_leq, xbinI_gtr, xbinI_geq, xbinI_add, xbinI_sub, ySource_row, ySource_own, ySource_nil, bnd, List.take_of_length_le, List.length_append, f1, f2, w1]
        refine Rcall_pure hks (by rfl) fun y hy => ?_
        subst hy
        simp -implicitDefEqProofs (disch := first | (intros; rename_i h; cases h; done) | ((try simp only [List.length_append, List.length_map, List.length_cons, List.length_nil]); omega)) only [↓yP, yT, Nat.reduceAdd, Nat.reduceMul, Nat.reduceSub, Nat.reduceLeDiff, Nat.reduceEqDiff, reduceCtorEq, Nat.reduceBEq, xbinI_eql, xbinI_neq, xbinI_lss, xbinI_leq, xbinI_gtr, xbinI_geq, xbinI_add, xbinI_sub, ySource_row, ySource_own, ySource_nil, bnd, List.take_of_length_le, List.length_append, f1, f2, w1]
        refine ⟨d - 1, [5], by omega, by decide, pinned_zero _, i + 1, ?_, ?_, by omega⟩
        · simp only [yE, Nat.reduceEqDiff, Nat.reduceAdd, reduceCtorEq, hsn, Nd.toks]
          try (simp [Nat.add_assoc] <;> omega)
        · simp only [yE, Nat.reduceEqDiff, Nat.reduceAdd, reduceCtorEq, hsn, Nd.toks, lit1]
          try simp
      · skip
        simp -implicitDefEqProofs (disch := first | (intros; rename_i h; cases h; done) | ((try simp only [List.length_append, List.length_map, List.length_cons, List.length_nil]); omega)) only [↓yP, yT, Nat.reduceAdd, Nat.reduceMul, Nat.reduceSub, Nat.reduceLeDiff, Nat.reduceEqDiff, reduceCtorEq, Nat.reduceBEq, t1, hg, xbinI_eql, xbinI_neq, xbinI_lss, xbinI_leq, xbinI_gtr, xbinI_geq, xbinI_add, xbinI_sub, ySource_row, ySource_own, ySource_nil, bnd, List.take_of_length_le, List.length_append, f1, f2, w1]
        refine Rcall_pure hks (by rfl) fun y hy => ?_
        subst hy
        simp -implicitDefEqProofs (disch := first | (intros; rename_i h; cases h; done) | ((try simp only [List.length_append, List.length_map, List.length_cons, List.length_nil]); omega)) only [↓yP, yT, Nat.reduceAdd, Nat.reduceMul, Nat.reduceSub, Nat.reduceLeDiff, Nat.reduceEqDiff, reduceCtorEq, Nat.reduceBEq, xbinI_eql, xbinI_neq, xbinI_lss, xbinI_leq, xbinI_gtr, xbinI_geq, xbinI_add, xbinI_sub, ySource_row, ySource_own, ySource_nil, bnd, List.take_of_length_le, List.length_append, f1, f2, w1]
        refine ⟨d - 1, [5], by omega, by decide, pinned_zero _, i + 1, ?_, ?_, by omega⟩
        · simp only [yE, Nat.reduceEqDiff, Nat.reduceAdd, reduceCtorEq, hsn, Nd.toks]
          try (simp [Nat.add_assoc] <;> omega)
        · simp only [yE, Nat.reduceEqDiff, Nat.reduceAdd, reduceCtorEq, hsn, Nd.toks, lit1]
          try simp
      · skip
        simp -implicitDefEqProofs (disch := first | (intros; rename_i h; cases h; done) | ((try simp only [List.length_append, List.length_map, List.length_cons, List.length_nil]); omega)) only [↓yP, yT, Nat.reduceAdd, Nat.reduceMul, Nat.reduceSub, Nat.reduceLeDiff, Nat.reduceEqDiff, reduceCtorEq, Nat.reduceBEq, t1, hg, xbinI_eql, xbinI_neq, xbinI_lss, xbinI_leq, xbinI_gtr, xbinI_geq, xbinI_add, xbinI_sub, ySource_row, ySource_own, ySource_nil, bnd, List.take_of_length_le, List.length_append, f1, f2, w1]
        refine Rcall_pure hks (by rfl) fun y hy => ?_
        subst hy
        simp -implicitDefEqProofs (disch := first | (intros; rename_i h; cases h; done) | ((try simp only [List.length_append, List.length_map, List.length_cons, List.length_nil]); omega)) only [↓yP, yT, Nat.reduceAdd, Nat.reduceMul, Nat.reduceSub, Nat.reduceLeDiff, Nat.reduceEqDiff, reduceCtorEq, Nat.reduceBEq, xbinI_eql, xbinI_neq, xbinI_lss, xbinI_leq, xbinI_gtr, xbinI_geq, xbinI_add, xbinI_sub, ySource_row, ySource_own, ySource_nil, bnd, List.take_of_length_le, List.length_append, f1, f2, w1]
        refine ⟨d - 1, [7], by omega, by decide, pinned_zero _, i + 1, ?_, ?_, by omega⟩
        · simp only [yE, Nat.reduceEqDiff, Nat.reduceAdd, reduceCtorEq, hsn, Nd.toks]
          try (simp [Nat.add_assoc] <;> omega)
        · simp only [yE, Nat.reduceEqDiff, Nat.reduceAdd, reduceCtorEq, hsn, Nd.toks, lit1]
          try simp
      · skip
        simp -implicitDefEqProofs (disch := first | (intros; rename_i h; cases h; done) | ((try simp only [List.length_append, List.length_map, List.length_cons, List.length_nil]); omega)) only [↓yP, yT, Nat.reduceAdd, Nat.reduceMul, Nat.reduceSub, Nat.reduceLeDiff, Nat.reduceEqDiff, reduceCtorEq, Nat.reduceBEq, t1, hg, xbinI_eql, xbinI_neq, xbinI_lss, xbinI_leq, xbinI_gtr, xbinI_geq, xbinI_add, xbinI_sub, ySource_row, ySource_own, ySource_nil, bnd, List.take_of_length_le, List.length_append, f1, f2, w1]
        refine Rcall_pure hks (by rfl) fun y hy => ?_
        subst hy
        simp -implicitDefEqProofs (disch := first | (intros; rename_i h; cases h; done) | ((try simp only [List.length_append, List.length_map, List.length_cons, List.length_nil]); omega)) only [↓yP, yT, Nat.reduceAdd, Nat.reduceMul, Nat.reduceSub, Nat.reduceLeDiff, Nat.reduceEqDiff, reduceCtorEq, Nat.reduceBEq, xbinI_eql, xbinI_neq, xbinI_lss, xbinI_leq, xbinI_gtr, xbinI_geq, xbinI_add, xbinI_sub, ySource_row, ySource_own, ySource_nil, bnd, List.take_of_length_le, List.length_append, f1, f2, w1]
        refine ⟨d - 1, [5], by omega, by decide, pinned_zero _, i + 1, ?_, ?_, by omega⟩
        · simp only [yE, Nat.reduceEqDiff, Nat.reduceAdd, reduceCtorEq, hsn, Nd.toks]
          try (simp [Nat.add_assoc] <;> omega)
        · simp only [yE, Nat.reduceEqDiff, Nat.reduceAdd, reduceCtorEq, hsn, Nd.toks, lit1]
          try simp
      · skip
        simp -implicitDefEqProofs (disch := first | (intros; rename_i h; cases h; done) | ((try simp only [List.length_append, List.length_map, List.length_cons, List.length_nil]); omega)) only [↓yP, yT, Nat.reduceAdd, Nat.reduceMul, Nat.reduceSub, Nat.reduceLeDiff, Nat.reduceEqDiff, reduceCtorEq, Nat.reduceBEq, t1, hg, xbinI_eql, xbinI_neq, xbinI_lss, xbinI_leq, xbinI_gtr, xbinI_geq, xbinI_add, xbinI_sub, ySource_row, ySource_own, ySource_nil, bnd, List.take_of_length_le, List.length_append, f1, f2, w1]
        refine Rcall_pure hks (by rfl) fun y hy => ?_
        subst hy
        simp -implicitDefEqProofs (disch := first | (intros; rename_i h; cases h; done) | ((try simp only [List.length_append, List.length_map, List.length_cons, List.length_nil]); omega)) only [↓yP, yT, Nat.reduceAdd, Nat.reduceMul, Nat.reduceSub, Nat.reduceLeDiff, Nat.reduceEqDiff, reduceCtorEq, Nat.reduceBEq, xbinI_eql, xbinI_neq, xbinI_lss, xbinI_leq, xbinI_gtr, xbinI_geq, xbinI_add, xbinI_sub, ySource_row, ySource_own, ySource_nil, bnd, List.take_of_length_le, List.length_append, f1, f2, w1]
        refine ⟨d - 1, [7], by omega, by decide, pinned_zero _, i + 1, ?_, ?_, by omega⟩
        · simp only [yE, Nat.reduceEqDiff, Nat.reduceAdd, reduceCtorEq, hsn, Nd.toks]
          try (simp [Nat.add_assoc] <;> omega)
        · simp only [yE, Nat.reduceEqDiff, Nat.reduceAdd, reduceCtorEq, hsn, Nd.toks, lit1]
          try simp
      · skip
        simp -implicitDefEqProofs (disch := first | (intros; rename_i h; cases h; done) | ((try simp only [List.length_append, List.length_map, List.length_cons, List.length_nil]); omega)) only [↓yP, yT, Nat.reduceAdd, Nat.reduceMul, Nat.reduceSub, Nat.reduceLeDiff, Nat.reduceEqDiff, reduceCtorEq, Nat.reduceBEq, t1, hg, xbinI_eql, xbinI_neq, xbinI_lss, xbinI_leq, xbinI_gtr, xbinI_geq, xbinI_add, xbinI_sub, ySource_row, ySource_own, ySource_nil, bnd, List.take_of_length_le, List.length_append, f1, f2, w1]
        refine Rcall_pure hks (by rfl) fun y hy => ?_
        subst hy
        simp -implicitDefEqProofs (disch := first | (intros; rename_i h; cases h; done) | ((try simp only [List.length_append, List.length_map, List.length_cons, List.length_nil]); omega)) only [↓yP, yT, Nat.reduceAdd, Nat.reduceMul, Nat.reduceSub, Nat.reduceLeDiff, Nat.reduceEqDiff, reduceCtorEq, Nat.reduceBEq, xbinI_eql, xbinI_neq, xbinI_lss, xbinI_leq, xbinI_gtr, xbinI_geq, xbinI_add, xbinI_sub, ySource_row, ySource_own, ySource_nil, bnd, List.take_of_length_le, List.length_append, f1, f2, w1]
        refine ⟨d - 1, [7], by omega, by decide, pinned_zero _, i + 1, ?_, ?_, by omega⟩
        · simp only [yE, Nat.reduceEqDiff, Nat.reduceAdd, reduceCtorEq, hsn, Nd.toks]
          try (simp [Nat.add_assoc] <;> omega)
        · simp only [yE, Nat.reduceEqDiff, Nat.reduceAdd, reduceCtorEq, hsn, Nd.toks, lit1]
          try simp
      · skip
        simp -implicitDefEqProofs (disch := first | (intros; rename_i h; cases h; done) | ((try simp only [List.length_append, List.length_map, List.length_cons, List.length_nil]); omega)) only [↓yP, yT, Nat.reduceAdd, Nat.reduceMul, Nat.reduceSub, Nat.reduceLeDiff, Nat.reduceEqDiff, reduceCtorEq, Nat.reduceBEq, t1, hg, xbinI_eql, xbinI_neq, xbinI_lss, xbinI_leq, xbinI_gtr, xbinI_geq, xbinI_add, xbinI_sub, ySource_row, ySource_own, ySource_nil, bnd, List.take_of_length_le, List.length_append, f1, f2, w1]
        refine Rcall_pure hks (by rfl) fun y hy => ?_
        subst hy
        simp -implicitDefEqProofs (disch := first | (intros; rename_i h; cases h; done) | ((try simp only [List.length_append, List.length_map, List.length_cons, List.length_nil]); omega)) only [↓yP, yT, Nat.reduceAdd, Nat.reduceMul, Nat.reduceSub, Nat.reduceLeDiff, Nat.reduceEqDiff, reduceCtorEq, Nat.reduceBEq, xbinI_eql, xbinI_neq, xbinI_lss, xbinI_leq, xbinI_gtr, xbinI_geq, xbinI_add, xbinI_sub, ySource_row, ySource_own, ySource_nil, bnd, List.take_of_length_le, List.length_append, f1, f2, w1]
        refine ⟨d - 1, [9], by omega, by decide, pinned_zero _, i + 1, ?_, ?_, by omega⟩
        · simp only [yE, Nat.reduceEqDiff, Nat.reduceAdd, reduceCtorEq, hsn, Nd.toks]
          try (simp [Nat.add_assoc] <;> omega)
        · simp only [yE, Nat.reduceEqDiff, Nat.reduceAdd, reduceCtorEq, hsn, Nd.toks, lit1]
          try simp
    · have f2 : eqI k0 1 = false := eqI_false q2
      rw [if_neg q1, if_neg q2] at hle
      cases m0 with
      | false =>
        simp -implicitDefEqProofs (disch := first | (intros; rename_i h; cases h; done) | ((try simp only [List.length_append, List.length_map, List.length_cons, List.length_nil]); omega)) only [↓yP, yT, Nat.reduceAdd, Nat.reduceMul, Nat.reduceSub, Nat.reduceLeDiff, Nat.reduceEqDiff, reduceCtorEq, Nat.reduceBEq, t1, hg, xbinI_eql, xbinI_neq, xbinI_lss, xbinI_leq, xbinI_gtr, xbinI_geq, xbinI_add, xbinI_sub, ySource_row, ySource_own, ySource_nil, bnd, List.take_of_length_le, List.length_append, f1, f2, w1]
        refine ⟨d - 1, [2], by omega, by decide, pinned_zero _, i + 1, ?_, ?_, by omega⟩
        · simp only [yE, Nat.reduceEqDiff, Nat.reduceAdd, reduceCtorEq, hsn, Nd.toks, if_neg q1, if_neg q2]
          try (simp [Nat.add_assoc] <;> omega)
        · simp only [yE, Nat.reduceEqDiff, Nat.reduceAdd, reduceCtorEq, hsn, Nd.toks, lit1, if_neg q1, if_neg q2]
          try simp
      | true =>
        simp -implicitDefEqProofs (disch := first | (intros; rename_i h; cases h; done) | ((try simp only [List.length_append, List.length_map, List.length_cons, List.length_nil]); omega)) only [↓yP, yT, Nat.reduceAdd, Nat.reduceMul, Nat.reduceSub, Nat.reduceLeDiff, Nat.reduceEqDiff, reduceCtorEq, Nat.reduceBEq, t1, hg, xbinI_eql, xbinI_neq, xbinI_lss, xbinI_leq, xbinI_gtr, xbinI_geq, xbinI_add, xbinI_sub, ySource_row, ySource_own, ySource_nil, bnd, List.take_of_length_le, List.length_append, f1, f2, w1]
        refine ⟨d - 1, [4], by omega, by decide, pinned_zero _, i + 1, ?_, ?_, by omega⟩
        · simp only [yE, Nat.reduceEqDiff, Nat.reduceAdd, reduceCtorEq, hsn, Nd.toks, if_neg q1, if_neg q2]
          try (simp [Nat.add_assoc] <;> omega)
        · simp only [yE, Nat.reduceEqDiff, Nat.reduceAdd, reduceCtorEq, hsn, Nd.toks, lit1, if_neg q1, if_neg q2]
          try simp
  · have t1 : leI (ns.length : Nat) (i : Nat) = true := leI_true (by omega)
    have : i = ns.length := by omega
    subst this
    simp -implicitDefEqProofs only [↓yP, yT, Nat.reduceAdd, Nat.reduceMul, Nat.reduceSub, Nat.reduceLeDiff, Nat.reduceEqDiff, reduceCtorEq, Nat.reduceBEq, t1, List.take_length]
end Go.Vx.Seat
end
/- The tokens of nodes, behind others: the program's. -/
section
open Go Go.Vx Go.Proofs
set_option linter.unusedSimpArgs false
set_option linter.unusedVariables false
set_option maxRecDepth 10000
set_option maxHeartbeats 8000000
namespace Go.Vx.Seat
attribute [local congr] Rg_at Rt_at Ro_at Ri_at Rc_at Rto_at Rtk_at Rtf_at Rti_at
attribute [local irreducible] Rg Rt Ro Ri Rc Rto Rtk Rtf Rti Rw Rl Rd Rcall Rtcall kf
def TokSpecP : Nd → Prop
  | .mk k h t ks o s m a l => ∀ out : List Tok, out.length + (toksOf ks).length ≤ 2000000 → YC C1 false 29 [.c (.own 0 13 0 (out.map Tok.pc).length), .c (.p (rN ks))] [.row 13 (out.map Tok.pc)] (KOwn 13 ((out ++ toksOf ks).map Tok.pc))
theorem toksP_list (ns : List Nd) (hl : ns.length ≤ 1000000) (hr : ∀ x, x ∈ ns → TokSpecP x) (out : List Tok) (hb : out.length + (toksOf ns).length ≤ 2000000) :
    YC C1 false 29 [.c (.own 0 13 0 (out.map Tok.pc).length), .c (.p (rN ns))] [.row 13 (out.map Tok.pc)] (KOwn 13 ((out ++ toksOf ns).map Tok.pc)) := by
  refine Yf0 [] (by rfl) (by rfl) fn29 (by rfl) ?_
  simp only [Try.f29, List.length_cons, List.length_nil, List.replicate, List.cons_append, List.nil_append]
  simp -implicitDefEqProofs only [↓yP, yT, Nat.reduceAdd, Nat.reduceMul, Nat.reduceSub, Nat.reduceLeDiff, Nat.reduceEqDiff, reduceCtorEq, Nat.reduceBEq]
  refine Rl_alias 0 0 rfl rfl ?_
  refine Rl_inv (fun d e s => ∃ i : Nat, e = [.c (.own 1 13 0 (out ++ toksOf (ns.take i)).length), .c .top, .c .top, .c .top, .c .top, .c .top, .c .top, .c (.p (rN ns)), yd (.int .i64 ns.length), yd (.int .i64 i), .c .top, .c .top, .c .top, .c .top, .c .top, .c .top, .c .top, .c .top, .c .top, .c .top, .c .top, .c .top, .c .top, .c .top, .c .top, .c .top, .c .top, .c .top, .c .top, .c .top, .c .top, .c .top, .c .top, .c .top, .c .top, .c .top, .c .top, .c .top, .c .top, .c .top, .c .top, .c .top, .c .top, .c .top, .c .top, .c .top, .c .top, .c .top, .c .top, .c .top, .c .top, .c .top, .c .top, .c .top, .c .top, .c .top, .c .top, .c .top, .c .top, .c .top, .c .top, .c .top, .c .top, .c .top, .c .top, .c .top, .c .top, .c .top, .c .top, .c .top, .c .top, .c .top, .c .top] ∧ s = [.dead, .row 13 ((out ++ toksOf (ns.take i)).map Tok.pc)] ∧ i + d = ns.length) [true, false, false, false, false, false, false, true, true, true] ns.length [0, 1] (by decide) (pinned_one _) ⟨0, by simp [toksOf]; rfl, by simp [toksOf]; rfl, by omega⟩ ?_
  rintro d e s ⟨i, rfl, rfl, hd⟩
  by_cases hi : i < ns.length
  · obtain ⟨x, hx⟩ := get_lt hi
    have hxr := hr x (List.mem_of_getElem? hx)
    have hle := toksOf_le hx
    have hsn : out ++ toksOf (ns.take (i + 1)) = (out ++ toksOf (ns.take i)) ++ x.toks := by rw [toksOf_take hx, List.append_assoc]
    have hle : (out ++ toksOf (ns.take i)).length + x.toks.length ≤ 2000000 := by rw [List.length_append]; omega
    obtain ⟨k0, h0, t0, ks0, o0, s0, m0, a0, l0⟩ := x
    simp only [TokSpecP] at hxr
    have t1 : leI (ns.length : Nat) (i : Nat) = false := leI_false (by omega)
    have w1 : wrapK .i64 ((i : Int) + 1) = ((i + 1 : Nat) : Int) := wrap_succ (by omega)
    have hg := get_map (f := Nd.pc) hx
    rw [pc_mk] at hg
    generalize hac : out ++ toksOf (ns.take i) = acc at hle hsn ⊢
    have hsl : out.length + (toksOf (ns.take (i + 1))).length = (acc ++ (Nd.mk k0 h0 t0 ks0 o0 s0 m0 a0 l0).toks).length := by rw [← List.length_append, hsn]
    have hsm : out.map Tok.pc ++ (toksOf (ns.take (i + 1))).map Tok.pc = (acc ++ (Nd.mk k0 h0 t0 ks0 o0 s0 m0 a0 l0).toks).map Tok.pc := by rw [← List.map_append, hsn]
    simp only [Nd.toks, List.length_append] at hle
    by_cases q1 : k0 = 2
    · have f1 : eqI k0 2 = true := by rw [q1]; rfl
      have f2 : eqI k0 1 = false := by rw [q1]; rfl
      subst q1
      simp only [if_true, List.length_cons] at hle
      cases m0 with
      | false =>
        simp -implicitDefEqProofs (disch := first | (intros; rename_i h; cases h; done) | ((try simp only [List.length_append, List.length_map, List.length_cons, List.length_nil]); omega)) only [↓yP, yT, Nat.reduceAdd, Nat.reduceMul, Nat.reduceSub, Nat.reduceLeDiff, Nat.reduceEqDiff, reduceCtorEq, Nat.reduceBEq, t1, hg, xbinI_eql, xbinI_neq, xbinI_lss, xbinI_leq, xbinI_gtr, xbinI_geq, xbinI_add, xbinI_sub, ySource_row, ySource_own, ySource_nil, bnd, List.take_of_length_le, List.length_append, f1, f2, w1]
        refine ⟨d - 1, [0, 6], by omega, by decide, pinned_one _, i + 1, ?_, ?_, by omega⟩
        · rw [hsl]
          simp only [yE, Nat.reduceEqDiff, Nat.reduceAdd, reduceCtorEq, Nd.toks]
          try (simp [Nat.add_assoc] <;> omega)
        · rw [hsn]
          simp only [yE, Nat.reduceEqDiff, Nat.reduceAdd, reduceCtorEq, Nd.toks, lit1]
          try simp
      | true =>
        simp -implicitDefEqProofs (disch := first | (intros; rename_i h; cases h; done) | ((try simp only [List.length_append, List.length_map, List.length_cons, List.length_nil]); omega)) only [↓yP, yT, Nat.reduceAdd, Nat.reduceMul, Nat.reduceSub, Nat.reduceLeDiff, Nat.reduceEqDiff, reduceCtorEq, Nat.reduceBEq, t1, hg, xbinI_eql, xbinI_neq, xbinI_lss, xbinI_leq, xbinI_gtr, xbinI_geq, xbinI_add, xbinI_sub, ySource_row, ySource_own, ySource_nil, bnd, List.take_of_length_le, List.length_append, f1, f2, w1]
        refine ⟨d - 1, [0, 8], by omega, by decide, pinned_one _, i + 1, ?_, ?_, by omega⟩
        · rw [hsl]
          simp only [yE, Nat.reduceEqDiff, Nat.reduceAdd, reduceCtorEq, Nd.toks]
          try (simp [Nat.add_assoc] <;> omega)
        · rw [hsn]
          simp only [yE, Nat.reduceEqDiff, Nat.reduceAdd, reduceCtorEq, Nd.toks, lit1]
          try simp
    have f1 : eqI k0 2 = false := eqI_false q1
    by_cases q2 : k0 = 1
    · have f2 : eqI k0 1 = true := by rw [q2]; rfl
      subst q2
      simp only [if_true, List.length_append] at hle
      rcases o0 with _ | _ <;> rcases s0 with _ | _ <;> rcases m0 with _ | _
      · simp -implicitDefEqProofs (disch := first | (intros; rename_i h; cases h; done) | ((try simp only [List.length_append, List.length_map, List.length_cons, List.length_nil]); omega)) only [↓yP, yT, Nat.reduceAdd, Nat.reduceMul, Nat.reduceSub, Nat.reduceLeDiff, Nat.reduceEqDiff, reduceCtorEq, Nat.reduceBEq, t1, hg, xbinI_eql, xbinI_neq, xbinI_lss, xbinI_leq, xbinI_gtr, xbinI_geq, xbinI_add, xbinI_sub, ySource_row, ySource_own, ySource_nil, bnd, List.take_of_length_le, List.length_append, f1, f2, w1]
        have hks := hxr (acc ++ h0) (by simp at hle ⊢; omega)
        refine Rcall_own' (els := (acc ++ h0).map Tok.pc) (n' := (acc ++ h0 ++ toksOf ks0).length) (by simp) (by simp) (by rfl) (by first | (simp [lit1]; done) | (simp [lit1]; omega)) hks ?_
        simp -implicitDefEqProofs (disch := first | (intros; rename_i h; cases h; done) | ((try simp only [List.length_append, List.length_map, List.length_cons, List.length_nil]); omega)) only [↓yP, yT, Nat.reduceAdd, Nat.reduceMul, Nat.reduceSub, Nat.reduceLeDiff, Nat.reduceEqDiff, reduceCtorEq, Nat.reduceBEq, List.map_append, xbinI_eql, xbinI_neq, xbinI_lss, xbinI_leq, xbinI_gtr, xbinI_geq, xbinI_add, xbinI_sub, ySource_row, ySource_own, ySource_nil, bnd, List.take_of_length_le, List.length_append, f1, f2, w1]
        refine ⟨d - 1, [0, 4], by omega, by decide, pinned_one _, i + 1, ?_, ?_, by omega⟩
        · rw [hsl]
          simp only [yE, Nat.reduceEqDiff, Nat.reduceAdd, reduceCtorEq, Nd.toks]
          try (simp [Nat.add_assoc] <;> omega)
        · rw [hsm]
          simp only [yE, Nat.reduceEqDiff, Nat.reduceAdd, reduceCtorEq, Nd.toks, lit1]
          try simp
      · simp -implicitDefEqProofs (disch := first | (intros; rename_i h; cases h; done) | ((try simp only [List.length_append, List.length_map, List.length_cons, List.length_nil]); omega)) only [↓yP, yT, Nat.reduceAdd, Nat.reduceMul, Nat.reduceSub, Nat.reduceLeDiff, Nat.reduceEqDiff, reduceCtorEq, Nat.reduceBEq, t1, hg, xbinI_eql, xbinI_neq, xbinI_lss, xbinI_leq, xbinI_gtr, xbinI_geq, xbinI_add, xbinI_sub, ySource_row, ySource_own, ySource_nil, bnd, List.take_of_length_le, List.length_append, f1, f2, w1]
        have hks := hxr (acc ++ h0) (by simp at hle ⊢; omega)
        refine Rcall_own' (els := (acc ++ h0).map Tok.pc) (n' := (acc ++ h0 ++ toksOf ks0).length) (by simp) (by simp) (by rfl) (by first | (simp [lit1]; done) | (simp [lit1]; omega)) hks ?_
        simp -implicitDefEqProofs (disch := first | (intros; rename_i h; cases h; done) | ((try simp only [List.length_append, List.length_map, List.length_cons, List.length_nil]); omega)) only [↓yP, yT, Nat.reduceAdd, Nat.reduceMul, Nat.reduceSub, Nat.reduceLeDiff, Nat.reduceEqDiff, reduceCtorEq, Nat.reduceBEq, List.map_append, xbinI_eql, xbinI_neq, xbinI_lss, xbinI_leq, xbinI_gtr, xbinI_geq, xbinI_add, xbinI_sub, ySource_row, ySource_own, ySource_nil, bnd, List.take_of_length_le, List.length_append, f1, f2, w1]
        refine ⟨d - 1, [0, 6], by omega, by decide, pinned_one _, i + 1, ?_, ?_, by omega⟩
        · rw [hsl]
          simp only [yE, Nat.reduceEqDiff, Nat.reduceAdd, reduceCtorEq, Nd.toks]
          try (simp [Nat.add_assoc] <;> omega)
        · rw [hsm]
          simp only [yE, Nat.reduceEqDiff, Nat.reduceAdd, reduceCtorEq, Nd.toks, lit1]
          try simp
      · simp -implicitDefEqProofs (disch := first | (intros; rename_i h; cases h; done) | ((try simp only [List.length_append, List.length_map, List.length_cons, List.length_nil]); omega)) only [↓yP, yT, Nat.reduceAdd, Nat.reduceMul, Nat.reduceSub, Nat.reduceLeDiff, Nat.reduceEqDiff, reduceCtorEq, Nat.reduceBEq, t1, hg, xbinI_eql, xbinI_neq, xbinI_lss, xbinI_leq, xbinI_gtr, xbinI_geq, xbinI_add, xbinI_sub, ySource_row, ySource_own, ySource_nil, bnd, List.take_of_length_le, List.length_append, f1, f2, w1]
        have hks := hxr (acc ++ h0) (by simp at hle ⊢; omega)
        refine Rcall_own' (els := (acc ++ h0).map Tok.pc) (n' := (acc ++ h0 ++ toksOf ks0).length) (by simp) (by simp) (by rfl) (by first | (simp [lit1]; done) | (simp [lit1]; omega)) hks ?_
        simp -implicitDefEqProofs (disch := first | (intros; rename_i h; cases h; done) | ((try simp only [List.length_append, List.length_map, List.length_cons, List.length_nil]); omega)) only [↓yP, yT, Nat.reduceAdd, Nat.reduceMul, Nat.reduceSub, Nat.reduceLeDiff, Nat.reduceEqDiff, reduceCtorEq, Nat.reduceBEq, List.map_append, xbinI_eql, xbinI_neq, xbinI_lss, xbinI_leq, xbinI_gtr, xbinI_geq, xbinI_add, xbinI_sub, ySource_row, ySource_own, ySource_nil, bnd, List.take_of_length_le, List.length_append, f1, f2, w1]
        refine ⟨d - 1, [0, 6], by omega, by decide, pinned_one _, i + 1, ?_, ?_, by omega⟩
        · rw [hsl]
          simp only [yE, Nat.reduceEqDiff, Nat.reduceAdd, reduceCtorEq, Nd.toks]
          try (simp [Nat.add_assoc] <;> omega)
        · rw [hsm]
          simp only [yE, Nat.reduceEqDiff, Nat.reduceAdd, reduceCtorEq, Nd.toks, lit1]
          try simp
      · simp -implicitDefEqProofs (disch := first | (intros; rename_i h; cases h; done) | ((try simp only [List.length_append, List.length_map, List.length_cons, List.length_nil]); omega)) only [↓yP, yT, Nat.reduceAdd, Nat.reduceMul, Nat.reduceSub, Nat.reduceLeDiff, Nat.reduceEqDiff, reduceCtorEq, Nat.reduceBEq, t1, hg, xbinI_eql, xbinI_neq, xbinI_lss, xbinI_leq, xbinI_gtr, xbinI_geq, xbinI_add, xbinI_sub, ySource_row, ySource_own, ySource_nil, bnd, List.take_of_length_le, List.length_append, f1, f2, w1]
        have hks := hxr (acc ++ h0) (by simp at hle ⊢; omega)
        refine Rcall_own' (els := (acc ++ h0).map Tok.pc) (n' := (acc ++ h0 ++ toksOf ks0).length) (by simp) (by simp) (by rfl) (by first | (simp [lit1]; done) | (simp [lit1]; omega)) hks ?_
        simp -implicitDefEqProofs (disch := first | (intros; rename_i h; cases h; done) | ((try simp only [List.length_append, List.length_map, List.length_cons, List.length_nil]); omega)) only [↓yP, yT, Nat.reduceAdd, Nat.reduceMul, Nat.reduceSub, Nat.reduceLeDiff, Nat.reduceEqDiff, reduceCtorEq, Nat.reduceBEq, List.map_append, xbinI_eql, xbinI_neq, xbinI_lss, xbinI_leq, xbinI_gtr, xbinI_geq, xbinI_add, xbinI_sub, ySource_row, ySource_own, ySource_nil, bnd, List.take_of_length_le, List.length_append, f1, f2, w1]
        refine ⟨d - 1, [0, 8], by omega, by decide, pinned_one _, i + 1, ?_, ?_, by omega⟩
        · rw [hsl]
          simp only [yE, Nat.reduceEqDiff, Nat.reduceAdd, reduceCtorEq, Nd.toks]
          try (simp [Nat.add_assoc] <;> omega)
        · rw [hsm]
          simp only [yE, Nat.reduceEqDiff, Nat.reduceAdd, reduceCtorEq, Nd.toks, lit1]
          try simp
      · simp -implicitDefEqProofs (disch := first | (intros; rename_i h; cases h; done) | ((try simp only [List.length_append, List.length_map, List.length_cons, List.length_nil]); omega)) only [↓yP, yT, Nat.reduceAdd, Nat.reduceMul, Nat.reduceSub, Nat.reduceLeDiff, Nat.reduceEqDiff, reduceCtorEq, Nat.reduceBEq, t1, hg, xbinI_eql, xbinI_neq, xbinI_lss, xbinI_leq, xbinI_gtr, xbinI_geq, xbinI_add, xbinI_sub, ySource_row, ySource_own, ySource_nil, bnd, List.take_of_length_le, List.length_append, f1, f2, w1]
        have hks := hxr (acc ++ h0 ++ [mkTok 19 a0]) (by simp at hle ⊢; omega)
        refine Rcall_own' (els := (acc ++ h0 ++ [mkTok 19 a0]).map Tok.pc) (n' := (acc ++ h0 ++ [mkTok 19 a0] ++ toksOf ks0).length) (by first | (simp; done) | (simp; omega)) (by first | (simp; done) | (simp; omega)) (by rfl) (by first | (simp [lit1]; done) | (simp [lit1]; omega)) hks ?_
        simp -implicitDefEqProofs (disch := first | (intros; rename_i h; cases h; done) | ((try simp only [List.length_append, List.length_map, List.length_cons, List.length_nil]); omega)) only [↓yP, yT, Nat.reduceAdd, Nat.reduceMul, Nat.reduceSub, Nat.reduceLeDiff, Nat.reduceEqDiff, reduceCtorEq, Nat.reduceBEq, List.map_append, xbinI_eql, xbinI_neq, xbinI_lss, xbinI_leq, xbinI_gtr, xbinI_geq, xbinI_add, xbinI_sub, ySource_row, ySource_own, ySource_nil, bnd, List.take_of_length_le, List.length_append, f1, f2, w1]
        refine ⟨d - 1, [0, 6], by omega, by decide, pinned_one _, i + 1, ?_, ?_, by omega⟩
        · rw [hsl]
          simp only [yE, Nat.reduceEqDiff, Nat.reduceAdd, reduceCtorEq, Nd.toks]
          try (simp [Nat.add_assoc] <;> omega)
        · rw [hsm]
          simp only [yE, Nat.reduceEqDiff, Nat.reduceAdd, reduceCtorEq, Nd.toks, lit1]
          try simp
      · simp -implicitDefEqProofs (disch := first | (intros; rename_i h; cases h; done) | ((try simp only [List.length_append, List.length_map, List.length_cons, List.length_nil]); omega)) only [↓yP, yT, Nat.reduceAdd, Nat.reduceMul, Nat.reduceSub, Nat.reduceLeDiff, Nat.reduceEqDiff, reduceCtorEq, Nat.reduceBEq, t1, hg, xbinI_eql, xbinI_neq, xbinI_lss, xbinI_leq, xbinI_gtr, xbinI_geq, xbinI_add, xbinI_sub, ySource_row, ySource_own, ySource_nil, bnd, List.take_of_length_le, List.length_append, f1, f2, w1]
        have hks := hxr (acc ++ h0 ++ [mkTok 19 a0]) (by simp at hle ⊢; omega)
        refine Rcall_own' (els := (acc ++ h0 ++ [mkTok 19 a0]).map Tok.pc) (n' := (acc ++ h0 ++ [mkTok 19 a0] ++ toksOf ks0).length) (by first | (simp; done) | (simp; omega)) (by first | (simp; done) | (simp; omega)) (by rfl) (by first | (simp [lit1]; done) | (simp [lit1]; omega)) hks ?_
        simp -implicitDefEqProofs (disch := first | (intros; rename_i h; cases h; done) | ((try simp only [List.length_append, List.length_map, List.length_cons, List.length_nil]); omega)) only [↓yP, yT, Nat.reduceAdd, Nat.reduceMul, Nat.reduceSub, Nat.reduceLeDiff, Nat.reduceEqDiff, reduceCtorEq, Nat.reduceBEq, List.map_append, xbinI_eql, xbinI_neq, xbinI_lss, xbinI_leq, xbinI_gtr, xbinI_geq, xbinI_add, xbinI_sub, ySource_row, ySource_own, ySource_nil, bnd, List.take_of_length_le, List.length_append, f1, f2, w1]
        refine ⟨d - 1, [0, 8], by omega, by decide, pinned_one _, i + 1, ?_, ?_, by omega⟩
        · rw [hsl]
          simp only [yE, Nat.reduceEqDiff, Nat.reduceAdd, reduceCtorEq, Nd.toks]
          try (simp [Nat.add_assoc] <;> omega)
        · rw [hsm]
          simp only [yE, Nat.reduceEqDiff, Nat.reduceAdd, reduceCtorEq, Nd.toks, lit1]
          try simp
      · simp -implicitDefEqProofs (disch := first | (intros; rename_i h; cases h; done) | ((try simp only [List.length_append, List.length_map, List.length_cons, List.length_nil]); omega)) only [↓yP, yT, Nat.reduceAdd, Nat.reduceMul, Nat.reduceSub, Nat.reduceLeDiff, Nat.reduceEqDiff, reduceCtorEq, Nat.reduceBEq, t1, hg, xbinI_eql, xbinI_neq, xbinI_lss, xbinI_leq, xbinI_gtr, xbinI_geq, xbinI_add, xbinI_sub, ySource_row, ySource_own, ySource_nil, bnd, List.take_of_length_le, List.length_append, f1, f2, w1]
        have hks := hxr (acc ++ h0 ++ [mkTok 19 a0]) (by simp at hle ⊢; omega)
        refine Rcall_own' (els := (acc ++ h0 ++ [mkTok 19 a0]).map Tok.pc) (n' := (acc ++ h0 ++ [mkTok 19 a0] ++ toksOf ks0).length) (by first | (simp; done) | (simp; omega)) (by first | (simp; done) | (simp; omega)) (by rfl) (by first | (simp [lit1]; done) | (simp [lit1]; omega)) hks ?_
        simp -implicitDefEqProofs (disch := first | (intros; rename_i h; cases h; done) | ((try simp only [List.length_append, List.length_map, List.length_cons, List.length_nil]); omega)) only [↓yP, yT, Nat.reduceAdd, Nat.reduceMul, Nat.reduceSub, Nat.reduceLeDiff, Nat.reduceEqDiff, reduceCtorEq, Nat.reduceBEq, List.map_append, xbinI_eql, xbinI_neq, xbinI_lss, xbinI_leq, xbinI_gtr, xbinI_geq, xbinI_add, xbinI_sub, ySource_row, ySource_own, ySource_nil, bnd, List.take_of_length_le, List.length_append, f1, f2, w1]
        refine ⟨d - 1, [0, 8], by omega, by decide, pinned_one _, i + 1, ?_, ?_, by omega⟩
        · rw [hsl]
          simp only [yE, Nat.reduceEqDiff, Nat.reduceAdd, reduceCtorEq, Nd.toks]
          try (simp [Nat.add_assoc] <;> omega)
        · rw [hsm]
          simp only [yE, Nat.reduceEqDiff, Nat.reduceAdd, reduceCtorEq, Nd.toks, lit1]
          try simp
      · simp -implicitDefEqProofs (disch := first | (intros; rename_i h; cases h; done) | ((try simp only [List.length_append, List.length_map, List.length_cons, List.length_nil]); omega)) only [↓yP, yT, Nat.reduceAdd, Nat.reduceMul, Nat.reduceSub, Nat.reduceLeDiff, Nat.reduceEqDiff, reduceCtorEq, Nat.reduceBEq, t1, hg, xbinI_eql, xbinI_neq, xbinI_lss, xbinI_leq, xbinI_gtr, xbinI_geq, xbinI_add, xbinI_sub, ySource_row, ySource_own, ySource_nil, bnd, List.take_of_length_le, List.length_append, f1, f2, w1]
        have hks := hxr (acc ++ h0 ++ [mkTok 19 a0]) (by simp at hle ⊢; omega)
        refine Rcall_own' (els := (acc ++ h0 ++ [mkTok 19 a0]).map Tok.pc) (n' := (acc ++ h0 ++ [mkTok 19 a0] ++ toksOf ks0).length) (by first | (simp; done) | (simp; omega)) (by first | (simp; done) | (simp; omega)) (by rfl) (by first | (simp [lit1]; done) | (simp [lit1]; omega)) hks ?_
        simp -implicitDefEqProofs (disch := first | (intros; rename_i h; cases h; done) | ((try simp only [List.length_append, List.length_map, List.length_cons, List.length_nil]); omega)) only [↓yP, yT, Nat.reduceAdd, Nat.reduceMul, Nat.reduceSub, Nat.reduceLeDiff, Nat.reduceEqDiff, reduceCtorEq, Nat.reduceBEq, List.map_append, xbinI_eql, xbinI_neq, xbinI_lss, xbinI_leq, xbinI_gtr, xbinI_geq, xbinI_add, xbinI_sub, ySource_row, ySource_own, ySource_nil, bnd, List.take_of_length_le, List.length_append, f1, f2, w1]
        refine ⟨d - 1, [0, 10], by omega, by decide, pinned_one _, i + 1, ?_, ?_, by omega⟩
        · rw [hsl]
          simp only [yE, Nat.reduceEqDiff, Nat.reduceAdd, reduceCtorEq, Nd.toks]
          try (simp [Nat.add_assoc] <;> omega)
        · rw [hsm]
          simp only [yE, Nat.reduceEqDiff, Nat.reduceAdd, reduceCtorEq, Nd.toks, lit1]
          try simp
    · have f2 : eqI k0 1 = false := eqI_false q2
      rw [if_neg q1, if_neg q2] at hle
      cases m0 with
      | false =>
        simp -implicitDefEqProofs (disch := first | (intros; rename_i h; cases h; done) | ((try simp only [List.length_append, List.length_map, List.length_cons, List.length_nil]); omega)) only [↓yP, yT, Nat.reduceAdd, Nat.reduceMul, Nat.reduceSub, Nat.reduceLeDiff, Nat.reduceEqDiff, reduceCtorEq, Nat.reduceBEq, t1, hg, xbinI_eql, xbinI_neq, xbinI_lss, xbinI_leq, xbinI_gtr, xbinI_geq, xbinI_add, xbinI_sub, ySource_row, ySource_own, ySource_nil, bnd, List.take_of_length_le, List.length_append, f1, f2, w1]
        refine ⟨d - 1, [0, 3], by omega, by decide, pinned_one _, i + 1, ?_, ?_, by omega⟩
        · rw [hsl]
          simp only [yE, Nat.reduceEqDiff, Nat.reduceAdd, reduceCtorEq, Nd.toks, if_neg q1, if_neg q2]
          try (simp [Nat.add_assoc] <;> omega)
        · rw [hsn]
          simp only [yE, Nat.reduceEqDiff, Nat.reduceAdd, reduceCtorEq, Nd.toks, lit1, if_neg q1, if_neg q2]
          try simp
      | true =>
        simp -implicitDefEqProofs (disch := first | (intros; rename_i h; cases h; done) | ((try simp only [List.length_append, List.length_map, List.length_cons, List.length_nil]); omega)) only [↓yP, yT, Nat.reduceAdd, Nat.reduceMul, Nat.reduceSub, Nat.reduceLeDiff, Nat.reduceEqDiff, reduceCtorEq, Nat.reduceBEq, t1, hg, xbinI_eql, xbinI_neq, xbinI_lss, xbinI_leq, xbinI_gtr, xbinI_geq, xbinI_add, xbinI_sub, ySource_row, ySource_own, ySource_nil, bnd, List.take_of_length_le, List.length_append, f1, f2, w1]
        refine ⟨d - 1, [0, 5], by omega, by decide, pinned_one _, i + 1, ?_, ?_, by omega⟩
        · rw [hsl]
          simp only [yE, Nat.reduceEqDiff, Nat.reduceAdd, reduceCtorEq, Nd.toks, if_neg q1, if_neg q2]
          try (simp [Nat.add_assoc] <;> omega)
        · rw [hsn]
          simp only [yE, Nat.reduceEqDiff, Nat.reduceAdd, reduceCtorEq, Nd.toks, lit1, if_neg q1, if_neg q2]
          try simp
  · have t1 : leI (ns.length : Nat) (i : Nat) = true := leI_true (by omega)
    have : i = ns.length := by omega
    subst this
    simp -implicitDefEqProofs only [↓yP, yT, Nat.reduceAdd, Nat.reduceMul, Nat.reduceSub, Nat.reduceLeDiff, Nat.reduceEqDiff, reduceCtorEq, Nat.reduceBEq, t1, List.take_length]
    refine ⟨[0, 1], by decide, pinned_one _, .inr ⟨?_, ?_⟩⟩
    · rw [List.length_map]; rfl
    · simp only [yE, Nat.reduceEqDiff, Nat.reduceAdd, reduceCtorEq]
end Go.Vx.Seat
end
/- Few: tokens and nodes that are not too many. -/
section
open Go Go.Vx Go.Proofs
set_option linter.unusedSimpArgs false
set_option linter.unusedVariables false
set_option maxRecDepth 10000
set_option maxHeartbeats 8000000
namespace Go.Vx.Seat
attribute [local congr] Rg_at Rt_at Ro_at Ri_at Rc_at Rto_at Rtk_at Rtf_at Rti_at
attribute [local irreducible] Rg Rt Ro Ri Rc Rto Rtk Rtf Rti Rw Rl Rd Rcall Rtcall kf
theorem fn23 : nth C1.P.funcs.toList 23 = some Try.f23 := by kernel_rfl
theorem fn9 : nth C1.P.funcs.toList 9 = some Try.f9 := by kernel_rfl
theorem fn24 : nth C1.P.funcs.toList 24 = some Try.f24 := by kernel_rfl
theorem fn10 : nth C1.P.funcs.toList 10 = some Try.f10 := by kernel_rfl
def maxL : Nat := 70368744177664
theorem wrap_suc {i : Nat} (h : i < 9223372036854775807) : wrapK .i64 (((i : Nat) : Int) + 1) = ((i + 1 : Nat) : Int) := by rw [wrapK_eq, IntKind.wrap_i64]; omega
theorem len_le {n k : Nat} : leI ((n : Nat) : Int) ((k : Nat) : Int) = decide (n ≤ k) := by rw [leI_eq]; congr 1; simp
theorem few16_spec (t : Tok) : PCall C1 23 [t.yv] fun y => ∃ b : Bool, y = yd (.bool b) ∧ (b = true → (strOf t.text).length ≤ 200 ∧ (strOf t.unit).length ≤ 100) := by
  refine Pf (by rfl) (by rfl) fn23 (by rfl) ?_
  simp only [Try.f23, List.length_cons, List.length_nil, List.replicate, List.cons_append, List.nil_append]
  simp only [Tok.yv, Tok.cs, Tok.pc, List.map_cons, List.map_nil]
  by_cases h1 : (strOf t.text).length ≤ 200
  · have f1 : leI ((strOf t.text).length : Nat) 200 = true := leI_true (by omega)
    by_cases h2 : (strOf t.unit).length ≤ 100
    · have f2 : leI ((strOf t.unit).length : Nat) 100 = true := leI_true (by omega)
      by_cases h3 : (strOf t.digits).length ≤ 100
      · have f3 : leI ((strOf t.digits).length : Nat) 100 = true := leI_true (by omega)
        simp -implicitDefEqProofs only [↓yP, yT, Nat.reduceAdd, Nat.reduceMul, Nat.reduceSub, Nat.reduceLeDiff, Nat.reduceEqDiff, reduceCtorEq, Nat.reduceBEq, opLen.eq_1, f1, f2, f3]
        exact ⟨_, rfl, fun _ => ⟨h1, h2⟩⟩
      · have f3 : leI ((strOf t.digits).length : Nat) 100 = false := leI_false (by omega)
        simp -implicitDefEqProofs only [↓yP, yT, Nat.reduceAdd, Nat.reduceMul, Nat.reduceSub, Nat.reduceLeDiff, Nat.reduceEqDiff, reduceCtorEq, Nat.reduceBEq, opLen.eq_1, f1, f2, f3]
        exact ⟨false, rfl, fun h => by cases h⟩
    · have f2 : leI ((strOf t.unit).length : Nat) 100 = false := leI_false (by omega)
      simp -implicitDefEqProofs only [↓yP, yT, Nat.reduceAdd, Nat.reduceMul, Nat.reduceSub, Nat.reduceLeDiff, Nat.reduceEqDiff, reduceCtorEq, Nat.reduceBEq, opLen.eq_1, f1, f2]
      exact ⟨false, rfl, fun h => by cases h⟩
  · have f1 : leI ((strOf t.text).length : Nat) 200 = false := leI_false (by omega)
    simp -implicitDefEqProofs only [↓yP, yT, Nat.reduceAdd, Nat.reduceMul, Nat.reduceSub, Nat.reduceLeDiff, Nat.reduceEqDiff, reduceCtorEq, Nat.reduceBEq, opLen.eq_1, f1]
    exact ⟨false, rfl, fun h => by cases h⟩
theorem few_spec (ts : List Tok) (hl : ts.length ≤ maxL) : PCall C1 9 [.c (.p (rT ts))] fun y => ∃ b : Bool, y = yd (.bool b) ∧ (b = true → ts.length ≤ 600) := by
  unfold maxL at hl
  refine Pf (by rfl) (by rfl) fn9 (by rfl) ?_
  simp only [Try.f9, List.length_cons, List.length_nil, List.replicate, List.cons_append, List.nil_append]
  simp -implicitDefEqProofs only [↓yP, yT, Nat.reduceAdd, Nat.reduceMul, Nat.reduceSub, Nat.reduceLeDiff, Nat.reduceEqDiff, reduceCtorEq, Nat.reduceBEq]
  refine Rl_inv (fun d e s => ∃ i n : Nat, e = [.c (.p (rT ts)), .c .top, .c .top, yd (.int .i64 n), yd (.int .i64 i), .c .top, .c .top, .c .top, .c .top, .c .top, .c .top, .c .top, .c .top, .c .top, .c .top, .c .top, .c .top, .c .top, .c .top, .c .top, .c .top, .c .top, .c .top, .c .top, .c .top, .c .top, .c .top, .c .top, .c .top, .c .top, .c .top, .c .top, .c .top, .c .top, .c .top] ∧ s = [] ∧ i + d = ts.length ∧ i ≤ n ∧ n ≤ 400 * i) [true, false, false, true, true] ts.length [] (by decide) (pinned_zero _) ⟨0, 0, by simp only [yE, Nat.reduceEqDiff, Nat.reduceAdd, reduceCtorEq]; rfl, rfl, by omega, by omega, by omega⟩ ?_
  rintro d e s ⟨i, n, rfl, rfl, hd, hn1, hn2⟩
  by_cases hi : i < ts.length
  · obtain ⟨t, ht⟩ := get_lt hi
    have t1 : leI (ts.length : Nat) (i : Nat) = false := leI_false (by omega)
    have w1 : wrapK .i64 ((i : Int) + 1) = ((i + 1 : Nat) : Int) := wrap_suc (by omega)
    simp -implicitDefEqProofs only [↓yP, yT, Nat.reduceAdd, Nat.reduceMul, Nat.reduceSub, Nat.reduceLeDiff, Nat.reduceEqDiff, reduceCtorEq, Nat.reduceBEq, t1, get_map ht, Tok.pc]
    refine Rcall_pure (few16_spec t) (by rfl) fun y hy => ?_
    obtain ⟨b, rfl, hb⟩ := hy
    cases b with
    | false =>
      simp -implicitDefEqProofs only [↓yP, yT, Nat.reduceAdd, Nat.reduceMul, Nat.reduceSub, Nat.reduceLeDiff, Nat.reduceEqDiff, reduceCtorEq, Nat.reduceBEq]
      exact ⟨false, rfl, fun h => by cases h⟩
    | true =>
      obtain ⟨hb1, hb2⟩ := hb rfl
      have w2 : wrapK .i64 ((n : Int) + 1) = ((n + 1 : Nat) : Int) := wrap_suc (by omega)
      have w3 : wrapK .i64 (((n + 1 : Nat) : Int) + ((strOf t.text).length : Nat)) = ((n + 1 + (strOf t.text).length : Nat) : Int) := by
        rw [show ((n + 1 : Nat) : Int) + ((strOf t.text).length : Nat) = ((n + 1 + (strOf t.text).length : Nat) : Int) by omega]; exact wrap_nat (by omega)
      have w4 : wrapK .i64 (((n + 1 + (strOf t.text).length : Nat) : Int) + ((strOf t.unit).length : Nat)) = ((n + 1 + (strOf t.text).length + (strOf t.unit).length : Nat) : Int) := by
        rw [show ((n + 1 + (strOf t.text).length : Nat) : Int) + ((strOf t.unit).length : Nat) = ((n + 1 + (strOf t.text).length + (strOf t.unit).length : Nat) : Int) by omega]; exact wrap_nat (by omega)
      simp -implicitDefEqProofs only [↓yP, yT, Nat.reduceAdd, Nat.reduceMul, Nat.reduceSub, Nat.reduceLeDiff, Nat.reduceEqDiff, reduceCtorEq, Nat.reduceBEq]
      refine Rd_calm (by rw [C1_P]; kernel_rfl) ?_
      simp -implicitDefEqProofs only [↓yP, yT, Nat.reduceAdd, Nat.reduceMul, Nat.reduceSub, Nat.reduceLeDiff, Nat.reduceEqDiff, reduceCtorEq, Nat.reduceBEq, get_map ht, Tok.pc, opLen.eq_1, w1, w2, w3, w4]
      refine ⟨d - 1, [], by omega, by decide, pinned_zero _, i + 1, n + 1 + (strOf t.text).length + (strOf t.unit).length, ?_, rfl, by omega, by omega, by omega⟩
      simp only [yE, Nat.reduceEqDiff, Nat.reduceAdd, reduceCtorEq]
  · have t1 : leI (ts.length : Nat) (i : Nat) = true := leI_true (by omega)
    simp -implicitDefEqProofs only [↓yP, yT, Nat.reduceAdd, Nat.reduceMul, Nat.reduceSub, Nat.reduceLeDiff, Nat.reduceEqDiff, reduceCtorEq, Nat.reduceBEq, t1]
    refine ⟨_, rfl, fun h => ?_⟩
    rw [leI_eq] at h
    simp at h
    omega
/-- How much nodes weigh. -/
inductive NdMax : Nd → Prop where
  | mk {k : Int} {h t : List Tok} {ks : List Nd} {o s m : Bool} {a l : Int} : h.length ≤ maxL → t.length ≤ maxL → ks.length ≤ maxL → (∀ x, x ∈ ks → NdMax x) → NdMax (.mk k h t ks o s m a l)
/-- Nodes that weigh no more than so much. -/
inductive Wt : List Nd → Nat → Prop where
  | nil : Wt [] 0
  | snoc {ns : List Nd} {n w : Nat} {k : Int} {h t : List Tok} {ks : List Nd} {o s m : Bool} {a l : Int} : Wt ns n → Wt ks w → Wt (ns ++ [.mk k h t ks o s m a l]) (n + 1 + h.length + t.length + w)
def SizeSpec : Nd → Prop
  | .mk k h t ks o s m a l => h.length ≤ maxL ∧ t.length ≤ maxL ∧ ∀ d : Nat, d ≤ 101 → PCall C1 24 [.c (.p (rN ks)), yd (.int .i64 d)] fun y => ∃ v : Nat, y = yd (.int .i64 v) ∧ v ≤ 3000 * (102 - d) ∧ (v < 1000 → Wt ks v)
theorem size_list (ns : List Nd) (hl : ns.length ≤ maxL) (hr : ∀ x, x ∈ ns → SizeSpec x) (d0 : Nat) (hd0 : d0 ≤ 101) : PCall C1 24 [.c (.p (rN ns)), yd (.int .i64 d0)] fun y => ∃ v : Nat, y = yd (.int .i64 v) ∧ v ≤ 3000 * (102 - d0) ∧ (v < 1000 → Wt ns v) := by
  unfold maxL at hl
  refine Pf (by rfl) (by rfl) fn24 (by rfl) ?_
  simp only [Try.f24, List.length_cons, List.length_nil, List.replicate, List.cons_append, List.nil_append]
  by_cases h100 : 100 < d0
  · have f0 : leI (d0 : Nat) 100 = false := leI_false (by omega)
    simp -implicitDefEqProofs only [↓yP, yT, Nat.reduceAdd, Nat.reduceMul, Nat.reduceSub, Nat.reduceLeDiff, Nat.reduceEqDiff, reduceCtorEq, Nat.reduceBEq, f0]
    exact ⟨1000, rfl, by omega, fun h => by omega⟩
  have f0 : leI (d0 : Nat) 100 = true := leI_true (by omega)
  simp -implicitDefEqProofs only [↓yP, yT, Nat.reduceAdd, Nat.reduceMul, Nat.reduceSub, Nat.reduceLeDiff, Nat.reduceEqDiff, reduceCtorEq, Nat.reduceBEq, f0]
  refine Rl_inv (fun d e s => ∃ i n : Nat, e = [.c (.p (rN ns)), yd (.int .i64 d0), .c .top, .c .top, .c .top, yd (.int .i64 n), yd (.int .i64 i), .c .top, .c .top, .c .top, .c .top, .c .top, .c .top, .c .top, .c .top, .c .top, .c .top, .c .top, .c .top, .c .top, .c .top, .c .top, .c .top, .c .top, .c .top, .c .top, .c .top, .c .top, .c .top, .c .top, .c .top, .c .top, .c .top, .c .top, .c .top, .c .top, .c .top, .c .top, .c .top, .c .top, .c .top, .c .top, .c .top, .c .top, .c .top, .c .top, .c .top, .c .top, .c .top, .c .top, .c .top, .c .top, .c .top, .c .top, .c .top, .c .top, .c .top, .c .top, .c .top, .c .top, .c .top] ∧ s = [] ∧ i + d = ns.length ∧ n ≤ 3000 * (102 - d0) ∧ (n < 1000 → Wt (ns.take i) n)) [true, true, false, false, false, true, true] ns.length [] (by decide) (pinned_zero _) ⟨0, 0, by simp only [yE, Nat.reduceEqDiff, Nat.reduceAdd, reduceCtorEq]; rfl, rfl, by omega, by omega, by simpa using Wt.nil⟩ ?_
  rintro d e s ⟨i, n, rfl, rfl, hd, hn1, hwt⟩
  by_cases hi : i < ns.length
  · obtain ⟨x, hx⟩ := get_lt hi
    have hxr := hr x (List.mem_of_getElem? hx)
    obtain ⟨k0, h0, t0, ks0, o0, s0, m0, a0, l0⟩ := x
    obtain ⟨hh, ht, hks⟩ := hxr
    have t1 : leI (ns.length : Nat) (i : Nat) = false := leI_false (by omega)
    by_cases hn : n < 1000
    · have t2 : leI 1000 (n : Nat) = false := leI_false (by omega)
      have w1 : wrapK .i64 ((i : Int) + 1) = ((i + 1 : Nat) : Int) := wrap_suc (by omega)
      have wd : wrapK .i64 ((d0 : Int) + 1) = ((d0 + 1 : Nat) : Int) := wrap_suc (by omega)
      have hg := get_map (f := Nd.pc) hx
      rw [pc_mk] at hg
      simp -implicitDefEqProofs only [↓yP, yT, Nat.reduceAdd, Nat.reduceMul, Nat.reduceSub, Nat.reduceLeDiff, Nat.reduceEqDiff, reduceCtorEq, Nat.reduceBEq, t1, t2, hg]
      refine Rcall_pure (few_spec h0 hh) (by rfl) fun y hy => ?_
      obtain ⟨b, rfl, hb⟩ := hy
      cases b with
      | false =>
        simp -implicitDefEqProofs only [↓yP, yT, Nat.reduceAdd, Nat.reduceMul, Nat.reduceSub, Nat.reduceLeDiff, Nat.reduceEqDiff, reduceCtorEq, Nat.reduceBEq]
        exact ⟨1000, rfl, by omega, fun h => by omega⟩
      | true =>
        have hb := hb rfl
        simp -implicitDefEqProofs only [↓yP, yT, Nat.reduceAdd, Nat.reduceMul, Nat.reduceSub, Nat.reduceLeDiff, Nat.reduceEqDiff, reduceCtorEq, Nat.reduceBEq, hg]
        refine Rcall_pure (few_spec t0 ht) (by rfl) fun y hy => ?_
        obtain ⟨b, rfl, hb2⟩ := hy
        cases b with
        | false =>
          simp -implicitDefEqProofs only [↓yP, yT, Nat.reduceAdd, Nat.reduceMul, Nat.reduceSub, Nat.reduceLeDiff, Nat.reduceEqDiff, reduceCtorEq, Nat.reduceBEq]
          exact ⟨1000, rfl, by omega, fun h => by omega⟩
        | true =>
          have hb2 := hb2 rfl
          have w2 : wrapK .i64 ((n : Int) + 1) = ((n + 1 : Nat) : Int) := wrap_suc (by omega)
          have w3 : wrapK .i64 (((n + 1 : Nat) : Int) + (h0.length : Nat)) = ((n + 1 + h0.length : Nat) : Int) := by
            rw [show ((n + 1 : Nat) : Int) + (h0.length : Nat) = ((n + 1 + h0.length : Nat) : Int) by omega]; exact wrap_nat (by omega)
          have w4 : wrapK .i64 (((n + 1 + h0.length : Nat) : Int) + (t0.length : Nat)) = ((n + 1 + h0.length + t0.length : Nat) : Int) := by
            rw [show ((n + 1 + h0.length : Nat) : Int) + (t0.length : Nat) = ((n + 1 + h0.length + t0.length : Nat) : Int) by omega]; exact wrap_nat (by omega)
          simp -implicitDefEqProofs only [↓yP, yT, Nat.reduceAdd, Nat.reduceMul, Nat.reduceSub, Nat.reduceLeDiff, Nat.reduceEqDiff, reduceCtorEq, Nat.reduceBEq]
          refine Rd_calm (by rw [C1_P]; kernel_rfl) ?_
          simp -implicitDefEqProofs only [↓yP, yT, Nat.reduceAdd, Nat.reduceMul, Nat.reduceSub, Nat.reduceLeDiff, Nat.reduceEqDiff, reduceCtorEq, Nat.reduceBEq, hg, w1, w2, w3, w4, wd]
          refine Rcall_pure (hks (d0 + 1) (by omega)) (by rfl) fun y hy => ?_
          obtain ⟨v, rfl, hv1, hv2⟩ := hy
          have w5 : wrapK .i64 (((n + 1 + h0.length + t0.length : Nat) : Int) + (v : Nat)) = ((n + 1 + h0.length + t0.length + v : Nat) : Int) := by
            rw [show ((n + 1 + h0.length + t0.length : Nat) : Int) + (v : Nat) = ((n + 1 + h0.length + t0.length + v : Nat) : Int) by omega]; exact wrap_nat (by omega)
          simp -implicitDefEqProofs only [↓yP, yT, Nat.reduceAdd, Nat.reduceMul, Nat.reduceSub, Nat.reduceLeDiff, Nat.reduceEqDiff, reduceCtorEq, Nat.reduceBEq, w1, w5]
          by_cases hv : v < 1000
          · refine ⟨d - 1, [], by omega, by decide, pinned_zero _, i + 1, n + 1 + h0.length + t0.length + v, ?_, rfl, by omega, by omega, ?_⟩
            · simp only [yE, Nat.reduceEqDiff, Nat.reduceAdd, reduceCtorEq]
            · rw [List.take_add_one, hx]; exact fun _ => Wt.snoc (hwt hn) (hv2 hv)
          · refine ⟨d - 1, [], by omega, by decide, pinned_zero _, i + 1, n + 1 + h0.length + t0.length + v, ?_, rfl, by omega, by omega, fun h => by omega⟩
            simp only [yE, Nat.reduceEqDiff, Nat.reduceAdd, reduceCtorEq]
    · have t2 : leI 1000 (n : Nat) = true := leI_true (by omega)
      simp -implicitDefEqProofs only [↓yP, yT, Nat.reduceAdd, Nat.reduceMul, Nat.reduceSub, Nat.reduceLeDiff, Nat.reduceEqDiff, reduceCtorEq, Nat.reduceBEq, t1, t2]
      exact ⟨n, rfl, hn1, fun h => by omega⟩
  · have t1 : leI (ns.length : Nat) (i : Nat) = true := leI_true (by omega)
    have : i = ns.length := by omega
    subst this
    rw [List.take_length] at hwt
    simp -implicitDefEqProofs only [↓yP, yT, Nat.reduceAdd, Nat.reduceMul, Nat.reduceSub, Nat.reduceLeDiff, Nat.reduceEqDiff, reduceCtorEq, Nat.reduceBEq, t1]
    exact ⟨n, rfl, hn1, hwt⟩
end Go.Vx.Seat
end
/- Few nodes: the ring of size round a law's trees; tokens of nodes, whole. -/
section
open Go Go.Vx Go.Proofs
set_option linter.unusedSimpArgs false
set_option linter.unusedVariables false
set_option maxRecDepth 10000
set_option maxHeartbeats 8000000
namespace Go.Vx.Seat
attribute [local congr] Rg_at Rt_at Ro_at Ri_at Rc_at Rto_at Rtk_at Rtf_at Rti_at
attribute [local irreducible] Rg Rt Ro Ri Rc Rto Rtk Rtf Rti Rw Rl Rd Rcall Rtcall kf
theorem Wt.small {ns : List Nd} {n : Nat} (hw : Wt ns n) : ns.length ≤ n ∧ (toksOf ns).length ≤ 5 * n := by
  induction hw with
  | nil => simp [toksOf]
  | @snoc ns n w k h t ks o s m a l h1 h2 ih1 ih2 =>
    refine ⟨by simp; omega, ?_⟩
    rw [toksOf_snoc, List.length_append, Nd.toks]
    have e1 : (if k = 2 then mkTok 16 a :: t else []).length ≤ t.length + 1 := by split <;> simp
    have e2 : (if k = 1 then (if o then [mkTok 19 a] else []) ++ toksOf ks ++ (if s then [mkTok 20 l] else []) else []).length ≤ (toksOf ks).length + 2 := by
      split
      · cases o <;> cases s <;> simp
      · simp
    have e3 : (if m then [mkTok 17 l] else []).length ≤ 1 := by split <;> simp
    simp only [List.length_append] at e2 ⊢
    omega
theorem Wt.toks {ns : List Nd} {n : Nat} (hw : Wt ns n) : n ≤ 1000 → ∀ x, x ∈ ns → TokSpec x ∧ TokSpecP x := by
  induction hw with
  | nil => intro _ x hx; simp at hx
  | @snoc ns n w k h t ks o s m a l h1 h2 ih1 ih2 =>
    intro hn x hx
    rcases List.mem_append.mp hx with hx | hx
    · exact ih1 (by omega) x hx
    · obtain rfl := List.mem_singleton.mp hx
      have hs := h2.small
      have ih := ih2 (by omega)
      exact ⟨fun hb => toksD_list ks (by omega) (fun y hy => (ih y hy).1) hb, fun out hb => toksP_list ks (by omega) (fun y hy => (ih y hy).2) out hb⟩
theorem tokensD_spec {ns : List Nd} {n : Nat} (hw : Wt ns n) (hn : n ≤ 1000) : PCall C1 16 [.c (.p (rN ns))] fun y => y = .c (.p (rT (toksOf ns))) :=
  have hs := hw.small
  toksD_list ns (by omega) (fun x hx => (hw.toks hn x hx).1) (by omega)
theorem tokensP_spec {ns : List Nd} {n : Nat} (hw : Wt ns n) (hn : n ≤ 1000) : PCall C1 15 [.c (.p (rN ns))] fun y => y = .c (.p (rT (toksOf ns))) := by
  have hs := hw.small
  have hc := toksP_list ns (by omega) (fun x hx => (hw.toks hn x hx).2) [] (by simp; omega)
  rw [List.nil_append] at hc
  refine Pf (by rfl) (by rfl) fn15 (by rfl) ?_
  simp only [Try.f15, List.length_cons, List.length_nil, List.replicate, List.cons_append, List.nil_append]
  simp -implicitDefEqProofs only [↓yP, yT, Nat.reduceAdd, Nat.reduceMul, Nat.reduceSub, Nat.reduceLeDiff, Nat.reduceEqDiff, reduceCtorEq, Nat.reduceBEq]
  refine Rcall_own_nil (by decide) (by rfl) hc ?_
  simp -implicitDefEqProofs only [↓yP, yT, Nat.reduceAdd, Nat.reduceMul, Nat.reduceSub, Nat.reduceLeDiff, Nat.reduceEqDiff, reduceCtorEq, Nat.reduceBEq]
theorem size_of_max {x : Nd} (hx : NdMax x) : SizeSpec x := by
  induction hx with
  | mk h1 h2 h3 h4 ih => exact ⟨h1, h2, fun d hd => size_list _ h3 ih d hd⟩
theorem fewN_spec (ns : List Nd) (hl : ns.length ≤ maxL) (hx : ∀ x, x ∈ ns → NdMax x) : PCall C1 10 [.c (.p (rN ns))] fun y => ∃ b : Bool, y = yd (.bool b) ∧ (b = true → ∃ n, n ≤ 200 ∧ Wt ns n) := by
  refine Pf (by rfl) (by rfl) fn10 (by rfl) ?_
  simp only [Try.f10, List.length_cons, List.length_nil, List.replicate, List.cons_append, List.nil_append]
  simp -implicitDefEqProofs only [↓yP, yT, Nat.reduceAdd, Nat.reduceMul, Nat.reduceSub, Nat.reduceLeDiff, Nat.reduceEqDiff, reduceCtorEq, Nat.reduceBEq]
  refine Rcall_pure (size_list ns hl (fun x h => size_of_max (hx x h)) 0 (by omega)) (by rfl) fun y hy => ?_
  obtain ⟨v, rfl, hv1, hv2⟩ := hy
  by_cases hv : v ≤ 200
  · have t1 : leI (v : Nat) 200 = true := leI_true (by omega)
    simp -implicitDefEqProofs only [↓yP, yT, Nat.reduceAdd, Nat.reduceMul, Nat.reduceSub, Nat.reduceLeDiff, Nat.reduceEqDiff, reduceCtorEq, Nat.reduceBEq, t1]
    exact ⟨true, rfl, fun _ => ⟨v, hv, hv2 (by omega)⟩⟩
  · have t1 : leI (v : Nat) 200 = false := leI_false (by omega)
    simp -implicitDefEqProofs only [↓yP, yT, Nat.reduceAdd, Nat.reduceMul, Nat.reduceSub, Nat.reduceLeDiff, Nat.reduceEqDiff, reduceCtorEq, Nat.reduceBEq, t1]
    exact ⟨false, rfl, fun h => by cases h⟩
end Go.Vx.Seat
end
/- What Parse gives is not too much. -/
section
open Go Go.Vx Go.Proofs
set_option linter.unusedSimpArgs false
set_option linter.unusedVariables false
namespace Go.Vx.Seat
theorem nodesP_few (ts : List Tok) (cols : List Int) : ∀ n i depth, (nodesP ts cols n i depth).1.length ≤ n
  | 0, i, depth => by simp [nodesP]
  | n + 1, i, depth => by
    unfold nodesP
    split
    · have := nodesP_few ts cols n (nodeP ts cols (nodesP ts cols n) i depth).2 depth
      simp only [List.length_cons]
      omega
    · simp
theorem slice_le {ts : List Tok} (a b : Nat) (hl : ts.length ≤ 1000000) : (slice ts a b).length ≤ 1000000 := slice_len ts a _ hl
theorem nodesP_ok {ts : List Tok} {cols : List Int} (hl : ts.length ≤ 1000000) : ∀ n, n ≤ 1000000 → ∀ i depth x, x ∈ (nodesP ts cols n i depth).1 → NdOk x
  | 0, _, i, depth, x, hx => by simp [nodesP] at hx
  | n + 1, hn, i, depth, x, hx => by
    have ih := nodesP_ok (cols := cols) hl n (by omega)
    unfold nodesP at hx
    split at hx
    · rcases List.mem_cons.mp hx with hx | hx
      · subst hx
        unfold nodeP
        simp only
        split
        · unfold ruleP
          simp only
          refine .mk (slice_le _ _ hl) (by simp) ?_ (ih _ _)
          have := nodesP_few ts cols n (scanP ts depth (ts.length - i) i + 1) (depth + 1)
          omega
        · unfold leafP
          simp only
          split
          · exact .mk (slice_le _ _ hl) (slice_le _ _ hl) (by simp) (by simp)
          · exact .mk (slice_le _ _ hl) (by simp) (by simp) (by simp)
      · exact ih _ _ x hx
    · simp at hx
theorem parse_refl (ts : List Tok) (hl : ts.length ≤ 1000000) : PCall C1 11 [.c (.p (rN (parseP ts))), .c (.p (rN (parseD ts)))] fun y => y = yd (.bool true) := by
  rw [← parse_same]
  refine sameNodes_refl (parseP ts) ?_ (nodesP_ok hl _ hl 0 0)
  exact Nat.le_trans (nodesP_few ts _ _ 0 0) hl
end Go.Vx.Seat
end
/- The tokens of the nodes of tokens are these: plain law. -/
section
open Go Go.Vx Go.Proofs
set_option linter.unusedSimpArgs false
set_option linter.unusedVariables false
namespace Go.Vx.Seat
/-- A sign is just that. -/
def Signs (ts : List Tok) : Prop := ∀ t, t ∈ ts → 16 ≤ t.kind → t.kind ≤ 24 → t = mkTok t.kind t.start
theorem slice_add {ts : List Tok} {a b c : Nat} (h1 : a ≤ b) (h2 : b ≤ c) : slice ts a b ++ slice ts b c = slice ts a c := by
  unfold slice
  rw [show c - a = (b - a) + (c - b) by omega, List.take_add, List.drop_drop, show a + (b - a) = b by omega]
theorem slice_one {ts : List Tok} {k : Nat} {t : Tok} (h : ts[k]? = some t) : slice ts k (k + 1) = [t] := by
  have hk := (List.getElem?_eq_some_iff.mp h).1
  unfold slice
  rw [show k + 1 - k = 1 by omega, List.drop_eq_getElem_cons hk, List.take_succ_cons, List.take_zero]
  rw [List.getElem?_eq_getElem hk] at h
  rw [Option.some.inj h]
theorem slice_self (ts : List Tok) (k : Nat) : slice ts k k = [] := by simp [slice]
theorem slice_len2 {ts : List Tok} {a b : Nat} (h : b ≤ ts.length) : (slice ts a b).length = b - a := by simp [slice]; omega
theorem slice_sign {ts : List Tok} (hs : Signs ts) {k : Nat} (hk : k < ts.length) {n : Int} (hn : kindAt ts k = n) (h1 : 16 ≤ n) (h2 : n ≤ 24) : slice ts k (k + 1) = [mkTok n (startAt ts k)] := by
  have ht : ts[k]? = some ts[k] := List.getElem?_eq_getElem hk
  rw [slice_one ht]
  have hkk := kindAt_some ht
  rw [hkk] at hn
  rw [startAt_some ht]
  have := hs _ (List.getElem_mem hk) (by omega) (by omega)
  rw [hn] at this
  rw [← this]
theorem Wt.cons {k : Int} {h t : List Tok} {ks : List Nd} {o s m : Bool} {a l : Int} {w : Nat} (hw : Wt ks w) {ns : List Nd} {n : Nat} (hn : Wt ns n) : Wt (.mk k h t ks o s m a l :: ns) (1 + h.length + t.length + w + n) := by
  induction hn with
  | nil =>
    have := Wt.snoc (k := k) (h := h) (t := t) (o := o) (s := s) (m := m) (a := a) (l := l) Wt.nil hw
    simpa [Nat.add_assoc] using this
  | @snoc ns n w' k' h' t' ks' o' s' m' a' l' h1 h2 ih1 ih2 =>
    have := Wt.snoc (k := k') (h := h') (t := t') (o := o') (s := s') (m := m') (a := a') (l := l') ih1 h2
    rw [show 1 + h.length + t.length + w + n + 1 + h'.length + t'.length + w' = 1 + h.length + t.length + w + (n + 1 + h'.length + t'.length + w') by omega] at this
    exact this
/-- What nodes come from, and how much they weigh. -/
def BackOk (ts : List Tok) (cols : List Int) (n : Nat) : Prop := ∀ i deep, i ≤ ts.length → ts.length - i ≤ n → (i < ts.length → openAt ts i = reps deep) →
  (Signs ts → toksOf (nodesD ts cols n i deep).1 = slice ts i (nodesD ts cols n i deep).2) ∧ ∃ w, Wt (nodesD ts cols n i deep).1 w ∧ w ≤ 2 * ((nodesD ts cols n i deep).2 - i)
theorem node_back {ts : List Tok} {n i deep : Nat} (hb : BackOk ts (colonsTo ts ts.length) n) (hi : i < ts.length) (ho : openAt ts i = reps deep) (hs : shutD ts deep i = false) (hf : ts.length - (i + 1) ≤ n) :
    (Signs ts → (nodeD ts (colonsTo ts ts.length) (nodesD ts (colonsTo ts ts.length) n) i deep).1.toks = slice ts i (nodeD ts (colonsTo ts ts.length) (nodesD ts (colonsTo ts ts.length) n) i deep).2) ∧
    ∃ (k : Int) (h t : List Tok) (ks : List Nd) (o s m : Bool) (a l : Int) (w : Nat), (nodeD ts (colonsTo ts ts.length) (nodesD ts (colonsTo ts ts.length) n) i deep).1 = .mk k h t ks o s m a l ∧ Wt ks w ∧
      1 + h.length + t.length + w ≤ 2 * ((nodeD ts (colonsTo ts ts.length) (nodesD ts (colonsTo ts ts.length) n) i deep).2 - i) := by
  obtain ⟨e1, ha, hstop⟩ := scan_same ts deep (ts.length - i) i (by omega) (.same ho)
  have hle := endD_le ts deep (ts.length - i) i
  have hr := nodes_same ts n
  obtain ⟨_, hprog, hlast, _⟩ := node_same hr hi ho hs hf
  unfold nodeD at hprog hlast ⊢
  simp only at hprog hlast ⊢
  generalize endD ts deep (ts.length - i) i = k at ha hstop hle hprog hlast ⊢
  have leaf : ∀ (c : Option Nat) (semi : Bool), (∀ c', c = some c' → i ≤ c' ∧ c' < k ∧ kindAt ts c' = 16) → (semi = true → k < ts.length ∧ kindAt ts k = 17) → i < (leafD ts c i k semi).2 →
      (Signs ts → (leafD ts c i k semi).1.toks = slice ts i (leafD ts c i k semi).2) ∧ ∃ (k' : Int) (h t : List Tok) (ks : List Nd) (o s m : Bool) (a l : Int) (w : Nat), (leafD ts c i k semi).1 = .mk k' h t ks o s m a l ∧ Wt ks w ∧ 1 + h.length + t.length + w ≤ 2 * ((leafD ts c i k semi).2 - i) := by
    intro c semi hc hsemi hpr
    have hkl : k ≤ ts.length := by omega
    cases c with
    | none =>
      unfold leafD at hpr ⊢
      simp only at hpr ⊢
      refine ⟨fun hsg => ?_, _, _, _, _, _, _, _, _, _, 0, rfl, Wt.nil, ?_⟩
      · cases semi with
        | false => simp [Nd.toks]
        | true =>
          obtain ⟨g1, g2⟩ := hsemi rfl
          simp only [Nd.toks, if_true, ← slice_sign hsg g1 g2 (by decide) (by decide)]
          rw [if_neg (by decide), if_neg (by decide), List.append_nil, List.append_nil]
          exact slice_add (by omega) (by omega)
      · rw [slice_len2 hkl]
        cases semi <;> simp at hpr ⊢ <;> omega
    | some c =>
      obtain ⟨c1, c2, c3⟩ := hc c rfl
      unfold leafD at hpr ⊢
      simp only at hpr ⊢
      refine ⟨fun hsg => ?_, _, _, _, _, _, _, _, _, _, 0, rfl, Wt.nil, ?_⟩
      · have hcs := slice_sign hsg (k := c) (by omega) c3 (by decide) (by decide)
        have e1 : slice ts i c ++ (mkTok 16 (startAt ts c) :: slice ts (c + 1) k) = slice ts i k := by
          rw [← List.singleton_append, ← hcs, slice_add (by omega) (by omega), slice_add (by omega) (by omega)]
        cases semi with
        | false => simp [Nd.toks, e1]
        | true =>
          obtain ⟨g1, g2⟩ := hsemi rfl
          simp only [Nd.toks, if_true, ← slice_sign hsg g1 g2 (by decide) (by decide)]
          rw [if_neg (by decide), List.append_nil, e1]
          exact slice_add (by omega) (by omega)
      · rw [slice_len2 (by omega), slice_len2 hkl]
        cases semi <;> simp at hpr ⊢ <;> omega
  have hcol : ∀ m c', colD ts (colonsTo ts ts.length) deep i m = some c' → i ≤ c' ∧ c' < i + m ∧ kindAt ts c' = 16 := by
    intro m c' h
    have h1 := colD_le h
    have h2 := colD_some h
    have h3 := (contains_colons ts ts.length c').mp h2.2
    exact ⟨h1.1, h1.2, (docColon_facts h3.2).1⟩
  by_cases hk : k < ts.length
  · obtain ⟨hab, hlk, hkind⟩ := hstop hk
    have hok := hab.eq (by rw [reps_len]; exact hlk)
    by_cases h19 : kindAt ts k = 19
    · rw [if_pos ⟨hk, h19⟩] at hprog hlast ⊢
      obtain ⟨g1, g2, g3, g4⟩ := hr (k + 1) (deep + 1) (by omega) (by omega) fun _ => reps_block hk hok h19
      obtain ⟨b1, w, b2, b3⟩ := hb (k + 1) (deep + 1) (by omega) (by omega) fun _ => reps_block hk hok h19
      unfold ruleP at hprog hlast ⊢
      simp only at hprog hlast ⊢
      generalize nodesD ts (colonsTo ts ts.length) n (k + 1) (deep + 1) = r at g1 g2 g3 g4 b1 b2 b3 hprog hlast ⊢
      refine ⟨fun hsg => ?_, _, _, _, _, _, _, _, _, _, w, rfl, b2, ?_⟩
      · have hks := slice_sign hsg hk h19 (by decide) (by decide)
        have e1 : slice ts i k ++ ([mkTok 19 (startAt ts k)] ++ toksOf r.1) = slice ts i r.2 := by
          rw [← hks, b1 hsg, slice_add (by omega) g2, slice_add (by omega) (by omega)]
        by_cases hj : r.2 < ts.length
        · obtain ⟨g5, g6⟩ := g4 hj
          have h20 : kindAt ts r.2 = 20 := by simp [shutD] at g6; exact g6.1
          have hjs := slice_sign hsg hj h20 (by decide) (by decide)
          simp only [Nd.toks, hj, decide_true, if_true]
          rw [if_neg (by decide), List.append_nil, ← hjs]
          simp only [Bool.false_eq_true, if_false, List.append_nil]
          rw [← List.append_assoc, e1]
          exact slice_add (by omega) (by omega)
        · simp only [Nd.toks, hj, decide_false, if_true, if_false]
          rw [if_neg (by decide), List.append_nil]
          simp only [Bool.false_eq_true, if_false, List.append_nil]
          exact e1
      · rw [slice_len2 (by omega)]
        by_cases hj : r.2 < ts.length
        · simp only [hj, if_true, List.length_nil]; omega
        · simp only [hj, if_false, List.length_nil]; omega
    · rw [if_neg (fun h => h19 h.2), if_pos hk] at hprog hlast ⊢
      refine leaf _ _ (fun c' hc => ?_) (fun h => ⟨hk, by simpa using h⟩) hprog
      obtain ⟨q1, q2, q3⟩ := hcol _ _ hc
      refine ⟨q1, ?_, q3⟩
      have hne : c' ≠ k := fun e => by
        subst e
        rcases hkind with h | h | h
        · omega
        · exact h19 h
        · omega
      omega
  · rw [if_neg (fun h => hk h.1), if_neg hk] at hprog hlast ⊢
    refine leaf _ _ (fun c' hc => ?_) (fun h => by cases h) hprog
    obtain ⟨q1, q2, q3⟩ := hcol _ _ hc
    exact ⟨q1, by omega, q3⟩
theorem nodes_back (ts : List Tok) : ∀ n, BackOk ts (colonsTo ts ts.length) n
  | 0 => fun i deep h1 h2 h3 => ⟨fun _ => by simp [nodesD, toksOf, slice_self], 0, by simp only [nodesD]; exact Wt.nil, by omega⟩
  | n + 1 => fun i deep h1 h2 h3 => by
    have ih := nodes_back ts n
    have hr := nodes_same ts n
    unfold nodesD
    by_cases hi : i < ts.length
    · have ho := h3 hi
      cases hs : shutD ts deep i with
      | true =>
        rw [if_neg (by simp)]
        exact ⟨fun _ => by simp [toksOf, slice_self], 0, Wt.nil, by omega⟩
      | false =>
        rw [if_pos ⟨hi, rfl⟩]
        simp only
        obtain ⟨_, g2, g3, g4⟩ := node_same hr hi ho hs (by omega)
        obtain ⟨b1, k, h, t, ks, o, s, m, a, l, w, e, hw, hwl⟩ := node_back ih hi ho hs (by omega)
        obtain ⟨c1, w2, c2, c3⟩ := ih (nodeD ts (colonsTo ts ts.length) (nodesD ts (colonsTo ts ts.length) n) i deep).2 deep g3 (by omega) g4
        obtain ⟨_, k2, k3, _⟩ := hr (nodeD ts (colonsTo ts ts.length) (nodesD ts (colonsTo ts ts.length) n) i deep).2 deep g3 (by omega) g4
        refine ⟨fun hsg => ?_, _, by rw [e]; exact Wt.cons hw c2, by omega⟩
        rw [toksOf, b1 hsg, c1 hsg]
        exact slice_add (by omega) k2
    · rw [if_neg (fun h => hi h.1)]
      exact ⟨fun _ => by simp [toksOf, slice_self], 0, Wt.nil, by omega⟩
theorem parse_end (ts : List Tok) : (nodesD ts (colonsTo ts ts.length) ts.length 0 0).2 = ts.length := by
  obtain ⟨_, h1, h2, h3⟩ := nodes_same ts ts.length 0 0 (by omega) (by omega) fun _ => by simp [openAt, reps]
  rcases Nat.lt_or_ge (nodesD ts (colonsTo ts ts.length) ts.length 0 0).2 ts.length with g | g
  · have := (h3 g).2
    simp [shutD] at this
  · omega
theorem parse_back {ts : List Tok} (hs : Signs ts) : toksOf (parseD ts) = ts := by
  have := (nodes_back ts ts.length 0 0 (by omega) (by omega) fun _ => by simp [openAt, reps]).1 hs
  rw [parse_end] at this
  rw [parseD, this]
  simp [slice]
theorem parse_wt (ts : List Tok) : ∃ w, Wt (parseD ts) w ∧ w ≤ 2 * ts.length := by
  obtain ⟨w, h1, h2⟩ := (nodes_back ts ts.length 0 0 (by omega) (by omega) fun _ => by simp [openAt, reps]).2
  rw [parse_end] at h2
  exact ⟨w, h1, h2⟩
end Go.Vx.Seat
end
/- CtreeTells: the walk. -/
section
open Go Go.Vx Go.Proofs
set_option linter.unusedSimpArgs false
set_option linter.unusedVariables false
set_option maxRecDepth 10000
set_option maxHeartbeats 8000000
namespace Go.Vx.Seat
attribute [local congr] Rg_at Rt_at Ro_at Ri_at Rc_at Rto_at Rtk_at Rtf_at Rti_at
attribute [local irreducible] Rg Rt Ro Ri Rc Rto Rtk Rtf Rti Rw Rl Rd Rcall Rtcall kf
theorem fn3 : nth C1.P.funcs.toList 3 = some Try.f3 := by kernel_rfl
theorem give1 (ts : List Tok) : yfzC [.row 13 (ts.map Tok.pc)] (.own 0 13 0 ts.length) = some (.p (rT ts), [.dead]) := by
  have h : nth [Ent.row 13 (ts.map Tok.pc)] 0 = some (.row 13 (ts.map Tok.pc)) := rfl
  simp [yfzC, yrow, h, List.take_of_length_le]
theorem alive_spec : PCall C1 8 [] fun y => y = yd (.bool true) := PCall_told0 (by rfl) (by rfl)
theorem tells_spec (ts : List Tok) (ns : List Nd) (hl : ts.length ≤ maxL) (hn : ns.length ≤ maxL) (hx : ∀ x, x ∈ ns → NdMax x) : PCall C1 3 [.c (.p (rT ts)), .c (.p (rN ns))] fun y => y = yd (.bool true) := by
  refine Pf (by rfl) (by rfl) fn3 (by rfl) ?_
  simp only [Try.f3, List.length_cons, List.length_nil, List.replicate, List.cons_append, List.nil_append]
  simp -implicitDefEqProofs only [↓yP, yT, Nat.reduceAdd, Nat.reduceMul, Nat.reduceSub, Nat.reduceLeDiff, Nat.reduceEqDiff, reduceCtorEq, Nat.reduceBEq]
  refine Rcall_pure alive_spec (by rfl) fun y hy => ?_
  subst hy
  simp -implicitDefEqProofs only [↓yP, yT, Nat.reduceAdd, Nat.reduceMul, Nat.reduceSub, Nat.reduceLeDiff, Nat.reduceEqDiff, reduceCtorEq, Nat.reduceBEq]
  refine Rcall_pure (few_spec ts hl) (by rfl) fun y hy => ?_
  obtain ⟨b, rfl, hb⟩ := hy
  cases b with
  | false => 
    simp -implicitDefEqProofs only [↓yP, yT, Nat.reduceAdd, Nat.reduceMul, Nat.reduceSub, Nat.reduceLeDiff, Nat.reduceEqDiff, reduceCtorEq, Nat.reduceBEq]
  | true =>
    have hb := hb rfl
    simp -implicitDefEqProofs only [↓yP, yT, Nat.reduceAdd, Nat.reduceMul, Nat.reduceSub, Nat.reduceLeDiff, Nat.reduceEqDiff, reduceCtorEq, Nat.reduceBEq]
    refine Rcall_pure (fewN_spec ns hn hx) (by rfl) fun y hy => ?_
    obtain ⟨b, rfl, hb2⟩ := hy
    cases b with
    | false =>
      simp -implicitDefEqProofs only [↓yP, yT, Nat.reduceAdd, Nat.reduceMul, Nat.reduceSub, Nat.reduceLeDiff, Nat.reduceEqDiff, reduceCtorEq, Nat.reduceBEq]
    | true =>
      obtain ⟨n, hn1, hw⟩ := hb2 rfl
      have hg : (ts.length * 128 ≤ 70368744177664) = True := bnd (by omega)
      simp -implicitDefEqProofs only [↓yP, yT, Nat.reduceAdd, Nat.reduceMul, Nat.reduceSub, Nat.reduceLeDiff, Nat.reduceEqDiff, reduceCtorEq, Nat.reduceBEq, hg]
      refine Rcall_give (give1 ts) (parseP_spec ts (by omega)) (by rfl) fun y hy => ?_
      subst hy
      simp -implicitDefEqProofs only [↓yP, yT, Nat.reduceAdd, Nat.reduceMul, Nat.reduceSub, Nat.reduceLeDiff, Nat.reduceEqDiff, reduceCtorEq, Nat.reduceBEq]
      refine Rcall_pure (parseD_spec ts (by omega)) (by rfl) fun y hy => ?_
      subst hy
      simp -implicitDefEqProofs only [↓yP, yT, Nat.reduceAdd, Nat.reduceMul, Nat.reduceSub, Nat.reduceLeDiff, Nat.reduceEqDiff, reduceCtorEq, Nat.reduceBEq]
      refine Rcall_pure (parse_refl ts (by omega)) (by rfl) fun y hy => ?_
      subst hy
      simp -implicitDefEqProofs only [↓yP, yT, Nat.reduceAdd, Nat.reduceMul, Nat.reduceSub, Nat.reduceLeDiff, Nat.reduceEqDiff, reduceCtorEq, Nat.reduceBEq]
      refine Rcall_pure (tokensP_spec hw (by omega)) (by rfl) fun y hy => ?_
      subst hy
      simp -implicitDefEqProofs only [↓yP, yT, Nat.reduceAdd, Nat.reduceMul, Nat.reduceSub, Nat.reduceLeDiff, Nat.reduceEqDiff, reduceCtorEq, Nat.reduceBEq]
      refine Rcall_pure (tokensD_spec hw (by omega)) (by rfl) fun y hy => ?_
      subst hy
      simp -implicitDefEqProofs only [↓yP, yT, Nat.reduceAdd, Nat.reduceMul, Nat.reduceSub, Nat.reduceLeDiff, Nat.reduceEqDiff, reduceCtorEq, Nat.reduceBEq]
      have hs := hw.small
      refine Rcall_pure (sameTok_refl (toksOf ns) (by omega)) (by rfl) fun y hy => ?_
      subst hy
      simp -implicitDefEqProofs only [↓yP, yT, Nat.reduceAdd, Nat.reduceMul, Nat.reduceSub, Nat.reduceLeDiff, Nat.reduceEqDiff, reduceCtorEq, Nat.reduceBEq]
end Go.Vx.Seat
end
/- The lexer's small functions. -/
section
open Go Go.Vx Go.Proofs
set_option linter.unusedSimpArgs false
set_option linter.unusedVariables false
set_option maxRecDepth 10000
set_option maxHeartbeats 4000000
namespace Go.Vx.Seat
attribute [local congr] Rg_at Rt_at Ro_at Ri_at Rc_at Rto_at Rtk_at Rtf_at Rti_at
attribute [local irreducible] Rg Rt Ro Ri Rc Rto Rtk Rtf Rti Rw Rl Rd Rcall Rtcall kf
theorem fn66 : nth C1.P.funcs.toList 66 = some Try.f66 := by kernel_rfl
theorem fn82 : nth C1.P.funcs.toList 82 = some Try.f82 := by kernel_rfl
theorem fn81 : nth C1.P.funcs.toList 81 = some Try.f81 := by kernel_rfl
theorem fn68 : nth C1.P.funcs.toList 68 = some Try.f68 := by kernel_rfl
theorem fn65 : nth C1.P.funcs.toList 65 = some Try.f65 := by kernel_rfl
theorem fn88 : nth C1.P.funcs.toList 88 = some Try.f88 := by kernel_rfl
theorem fn69 : nth C1.P.funcs.toList 69 = some Try.f69 := by kernel_rfl
theorem fn83 : nth C1.P.funcs.toList 83 = some Try.f83 := by kernel_rfl
theorem fn72 : nth C1.P.funcs.toList 72 = some Try.f72 := by kernel_rfl
theorem fn71 : nth C1.P.funcs.toList 71 = some Try.f71 := by kernel_rfl
/-- A code point, and where it stands. -/
structure Rn where
  r : Int
  a : Int
def Rn.pc (x : Rn) : List PC := [.d (.int .i64 x.r), .d (.int .i64 x.a)]
abbrev rR (l : List Rn) : PC := .row 2 (l.map Rn.pc)
instance : Inhabited Rn := ⟨⟨0, 0⟩⟩
def atR (l : List Rn) (i : Int) : Int := if i < 0 then -1 else match l[i.toNat]? with | some x => x.r | none => -1
theorem atR_get {l : List Rn} {i : Nat} {x : Rn} (h : l[i]? = some x) : atR l (i : Nat) = x.r := by
  rw [atR, if_neg (by omega), Int.toNat_natCast, h]
theorem atR_out {l : List Rn} {i : Int} (h : (l.length : Int) ≤ i) : atR l i = -1 := by
  rw [atR, if_neg (by omega), List.getElem?_eq_none (by omega)]
theorem atR_in {l : List Rn} {i : Nat} (h : atR l (i : Nat) ≠ -1) : ∃ x, l[i]? = some x ∧ x.r = atR l (i : Nat) := by
  rcases hx : l[i]? with _ | x
  · exfalso; apply h; rw [atR, if_neg (by omega), Int.toNat_natCast, hx]
  · exact ⟨x, rfl, (atR_get hx).symm⟩
theorem of_leF {a b : Int} (h : leI a b = false) : b < a := by rw [leI_eq] at h; simpa using h
theorem of_leT {a b : Int} (h : leI a b = true) : a ≤ b := by rw [leI_eq] at h; simpa using h
theorem of_eqF {a b : Int} (h : eqI a b = false) : a ≠ b := by rw [eqI_eq] at h; simpa using h
theorem of_eqT {a b : Int} (h : eqI a b = true) : a = b := by rw [eqI_eq] at h; simpa using h
theorem at_spec (l : List Rn) (i : Int) : PCall C1 66 [.c (.p (rR l)), yd (.int .i64 i)] fun y => y = yd (.int .i64 (atR l i)) := by
  refine Pf (by rfl) (by rfl) fn66 (by rfl) ?_
  simp only [Try.f66, List.length_cons, List.length_nil, List.replicate, List.cons_append, List.nil_append]
  cases h1 : leI 0 i with
  | false =>
    have := of_leF h1
    simp -implicitDefEqProofs only [↓yP, yT, Nat.reduceAdd, Nat.reduceMul, Nat.reduceSub, Nat.reduceLeDiff, Nat.reduceEqDiff, reduceCtorEq, Nat.reduceBEq, h1, atR, this]
  | true =>
    have h1' := of_leT h1
    cases h2 : leI (l.length : Nat) i with
    | true =>
      simp -implicitDefEqProofs only [↓yP, yT, Nat.reduceAdd, Nat.reduceMul, Nat.reduceSub, Nat.reduceLeDiff, Nat.reduceEqDiff, reduceCtorEq, Nat.reduceBEq, h1, h2]
      rw [atR_out (of_leT h2)]
    | false =>
      have h2' := of_leF h2
      obtain ⟨n, rfl⟩ := Int.eq_ofNat_of_zero_le h1'
      obtain ⟨x, hx⟩ := get_lt (l := l) (i := n) (by omega)
      simp -implicitDefEqProofs only [↓yP, yT, Nat.reduceAdd, Nat.reduceMul, Nat.reduceSub, Nat.reduceLeDiff, Nat.reduceEqDiff, reduceCtorEq, Nat.reduceBEq, h1, h2, get_map hx, Rn.pc, atR_get hx]
def digitB (r : Int) : Bool := leI 48 r && leI r 57
theorem digit_spec (r : Int) : PCall C1 82 [yd (.int .i64 r)] fun y => y = yd (.bool (digitB r)) := by
  refine Pf (by rfl) (by rfl) fn82 (by rfl) ?_
  simp only [Try.f82, List.length_cons, List.length_nil, List.replicate, List.cons_append, List.nil_append]
  cases h1 : leI 48 r <;> cases h2 : leI r 57 <;> simp -implicitDefEqProofs only [↓yP, yT, Nat.reduceAdd, Nat.reduceMul, Nat.reduceSub, Nat.reduceLeDiff, Nat.reduceEqDiff, reduceCtorEq, Nat.reduceBEq, digitB, h1, h2] <;> rfl
def startB (r : Int) : Bool := (leI 97 r && leI r 122) || (leI 65 r && leI r 90) || eqI r 95 || leI 128 r
theorem start_spec (r : Int) : PCall C1 81 [yd (.int .i64 r)] fun y => y = yd (.bool (startB r)) := by
  refine Pf (by rfl) (by rfl) fn81 (by rfl) ?_
  simp only [Try.f81, List.length_cons, List.length_nil, List.replicate, List.cons_append, List.nil_append]
  cases h1 : leI 97 r <;> cases h2 : leI r 122 <;> cases h3 : leI 65 r <;> cases h4 : leI r 90 <;> cases h5 : eqI r 95 <;> cases h6 : leI 128 r <;> simp -implicitDefEqProofs only [↓yP, yT, Nat.reduceAdd, Nat.reduceMul, Nat.reduceSub, Nat.reduceLeDiff, Nat.reduceEqDiff, reduceCtorEq, Nat.reduceBEq, startB, h1, h2, h3, h4, h5, h6] <;> rfl
def inB (r : Int) : Bool := startB r || digitB r || eqI r 45
theorem in_spec1 (r : Int) : PCall C1 68 [yd (.int .i64 r)] fun y => y = yd (.bool (inB r)) := by
  refine Pf (by rfl) (by rfl) fn68 (by rfl) ?_
  simp only [Try.f68, List.length_cons, List.length_nil, List.replicate, List.cons_append, List.nil_append]
  simp -implicitDefEqProofs only [↓yP, yT, Nat.reduceAdd, Nat.reduceMul, Nat.reduceSub, Nat.reduceLeDiff, Nat.reduceEqDiff, reduceCtorEq, Nat.reduceBEq]
  refine Rcall_pure (start_spec r) (by rfl) fun y hy => ?_
  subst hy
  cases h1 : startB r with
  | true => cases h3 : eqI r 45 <;> simp -implicitDefEqProofs only [↓yP, yT, Nat.reduceAdd, Nat.reduceMul, Nat.reduceSub, Nat.reduceLeDiff, Nat.reduceEqDiff, reduceCtorEq, Nat.reduceBEq, inB, h1, h3]
  | false =>
    simp -implicitDefEqProofs only [↓yP, yT, Nat.reduceAdd, Nat.reduceMul, Nat.reduceSub, Nat.reduceLeDiff, Nat.reduceEqDiff, reduceCtorEq, Nat.reduceBEq]
    refine Rcall_pure (digit_spec r) (by rfl) fun y hy => ?_
    subst hy
    cases h2 : digitB r <;> cases h3 : eqI r 45 <;> simp -implicitDefEqProofs only [↓yP, yT, Nat.reduceAdd, Nat.reduceMul, Nat.reduceSub, Nat.reduceLeDiff, Nat.reduceEqDiff, reduceCtorEq, Nat.reduceBEq, inB, h1, h2, h3]
def blankB (r : Int) : Bool := eqI r 32 || eqI r 9 || eqI r 10
theorem blank_spec1 (r : Int) : PCall C1 65 [yd (.int .i64 r)] fun y => y = yd (.bool (blankB r)) := by
  refine Pf (by rfl) (by rfl) fn65 (by rfl) ?_
  simp only [Try.f65, List.length_cons, List.length_nil, List.replicate, List.cons_append, List.nil_append]
  cases h1 : eqI r 32 <;> cases h2 : eqI r 9 <;> cases h3 : eqI r 10 <;> simp -implicitDefEqProofs only [↓yP, yT, Nat.reduceAdd, Nat.reduceMul, Nat.reduceSub, Nat.reduceLeDiff, Nat.reduceEqDiff, reduceCtorEq, Nat.reduceBEq, blankB, h1, h2, h3]
/-- A digit of base 16, or below 0. -/
def hexR (r : Int) : Int := if digitB r = true then wrapK .i64 (r - 48) else if (leI 97 r && leI r 102) = true then wrapK .i64 (wrapK .i64 (r - 97) + 10) else if (leI 65 r && leI r 70) = true then wrapK .i64 (wrapK .i64 (r - 65) + 10) else -1
theorem hex_spec (r : Int) : PCall C1 88 [yd (.int .i64 r)] fun y => y = yd (.int .i64 (hexR r)) := by
  refine Pf (by rfl) (by rfl) fn88 (by rfl) ?_
  simp only [Try.f88, List.length_cons, List.length_nil, List.replicate, List.cons_append, List.nil_append]
  simp -implicitDefEqProofs only [↓yP, yT, Nat.reduceAdd, Nat.reduceMul, Nat.reduceSub, Nat.reduceLeDiff, Nat.reduceEqDiff, reduceCtorEq, Nat.reduceBEq]
  refine Rcall_pure (digit_spec r) (by rfl) fun y hy => ?_
  subst hy
  cases h1 : digitB r with
  | true => simp -implicitDefEqProofs only [↓yP, yT, Nat.reduceAdd, Nat.reduceMul, Nat.reduceSub, Nat.reduceLeDiff, Nat.reduceEqDiff, reduceCtorEq, Nat.reduceBEq, hexR, h1]
  | false => cases h2 : leI 97 r <;> cases h3 : leI r 102 <;> cases h4 : leI 65 r <;> cases h5 : leI r 70 <;> simp -implicitDefEqProofs only [↓yP, yT, Nat.reduceAdd, Nat.reduceMul, Nat.reduceSub, Nat.reduceLeDiff, Nat.reduceEqDiff, reduceCtorEq, Nat.reduceBEq, hexR, h1, h2, h3, h4, h5] <;> rfl
theorem hexR_out : hexR (-1) = -1 := by simp [hexR, digitB, leI_eq]
def escB (l : List Rn) (i : Nat) : Bool := eqI (atR l (i : Nat)) 92 && !eqI (atR l ((i + 1 : Nat) : Int)) 10
theorem escape_spec (l : List Rn) (i : Nat) (hi : i ≤ 5000000) : PCall C1 69 [.c (.p (rR l)), yd (.int .i64 (i : Nat))] fun y => y = yd (.bool (escB l i)) := by
  have w1 : wrapK .i64 ((i : Int) + 1) = ((i + 1 : Nat) : Int) := wrap_succ (by omega)
  refine Pf (by rfl) (by rfl) fn69 (by rfl) ?_
  simp only [Try.f69, List.length_cons, List.length_nil, List.replicate, List.cons_append, List.nil_append]
  simp -implicitDefEqProofs only [↓yP, yT, Nat.reduceAdd, Nat.reduceMul, Nat.reduceSub, Nat.reduceLeDiff, Nat.reduceEqDiff, reduceCtorEq, Nat.reduceBEq]
  refine Rcall_pure (at_spec l i) (by rfl) fun y hy => ?_
  subst hy
  cases h1 : eqI (atR l (i : Nat)) 92 with
  | false => simp -implicitDefEqProofs only [↓yP, yT, Nat.reduceAdd, Nat.reduceMul, Nat.reduceSub, Nat.reduceLeDiff, Nat.reduceEqDiff, reduceCtorEq, Nat.reduceBEq, Bool.true_and, Bool.false_and, Bool.and_true, Bool.and_false, escB, h1]
  | true =>
    simp -implicitDefEqProofs only [↓yP, yT, Nat.reduceAdd, Nat.reduceMul, Nat.reduceSub, Nat.reduceLeDiff, Nat.reduceEqDiff, reduceCtorEq, Nat.reduceBEq, h1, w1]
    refine Rcall_pure (at_spec l _) (by rfl) fun y hy => ?_
    subst hy
    cases h2 : eqI (atR l ((i + 1 : Nat) : Int)) 10 <;> simp -implicitDefEqProofs only [↓yP, yT, Nat.reduceAdd, Nat.reduceMul, Nat.reduceSub, Nat.reduceLeDiff, Nat.reduceEqDiff, reduceCtorEq, Nat.reduceBEq, Bool.true_and, Bool.false_and, Bool.and_true, Bool.and_false, escB, h1, h2]
theorem cap_spec (n a b : Int) : PCall C1 83 [yd (.int .i64 n), yd (.int .i64 a), yd (.int .i64 b)] fun y => y = yd (.int .i64 (if n < a then a else if b < n then b else n)) := by
  refine Pf (by rfl) (by rfl) fn83 (by rfl) ?_
  simp only [Try.f83, List.length_cons, List.length_nil, List.replicate, List.cons_append, List.nil_append]
  cases h1 : leI a n with
  | false =>
    have := of_leF h1
    simp -implicitDefEqProofs only [↓yP, yT, Nat.reduceAdd, Nat.reduceMul, Nat.reduceSub, Nat.reduceLeDiff, Nat.reduceEqDiff, reduceCtorEq, Nat.reduceBEq, h1, this]
  | true =>
    have h1' : ¬ n < a := by have := of_leT h1; omega
    cases h2 : leI n b with
    | false =>
      have := of_leF h2
      simp -implicitDefEqProofs only [↓yP, yT, Nat.reduceAdd, Nat.reduceMul, Nat.reduceSub, Nat.reduceLeDiff, Nat.reduceEqDiff, reduceCtorEq, Nat.reduceBEq, h1, h2, h1', this]
    | true =>
      have h2' : ¬ b < n := by have := of_leT h2; omega
      simp -implicitDefEqProofs only [↓yP, yT, Nat.reduceAdd, Nat.reduceMul, Nat.reduceSub, Nat.reduceLeDiff, Nat.reduceEqDiff, reduceCtorEq, Nat.reduceBEq, h1, h2, h1', h2']
def numeralB (l : List Rn) (i : Nat) : Bool :=
  let j := if eqI (atR l (i : Nat)) 43 || eqI (atR l (i : Nat)) 45 then i + 1 else i
  digitB (atR l (j : Nat)) || (eqI (atR l (j : Nat)) 46 && digitB (atR l ((j + 1 : Nat) : Int)))
theorem numeral_spec (l : List Rn) (i : Nat) (hi : i ≤ 4000000) : PCall C1 72 [.c (.p (rR l)), yd (.int .i64 (i : Nat))] fun y => y = yd (.bool (numeralB l i)) := by
  have w1 : wrapK .i64 ((i : Int) + 1) = ((i + 1 : Nat) : Int) := wrap_succ (by omega)
  have w2 : wrapK .i64 (((i + 1 : Nat) : Int) + 1) = ((i + 1 + 1 : Nat) : Int) := wrap_succ (by omega)
  refine Pf (by rfl) (by rfl) fn72 (by rfl) ?_
  simp only [Try.f72, List.length_cons, List.length_nil, List.replicate, List.cons_append, List.nil_append]
  simp -implicitDefEqProofs only [↓yP, yT, Nat.reduceAdd, Nat.reduceMul, Nat.reduceSub, Nat.reduceLeDiff, Nat.reduceEqDiff, reduceCtorEq, Nat.reduceBEq]
  refine Rcall_pure (at_spec l i) (by rfl) fun y hy => ?_
  subst hy
  cases h1 : eqI (atR l (i : Nat)) 43 <;> cases h2 : eqI (atR l (i : Nat)) 45
  · simp -implicitDefEqProofs only [↓yP, yT, Nat.reduceAdd, Nat.reduceMul, Nat.reduceSub, Nat.reduceLeDiff, Nat.reduceEqDiff, reduceCtorEq, Nat.reduceBEq, h1, h2]
    refine Rcall_pure (digit_spec _) (by rfl) fun y hy => ?_
    subst hy
    cases h3 : digitB (atR l (i : Nat)) with
    | true => simp -implicitDefEqProofs only [↓yP, yT, Nat.reduceAdd, Nat.reduceMul, Nat.reduceSub, Nat.reduceLeDiff, Nat.reduceEqDiff, reduceCtorEq, Nat.reduceBEq, Bool.true_and, Bool.false_and, Bool.and_true, Bool.and_false, numeralB, h1, h2, h3]
    | false =>
      cases h4 : eqI (atR l (i : Nat)) 46 with
      | false => simp -implicitDefEqProofs only [↓yP, yT, Nat.reduceAdd, Nat.reduceMul, Nat.reduceSub, Nat.reduceLeDiff, Nat.reduceEqDiff, reduceCtorEq, Nat.reduceBEq, Bool.true_and, Bool.false_and, Bool.and_true, Bool.and_false, numeralB, h1, h2, h3, h4]
      | true =>
        simp -implicitDefEqProofs only [↓yP, yT, Nat.reduceAdd, Nat.reduceMul, Nat.reduceSub, Nat.reduceLeDiff, Nat.reduceEqDiff, reduceCtorEq, Nat.reduceBEq, h1, h2, h3, h4, w1]
        refine Rcall_pure (at_spec l _) (by rfl) fun y hy => ?_
        subst hy
        simp -implicitDefEqProofs only [↓yP, yT, Nat.reduceAdd, Nat.reduceMul, Nat.reduceSub, Nat.reduceLeDiff, Nat.reduceEqDiff, reduceCtorEq, Nat.reduceBEq]
        refine Rcall_pure (digit_spec _) (by rfl) fun y hy => ?_
        subst hy
        simp -implicitDefEqProofs only [↓yP, yT, Nat.reduceAdd, Nat.reduceMul, Nat.reduceSub, Nat.reduceLeDiff, Nat.reduceEqDiff, reduceCtorEq, Nat.reduceBEq, Bool.true_and, Bool.false_and, Bool.and_true, Bool.and_false, numeralB, h1, h2, h3, h4]
  all_goals
    simp -implicitDefEqProofs only [↓yP, yT, Nat.reduceAdd, Nat.reduceMul, Nat.reduceSub, Nat.reduceLeDiff, Nat.reduceEqDiff, reduceCtorEq, Nat.reduceBEq, h1, h2, w1]
    refine Rcall_pure (at_spec l _) (by rfl) fun y hy => ?_
    subst hy
    simp -implicitDefEqProofs only [↓yP, yT, Nat.reduceAdd, Nat.reduceMul, Nat.reduceSub, Nat.reduceLeDiff, Nat.reduceEqDiff, reduceCtorEq, Nat.reduceBEq]
    refine Rcall_pure (digit_spec _) (by rfl) fun y hy => ?_
    subst hy
    cases h3 : digitB (atR l ((i + 1 : Nat) : Int)) with
    | true => simp -implicitDefEqProofs only [↓yP, yT, Nat.reduceAdd, Nat.reduceMul, Nat.reduceSub, Nat.reduceLeDiff, Nat.reduceEqDiff, reduceCtorEq, Nat.reduceBEq, Bool.true_and, Bool.false_and, Bool.and_true, Bool.and_false, numeralB, h1, h2, h3]
    | false =>
      cases h4 : eqI (atR l ((i + 1 : Nat) : Int)) 46 with
      | false => simp -implicitDefEqProofs only [↓yP, yT, Nat.reduceAdd, Nat.reduceMul, Nat.reduceSub, Nat.reduceLeDiff, Nat.reduceEqDiff, reduceCtorEq, Nat.reduceBEq, Bool.true_and, Bool.false_and, Bool.and_true, Bool.and_false, numeralB, h1, h2, h3, h4]
      | true =>
        simp -implicitDefEqProofs only [↓yP, yT, Nat.reduceAdd, Nat.reduceMul, Nat.reduceSub, Nat.reduceLeDiff, Nat.reduceEqDiff, reduceCtorEq, Nat.reduceBEq, h1, h2, h3, h4, w2]
        refine Rcall_pure (at_spec l _) (by rfl) fun y hy => ?_
        subst hy
        simp -implicitDefEqProofs only [↓yP, yT, Nat.reduceAdd, Nat.reduceMul, Nat.reduceSub, Nat.reduceLeDiff, Nat.reduceEqDiff, reduceCtorEq, Nat.reduceBEq]
        refine Rcall_pure (digit_spec _) (by rfl) fun y hy => ?_
        subst hy
        simp -implicitDefEqProofs only [↓yP, yT, Nat.reduceAdd, Nat.reduceMul, Nat.reduceSub, Nat.reduceLeDiff, Nat.reduceEqDiff, reduceCtorEq, Nat.reduceBEq, Bool.true_and, Bool.false_and, Bool.and_true, Bool.and_false, numeralB, h1, h2, h3, h4]
def beginsB (l : List Rn) (i : Nat) : Bool :=
  decide (i < l.length) && (if eqI (atR l (i : Nat)) 45 then startB (atR l ((i + 1 : Nat) : Int)) || eqI (atR l ((i + 1 : Nat) : Int)) 45 || escB l (i + 1) else startB (atR l (i : Nat)) || escB l i)
theorem begins_spec (l : List Rn) (i : Nat) (hi : i ≤ 4000000) : PCall C1 71 [.c (.p (rR l)), yd (.int .i64 (i : Nat))] fun y => y = yd (.bool (beginsB l i)) := by
  have w1 : wrapK .i64 ((i : Int) + 1) = ((i + 1 : Nat) : Int) := wrap_succ (by omega)
  refine Pf (by rfl) (by rfl) fn71 (by rfl) ?_
  simp only [Try.f71, List.length_cons, List.length_nil, List.replicate, List.cons_append, List.nil_append]
  have t0 : leI 0 (i : Nat) = true := leI_true (by omega)
  by_cases hl : i < l.length
  · have t1 : leI (l.length : Nat) (i : Nat) = false := leI_false (by omega)
    obtain ⟨x, hx⟩ := get_lt hl
    have hat := atR_get hx
    cases h1 : eqI x.r 45 with
    | true =>
      simp -implicitDefEqProofs only [↓yP, yT, Nat.reduceAdd, Nat.reduceMul, Nat.reduceSub, Nat.reduceLeDiff, Nat.reduceEqDiff, reduceCtorEq, Nat.reduceBEq, t0, t1, get_map hx, Rn.pc, h1, w1]
      refine Rcall_pure (at_spec l _) (by rfl) fun y hy => ?_
      subst hy
      simp -implicitDefEqProofs only [↓yP, yT, Nat.reduceAdd, Nat.reduceMul, Nat.reduceSub, Nat.reduceLeDiff, Nat.reduceEqDiff, reduceCtorEq, Nat.reduceBEq]
      refine Rcall_pure (start_spec _) (by rfl) fun y hy => ?_
      subst hy
      cases h2 : startB (atR l ((i + 1 : Nat) : Int)) <;> cases h3 : eqI (atR l ((i + 1 : Nat) : Int)) 45
      · simp -implicitDefEqProofs only [↓yP, yT, Nat.reduceAdd, Nat.reduceMul, Nat.reduceSub, Nat.reduceLeDiff, Nat.reduceEqDiff, reduceCtorEq, Nat.reduceBEq, h3, w1]
        refine Rcall_pure (escape_spec l _ (by omega)) (by rfl) fun y hy => ?_
        subst hy
        simp -implicitDefEqProofs only [↓yP, yT, Nat.reduceAdd, Nat.reduceMul, Nat.reduceSub, Nat.reduceLeDiff, Nat.reduceEqDiff, reduceCtorEq, Nat.reduceBEq, Bool.true_and, Bool.false_and, Bool.and_true, Bool.and_false, beginsB, hat, h1, h2, h3, hl, decide_true]
      all_goals simp -implicitDefEqProofs only [↓yP, yT, Nat.reduceAdd, Nat.reduceMul, Nat.reduceSub, Nat.reduceLeDiff, Nat.reduceEqDiff, reduceCtorEq, Nat.reduceBEq, Bool.true_and, Bool.false_and, Bool.and_true, Bool.and_false, h3, beginsB, hat, h1, h2, hl, decide_true]
    | false =>
      simp -implicitDefEqProofs only [↓yP, yT, Nat.reduceAdd, Nat.reduceMul, Nat.reduceSub, Nat.reduceLeDiff, Nat.reduceEqDiff, reduceCtorEq, Nat.reduceBEq, t0, t1, get_map hx, Rn.pc, h1]
      refine Rcall_pure (start_spec _) (by rfl) fun y hy => ?_
      subst hy
      cases h2 : startB x.r with
      | true => simp -implicitDefEqProofs only [↓yP, yT, Nat.reduceAdd, Nat.reduceMul, Nat.reduceSub, Nat.reduceLeDiff, Nat.reduceEqDiff, reduceCtorEq, Nat.reduceBEq, Bool.true_and, Bool.false_and, Bool.and_true, Bool.and_false, beginsB, hat, h1, h2, hl, decide_true]
      | false =>
        simp -implicitDefEqProofs only [↓yP, yT, Nat.reduceAdd, Nat.reduceMul, Nat.reduceSub, Nat.reduceLeDiff, Nat.reduceEqDiff, reduceCtorEq, Nat.reduceBEq]
        refine Rcall_pure (escape_spec l _ (by omega)) (by rfl) fun y hy => ?_
        subst hy
        simp -implicitDefEqProofs only [↓yP, yT, Nat.reduceAdd, Nat.reduceMul, Nat.reduceSub, Nat.reduceLeDiff, Nat.reduceEqDiff, reduceCtorEq, Nat.reduceBEq, Bool.true_and, Bool.false_and, Bool.and_true, Bool.and_false, beginsB, hat, h1, h2, hl, decide_true]
  · have t1 : leI (l.length : Nat) (i : Nat) = true := leI_true (by omega)
    simp -implicitDefEqProofs only [↓yP, yT, Nat.reduceAdd, Nat.reduceMul, Nat.reduceSub, Nat.reduceLeDiff, Nat.reduceEqDiff, reduceCtorEq, Nat.reduceBEq, Bool.true_and, Bool.false_and, Bool.and_true, Bool.and_false, t0, t1, beginsB, hl, decide_false]
end Go.Vx.Seat
end
/- The lexer's bytes. -/
section
open Go Go.Vx Go.Proofs
set_option linter.unusedSimpArgs false
set_option linter.unusedVariables false
set_option maxRecDepth 10000
set_option maxHeartbeats 4000000
namespace Go.Vx.Seat
attribute [local congr] Rg_at Rt_at Ro_at Ri_at Rc_at Rto_at Rtk_at Rtf_at Rti_at
attribute [local irreducible] Rg Rt Ro Ri Rc Rto Rtk Rtf Rti Rw Rl Rd Rcall Rtcall kf
theorem fn80 : nth C1.P.funcs.toList 80 = some Try.f80 := by kernel_rfl
theorem fn78 : nth C1.P.funcs.toList 78 = some Try.f78 := by kernel_rfl
theorem fn64 : nth C1.P.funcs.toList 64 = some Try.f64 := by kernel_rfl
theorem fn79 : nth C1.P.funcs.toList 79 = some Try.f79 := by kernel_rfl
theorem fn70 : nth C1.P.funcs.toList 70 = some Try.f70 := by kernel_rfl
theorem fn75 : nth C1.P.funcs.toList 75 = some Try.f75 := by kernel_rfl
theorem fn53 : nth C1.P.funcs.toList 53 = some Try.f53 := by kernel_rfl
theorem fn33 : nth C1.P.funcs.toList 33 = some Try.f33 := by kernel_rfl
def eb (n : Int) : List PC := [.d (.int .u8 n)]
abbrev rB (l : List Int) : PC := .row 1 (l.map eb)
def andI (a b : Int) : Int := IntKind.wrap .i64 (BitVec.ofInt IntKind.i64.bits a &&& BitVec.ofInt IntKind.i64.bits b).toNat
def orI (a b : Int) : Int := IntKind.wrap .i64 (BitVec.ofInt IntKind.i64.bits a ||| BitVec.ofInt IntKind.i64.bits b).toNat
def shrI (a n : Int) : Int := a.fdiv (2 ^ (min n.toNat IntKind.i64.bits))
theorem xint_and (a b : Int) : xint .and .i64 a b = some (.int .i64 (andI a b)) := rfl
theorem xint_or (a b : Int) : xint .or .i64 a b = some (.int .i64 (orI a b)) := rfl
theorem xshr (a : Int) (n : Nat) : xshift .shr .i64 a (n : Nat) = some (.int .i64 (shrI a (n : Nat))) := by
  rw [xshift, if_neg (by omega)]; rfl
theorem shr6 (a : Int) : xshift .shr .i64 a 6 = some (.int .i64 (shrI a 6)) := xshr a 6
theorem shr12 (a : Int) : xshift .shr .i64 a 12 = some (.int .i64 (shrI a 12)) := xshr a 12
theorem shr18 (a : Int) : xshift .shr .i64 a 18 = some (.int .i64 (shrI a 18)) := xshr a 18
def putR (r : Int) : Int := if (leI 0 r && leI r 1114111 && !(leI 55296 r && !leI 57344 r)) = true then r else 65533
/-- The bytes of a code point. -/
def putL (r : Int) : List Int :=
  if leI 128 r = false then [wrapK .u8 r]
  else if leI 2048 r = false then [wrapK .u8 (orI 192 (shrI r 6)), wrapK .u8 (orI 128 (andI r 63))]
  else if leI 65536 r = false then [wrapK .u8 (orI 224 (shrI r 12)), wrapK .u8 (orI 128 (andI (shrI r 6) 63)), wrapK .u8 (orI 128 (andI r 63))]
  else [wrapK .u8 (orI 240 (shrI r 18)), wrapK .u8 (orI 128 (andI (shrI r 12) 63)), wrapK .u8 (orI 128 (andI (shrI r 6) 63)), wrapK .u8 (orI 128 (andI r 63))]
def putB (r : Int) : List Int := putL (putR r)
theorem putB_len (r : Int) : 1 ≤ (putB r).length ∧ (putB r).length ≤ 4 := by
  unfold putB putL
  split
  · simp
  · split
    · simp
    · split <;> simp
theorem put_spec (r : Int) (els : List Int) (hl : els.length ≤ 1000000000) : YC C1 false 80 [.c (.own 0 1 0 (els.map eb).length), yd (.int .i64 r)] [.row 1 (els.map eb)] (KOwn 1 ((els ++ putB r).map eb)) := by
  refine Yf0 [] (by rfl) (by rfl) fn80 (by rfl) ?_
  simp only [Try.f80, List.length_cons, List.length_nil, List.replicate, List.cons_append, List.nil_append]
  have b1 : (els.length + 1) * 1 ≤ 70368744177664 := by omega
  have b2 : (els.length + 2) * 1 ≤ 70368744177664 := by omega
  have b3 : (els.length + 3) * 1 ≤ 70368744177664 := by omega
  have b4 : (els.length + 4) * 1 ≤ 70368744177664 := by omega
  have g1 : leI 128 65533 = true := rfl
  have g2 : leI 2048 65533 = true := rfl
  have g3 : leI 65536 65533 = false := rfl
  cases h1 : leI 0 r with
  | false =>
    cases h2 : leI r 1114111 <;> cases h3 : leI 55296 r <;> cases h4 : leI 57344 r
    all_goals
      have hp : putB r = [wrapK .u8 (orI 224 (shrI 65533 12)), wrapK .u8 (orI 128 (andI (shrI 65533 6) 63)), wrapK .u8 (orI 128 (andI 65533 63))] := by
        simp only [putB, putR, h1, h2, h3, h4, Bool.true_and, Bool.false_and, Bool.and_true, Bool.and_false, Bool.not_true, Bool.not_false, Bool.false_eq_true, if_true, if_false, putL, g1, g2, g3, reduceCtorEq]
      simp -implicitDefEqProofs only [↓yP, yT, Nat.reduceAdd, Nat.reduceMul, Nat.reduceSub, Nat.reduceLeDiff, Nat.reduceEqDiff, reduceCtorEq, Nat.reduceBEq, Nat.reduceLT, shr6, shr12, shr18, xint_and, xint_or, g1, g2, g3, h1, h2, h3, h4, b1, b2, b3, b4]
      refine ⟨[0, 2], by decide, pinned_one _, .inr ⟨?_, ?_⟩⟩
      · simp only [List.length_map, List.length_append, hp]; rfl
      · simp only [yE, Nat.reduceEqDiff, Nat.reduceAdd, reduceCtorEq, List.map_append, hp]; rfl
  | true =>
    cases h2 : leI r 1114111 with
    | false =>
      cases h3 : leI 55296 r <;> cases h4 : leI 57344 r
      all_goals
        have hp : putB r = [wrapK .u8 (orI 224 (shrI 65533 12)), wrapK .u8 (orI 128 (andI (shrI 65533 6) 63)), wrapK .u8 (orI 128 (andI 65533 63))] := by
          simp only [putB, putR, h1, h2, h3, h4, Bool.true_and, Bool.false_and, Bool.and_true, Bool.and_false, Bool.not_true, Bool.not_false, Bool.false_eq_true, if_true, if_false, putL, g1, g2, g3, reduceCtorEq]
        simp -implicitDefEqProofs only [↓yP, yT, Nat.reduceAdd, Nat.reduceMul, Nat.reduceSub, Nat.reduceLeDiff, Nat.reduceEqDiff, reduceCtorEq, Nat.reduceBEq, Nat.reduceLT, shr6, shr12, shr18, xint_and, xint_or, g1, g2, g3, h1, h2, h3, h4, b1, b2, b3, b4]
        refine ⟨[0, 2], by decide, pinned_one _, .inr ⟨?_, ?_⟩⟩
        · simp only [List.length_map, List.length_append, hp]; rfl
        · simp only [yE, Nat.reduceEqDiff, Nat.reduceAdd, reduceCtorEq, List.map_append, hp]; rfl
    | true =>
      cases h3 : leI 55296 r with
      | false =>
        cases h4 : leI 57344 r
        all_goals
          cases h5 : leI 128 r <;> cases h6 : leI 2048 r <;> cases h7 : leI 65536 r
          all_goals
            have hp : putB r = putL r := by
              simp only [putB, putR, h1, h2, h3, h4, Bool.true_and, Bool.false_and, Bool.and_true, Bool.and_false, Bool.not_true, Bool.not_false, Bool.false_eq_true, if_true, if_false]
            simp -implicitDefEqProofs only [↓yP, yT, Nat.reduceAdd, Nat.reduceMul, Nat.reduceSub, Nat.reduceLeDiff, Nat.reduceEqDiff, reduceCtorEq, Nat.reduceBEq, Nat.reduceLT, shr6, shr12, shr18, xint_and, xint_or, h1, h2, h3, h4, h5, h6, h7, b1, b2, b3, b4]
            refine ⟨[0, 2], by decide, pinned_one _, .inr ⟨?_, ?_⟩⟩
            · simp only [List.length_map, List.length_append, hp, putL, h5, h6, h7, if_true, if_false, reduceCtorEq]; rfl
            · simp only [yE, Nat.reduceEqDiff, Nat.reduceAdd, reduceCtorEq, List.map_append, hp, putL, h5, h6, h7]; rfl
      | true =>
        cases h4 : leI 57344 r with
        | false =>
          have hp : putB r = [wrapK .u8 (orI 224 (shrI 65533 12)), wrapK .u8 (orI 128 (andI (shrI 65533 6) 63)), wrapK .u8 (orI 128 (andI 65533 63))] := by
            simp only [putB, putR, h1, h2, h3, h4, Bool.true_and, Bool.false_and, Bool.and_true, Bool.and_false, Bool.not_true, Bool.not_false, Bool.false_eq_true, if_true, if_false, putL, g1, g2, g3, reduceCtorEq]
          simp -implicitDefEqProofs only [↓yP, yT, Nat.reduceAdd, Nat.reduceMul, Nat.reduceSub, Nat.reduceLeDiff, Nat.reduceEqDiff, reduceCtorEq, Nat.reduceBEq, Nat.reduceLT, shr6, shr12, shr18, xint_and, xint_or, g1, g2, g3, h1, h2, h3, h4, b1, b2, b3, b4]
          refine ⟨[0, 2], by decide, pinned_one _, .inr ⟨?_, ?_⟩⟩
          · simp only [List.length_map, List.length_append, hp]; rfl
          · simp only [yE, Nat.reduceEqDiff, Nat.reduceAdd, reduceCtorEq, List.map_append, hp]; rfl
        | true =>
          cases h5 : leI 128 r <;> cases h6 : leI 2048 r <;> cases h7 : leI 65536 r
          all_goals
            have hp : putB r = putL r := by
              simp only [putB, putR, h1, h2, h3, h4, Bool.true_and, Bool.false_and, Bool.and_true, Bool.and_false, Bool.not_true, Bool.not_false, Bool.false_eq_true, if_true, if_false]
            simp -implicitDefEqProofs only [↓yP, yT, Nat.reduceAdd, Nat.reduceMul, Nat.reduceSub, Nat.reduceLeDiff, Nat.reduceEqDiff, reduceCtorEq, Nat.reduceBEq, Nat.reduceLT, shr6, shr12, shr18, xint_and, xint_or, h1, h2, h3, h4, h5, h6, h7, b1, b2, b3, b4]
            refine ⟨[0, 2], by decide, pinned_one _, .inr ⟨?_, ?_⟩⟩
            · simp only [List.length_map, List.length_append, hp, putL, h5, h6, h7, if_true, if_false, reduceCtorEq]; rfl
            · simp only [yE, Nat.reduceEqDiff, Nat.reduceAdd, reduceCtorEq, List.map_append, hp, putL, h5, h6, h7]; rfl
end Go.Vx.Seat
end
/- Escapes, names, texts. -/
section
open Go Go.Vx Go.Proofs
set_option linter.unusedSimpArgs false
set_option linter.unusedVariables false
set_option maxRecDepth 10000
set_option maxHeartbeats 4000000
namespace Go.Vx.Seat
attribute [local congr] Rg_at Rt_at Ro_at Ri_at Rc_at Rto_at Rtk_at Rtf_at Rti_at
attribute [local irreducible] Rg Rt Ro Ri Rc Rto Rtk Rtf Rti Rw Rl Rd Rcall Rtcall kf
theorem hexR_neg {l : List Rn} {k : Nat} (h : l.length ≤ k) : hexR (atR l (k : Nat)) = -1 := by rw [atR_out (by omega)]; exact hexR_out
theorem escaped_spec (l : List Rn) (i : Nat) (hl : l.length ≤ 1000000) (hi : i < l.length) : PCall C1 79 [.c (.p (rR l)), yd (.int .i64 (i : Nat))] fun y => ∃ (x : Int) (k : Nat), y = .tup [yd (.int .i64 x), yd (.int .i64 (k : Nat))] ∧ i < k ∧ k ≤ l.length := by
  have w1 : wrapK .i64 ((i : Int) + 1) = ((i + 1 : Nat) : Int) := wrap_succ (by omega)
  have w2 : wrapK .i64 ((i : Int) + 2) = ((i + 2 : Nat) : Int) := wrap_nat (i := i + 2) (by omega)
  have w7 : wrapK .i64 ((i : Int) + 7) = ((i + 7 : Nat) : Int) := wrap_nat (i := i + 7) (by omega)
  refine Pf (by rfl) (by rfl) fn79 (by rfl) ?_
  simp only [Try.f79, List.length_cons, List.length_nil, List.replicate, List.cons_append, List.nil_append]
  simp -implicitDefEqProofs only [↓yP, yT, Nat.reduceAdd, Nat.reduceMul, Nat.reduceSub, Nat.reduceLeDiff, Nat.reduceEqDiff, reduceCtorEq, Nat.reduceBEq, w1]
  refine Rcall_pure (at_spec l _) (by rfl) fun y hy => ?_
  subst hy
  by_cases h1 : i + 1 < l.length
  · have t1 : leI (l.length : Nat) ((i + 1 : Nat) : Int) = false := leI_false (by omega)
    simp -implicitDefEqProofs only [↓yP, yT, Nat.reduceAdd, Nat.reduceMul, Nat.reduceSub, Nat.reduceLeDiff, Nat.reduceEqDiff, reduceCtorEq, Nat.reduceBEq, t1, w1]
    refine Rcall_pure (hex_spec _) (by rfl) fun y hy => ?_
    subst hy
    cases h2 : leI 0 (hexR (atR l ((i + 1 : Nat) : Int))) with
    | false =>
      simp -implicitDefEqProofs only [↓yP, yT, Nat.reduceAdd, Nat.reduceMul, Nat.reduceSub, Nat.reduceLeDiff, Nat.reduceEqDiff, reduceCtorEq, Nat.reduceBEq, h2, w2]
      exact ⟨_, i + 2, rfl, by omega, by omega⟩
    | true =>
      simp -implicitDefEqProofs only [↓yP, yT, Nat.reduceAdd, Nat.reduceMul, Nat.reduceSub, Nat.reduceLeDiff, Nat.reduceEqDiff, reduceCtorEq, Nat.reduceBEq, h2, w1]
      refine Rl_inv (fun d e s => ∃ (k : Nat) (x : Int), e = [.c (.p (rR l)), yd (.int .i64 (i : Nat)), .c .top, .c .top, .c .top, .c .top, .c .top, yd (.int .i64 x), yd (.int .i64 (k : Nat)), .c .top, .c .top, .c .top, .c .top, .c .top, .c .top, .c .top, .c .top, .c .top, .c .top, .c .top, .c .top, .c .top, .c .top, .c .top, .c .top, .c .top, .c .top, .c .top, .c .top, .c .top, .c .top, .c .top, .c .top, .c .top, .c .top, .c .top, .c .top, .c .top, .c .top, .c .top, .c .top, .c .top, .c .top, .c .top, .c .top, .c .top, .c .top, .c .top, .c .top, .c .top, .c .top, .c .top, .c .top, .c .top, .c .top, .c .top, .c .top, .c .top, .c .top, .c .top, .c .top, .c .top, .c .top, .c .top, .c .top, .c .top, .c .top, .c .top, .c .top, .c .top] ∧ s = [] ∧ k + d = l.length ∧ i < k) [true, true, false, false, false, false, false, true, true] (l.length - (i + 1)) [] (by decide) (pinned_zero _) ⟨i + 1, 0, by simp only [yE, Nat.reduceEqDiff, Nat.reduceAdd, reduceCtorEq], by simp only [yE, Nat.reduceEqDiff, Nat.reduceAdd, reduceCtorEq], by omega, by omega⟩ ?_
      rintro d e s ⟨k, x, rfl, rfl, hd, hk⟩
      by_cases h7 : k < i + 7
      · have t7 : leI ((i + 7 : Nat) : Int) (k : Nat) = false := leI_false (by omega)
        simp -implicitDefEqProofs only [↓yP, yT, Nat.reduceAdd, Nat.reduceMul, Nat.reduceSub, Nat.reduceLeDiff, Nat.reduceEqDiff, reduceCtorEq, Nat.reduceBEq, w7, t7]
        refine Rcall_pure (at_spec l _) (by rfl) fun y hy => ?_
        subst hy
        simp -implicitDefEqProofs only [↓yP, yT, Nat.reduceAdd, Nat.reduceMul, Nat.reduceSub, Nat.reduceLeDiff, Nat.reduceEqDiff, reduceCtorEq, Nat.reduceBEq]
        refine Rcall_pure (hex_spec _) (by rfl) fun y hy => ?_
        subst hy
        cases h8 : leI 0 (hexR (atR l (k : Nat))) with
        | true =>
          have hkl : k < l.length := Nat.lt_of_not_le fun hle => by
            rw [hexR_neg hle] at h8
            exact absurd h8 (by decide)
          have w3 : wrapK .i64 ((k : Int) + 1) = ((k + 1 : Nat) : Int) := wrap_succ (by omega)
          simp -implicitDefEqProofs only [↓yP, yT, Nat.reduceAdd, Nat.reduceMul, Nat.reduceSub, Nat.reduceLeDiff, Nat.reduceEqDiff, reduceCtorEq, Nat.reduceBEq, h8]
          refine Rcall_pure (at_spec l _) (by rfl) fun y hy => ?_
          subst hy
          simp -implicitDefEqProofs only [↓yP, yT, Nat.reduceAdd, Nat.reduceMul, Nat.reduceSub, Nat.reduceLeDiff, Nat.reduceEqDiff, reduceCtorEq, Nat.reduceBEq]
          refine Rcall_pure (hex_spec _) (by rfl) fun y hy => ?_
          subst hy
          simp -implicitDefEqProofs only [↓yP, yT, Nat.reduceAdd, Nat.reduceMul, Nat.reduceSub, Nat.reduceLeDiff, Nat.reduceEqDiff, reduceCtorEq, Nat.reduceBEq, w3]
          refine ⟨d - 1, [], by omega, by decide, pinned_zero _, k + 1, wrapK .i64 (wrapK .i64 (16 * x) + hexR (atR l (k : Nat))), ?_, rfl, by omega, by omega⟩
          simp only [yE, Nat.reduceEqDiff, Nat.reduceAdd, reduceCtorEq]
        | false =>
          simp -implicitDefEqProofs only [↓yP, yT, Nat.reduceAdd, Nat.reduceMul, Nat.reduceSub, Nat.reduceLeDiff, Nat.reduceEqDiff, reduceCtorEq, Nat.reduceBEq, h8]
          refine Rcall_pure (at_spec l _) (by rfl) fun y hy => ?_
          subst hy
          simp -implicitDefEqProofs only [↓yP, yT, Nat.reduceAdd, Nat.reduceMul, Nat.reduceSub, Nat.reduceLeDiff, Nat.reduceEqDiff, reduceCtorEq, Nat.reduceBEq]
          refine Rcall_pure (blank_spec1 _) (by rfl) fun y hy => ?_
          subst hy
          have w3 : wrapK .i64 ((k : Int) + 1) = ((k + 1 : Nat) : Int) := wrap_succ (by omega)
          cases q1 : blankB (atR l (k : Nat)) with
          | false =>
            simp -implicitDefEqProofs only [↓yP, yT, Nat.reduceAdd, Nat.reduceMul, Nat.reduceSub, Nat.reduceLeDiff, Nat.reduceEqDiff, reduceCtorEq, Nat.reduceBEq]
            cases q2 : eqI x 0 with
            | true =>
              simp -implicitDefEqProofs only [↓yP, yT, Nat.reduceAdd, Nat.reduceMul, Nat.reduceSub, Nat.reduceLeDiff, Nat.reduceEqDiff, reduceCtorEq, Nat.reduceBEq, q2, w3]
              exact ⟨_, _, rfl, by omega, by omega⟩
            | false =>
              cases q3 : leI x 1114111 with
              | false =>
                simp -implicitDefEqProofs only [↓yP, yT, Nat.reduceAdd, Nat.reduceMul, Nat.reduceSub, Nat.reduceLeDiff, Nat.reduceEqDiff, reduceCtorEq, Nat.reduceBEq, q2, q3, w3]
                exact ⟨_, _, rfl, by omega, by omega⟩
              | true =>
                cases q4 : leI 55296 x with
                | false =>
                  simp -implicitDefEqProofs only [↓yP, yT, Nat.reduceAdd, Nat.reduceMul, Nat.reduceSub, Nat.reduceLeDiff, Nat.reduceEqDiff, reduceCtorEq, Nat.reduceBEq, q2, q3, q4, w3]
                  exact ⟨_, _, rfl, by omega, by omega⟩
                | true =>
                  cases q5 : leI 57344 x
                  all_goals
                    simp -implicitDefEqProofs only [↓yP, yT, Nat.reduceAdd, Nat.reduceMul, Nat.reduceSub, Nat.reduceLeDiff, Nat.reduceEqDiff, reduceCtorEq, Nat.reduceBEq, q2, q3, q4, q5, w3]
                    exact ⟨_, _, rfl, by omega, by omega⟩
          | true =>
            have hk2 : k < l.length := Nat.lt_of_not_le fun hle => by
              rw [atR_out (by omega)] at q1
              exact absurd q1 (by decide)
            simp -implicitDefEqProofs only [↓yP, yT, Nat.reduceAdd, Nat.reduceMul, Nat.reduceSub, Nat.reduceLeDiff, Nat.reduceEqDiff, reduceCtorEq, Nat.reduceBEq, w3]
            cases q2 : eqI x 0 with
            | true =>
              simp -implicitDefEqProofs only [↓yP, yT, Nat.reduceAdd, Nat.reduceMul, Nat.reduceSub, Nat.reduceLeDiff, Nat.reduceEqDiff, reduceCtorEq, Nat.reduceBEq, q2, w3]
              exact ⟨_, _, rfl, by omega, by omega⟩
            | false =>
              cases q3 : leI x 1114111 with
              | false =>
                simp -implicitDefEqProofs only [↓yP, yT, Nat.reduceAdd, Nat.reduceMul, Nat.reduceSub, Nat.reduceLeDiff, Nat.reduceEqDiff, reduceCtorEq, Nat.reduceBEq, q2, q3, w3]
                exact ⟨_, _, rfl, by omega, by omega⟩
              | true =>
                cases q4 : leI 55296 x with
                | false =>
                  simp -implicitDefEqProofs only [↓yP, yT, Nat.reduceAdd, Nat.reduceMul, Nat.reduceSub, Nat.reduceLeDiff, Nat.reduceEqDiff, reduceCtorEq, Nat.reduceBEq, q2, q3, q4, w3]
                  exact ⟨_, _, rfl, by omega, by omega⟩
                | true =>
                  cases q5 : leI 57344 x
                  all_goals
                    simp -implicitDefEqProofs only [↓yP, yT, Nat.reduceAdd, Nat.reduceMul, Nat.reduceSub, Nat.reduceLeDiff, Nat.reduceEqDiff, reduceCtorEq, Nat.reduceBEq, q2, q3, q4, q5, w3]
                    exact ⟨_, _, rfl, by omega, by omega⟩
      · have t7 : leI ((i + 7 : Nat) : Int) (k : Nat) = true := leI_true (by omega)
        simp -implicitDefEqProofs only [↓yP, yT, Nat.reduceAdd, Nat.reduceMul, Nat.reduceSub, Nat.reduceLeDiff, Nat.reduceEqDiff, reduceCtorEq, Nat.reduceBEq, w7, t7]
        refine Rcall_pure (at_spec l _) (by rfl) fun y hy => ?_
        subst hy
        simp -implicitDefEqProofs only [↓yP, yT, Nat.reduceAdd, Nat.reduceMul, Nat.reduceSub, Nat.reduceLeDiff, Nat.reduceEqDiff, reduceCtorEq, Nat.reduceBEq]
        refine Rcall_pure (blank_spec1 _) (by rfl) fun y hy => ?_
        subst hy
        have w3 : wrapK .i64 ((k : Int) + 1) = ((k + 1 : Nat) : Int) := wrap_succ (by omega)
        cases q1 : blankB (atR l (k : Nat)) with
        | false =>
          simp -implicitDefEqProofs only [↓yP, yT, Nat.reduceAdd, Nat.reduceMul, Nat.reduceSub, Nat.reduceLeDiff, Nat.reduceEqDiff, reduceCtorEq, Nat.reduceBEq]
          cases q2 : eqI x 0 with
          | true =>
            simp -implicitDefEqProofs only [↓yP, yT, Nat.reduceAdd, Nat.reduceMul, Nat.reduceSub, Nat.reduceLeDiff, Nat.reduceEqDiff, reduceCtorEq, Nat.reduceBEq, q2, w3]
            exact ⟨_, _, rfl, by omega, by omega⟩
          | false =>
            cases q3 : leI x 1114111 with
            | false =>
              simp -implicitDefEqProofs only [↓yP, yT, Nat.reduceAdd, Nat.reduceMul, Nat.reduceSub, Nat.reduceLeDiff, Nat.reduceEqDiff, reduceCtorEq, Nat.reduceBEq, q2, q3, w3]
              exact ⟨_, _, rfl, by omega, by omega⟩
            | true =>
              cases q4 : leI 55296 x with
              | false =>
                simp -implicitDefEqProofs only [↓yP, yT, Nat.reduceAdd, Nat.reduceMul, Nat.reduceSub, Nat.reduceLeDiff, Nat.reduceEqDiff, reduceCtorEq, Nat.reduceBEq, q2, q3, q4, w3]
                exact ⟨_, _, rfl, by omega, by omega⟩
              | true =>
                cases q5 : leI 57344 x
                all_goals
                  simp -implicitDefEqProofs only [↓yP, yT, Nat.reduceAdd, Nat.reduceMul, Nat.reduceSub, Nat.reduceLeDiff, Nat.reduceEqDiff, reduceCtorEq, Nat.reduceBEq, q2, q3, q4, q5, w3]
                  exact ⟨_, _, rfl, by omega, by omega⟩
        | true =>
          have hk2 : k < l.length := Nat.lt_of_not_le fun hle => by
            rw [atR_out (by omega)] at q1
            exact absurd q1 (by decide)
          simp -implicitDefEqProofs only [↓yP, yT, Nat.reduceAdd, Nat.reduceMul, Nat.reduceSub, Nat.reduceLeDiff, Nat.reduceEqDiff, reduceCtorEq, Nat.reduceBEq, w3]
          cases q2 : eqI x 0 with
          | true =>
            simp -implicitDefEqProofs only [↓yP, yT, Nat.reduceAdd, Nat.reduceMul, Nat.reduceSub, Nat.reduceLeDiff, Nat.reduceEqDiff, reduceCtorEq, Nat.reduceBEq, q2, w3]
            exact ⟨_, _, rfl, by omega, by omega⟩
          | false =>
            cases q3 : leI x 1114111 with
            | false =>
              simp -implicitDefEqProofs only [↓yP, yT, Nat.reduceAdd, Nat.reduceMul, Nat.reduceSub, Nat.reduceLeDiff, Nat.reduceEqDiff, reduceCtorEq, Nat.reduceBEq, q2, q3, w3]
              exact ⟨_, _, rfl, by omega, by omega⟩
            | true =>
              cases q4 : leI 55296 x with
              | false =>
                simp -implicitDefEqProofs only [↓yP, yT, Nat.reduceAdd, Nat.reduceMul, Nat.reduceSub, Nat.reduceLeDiff, Nat.reduceEqDiff, reduceCtorEq, Nat.reduceBEq, q2, q3, q4, w3]
                exact ⟨_, _, rfl, by omega, by omega⟩
              | true =>
                cases q5 : leI 57344 x
                all_goals
                  simp -implicitDefEqProofs only [↓yP, yT, Nat.reduceAdd, Nat.reduceMul, Nat.reduceSub, Nat.reduceLeDiff, Nat.reduceEqDiff, reduceCtorEq, Nat.reduceBEq, q2, q3, q4, q5, w3]
                  exact ⟨_, _, rfl, by omega, by omega⟩
  · have t1 : leI (l.length : Nat) ((i + 1 : Nat) : Int) = true := leI_true (by omega)
    simp -implicitDefEqProofs only [↓yP, yT, Nat.reduceAdd, Nat.reduceMul, Nat.reduceSub, Nat.reduceLeDiff, Nat.reduceEqDiff, reduceCtorEq, Nat.reduceBEq, t1, w1]
    exact ⟨_, i + 1, rfl, by omega, by omega⟩
theorem ybytes_eb (bs : List Int) : ybytes (bs.map eb) = some (bs.map fun n => Value.int .u8 n) := by
  induction bs with
  | nil => rfl
  | cons n bs ih => simp only [List.map_cons, eb, ybytes, ih]
theorem bytesOf_u8 (bs : List Int) : bytesOf (bs.map fun n => Value.int .u8 n) = some (bs.map fun n => UInt8.ofNat n.toNat) := by
  induction bs with
  | nil => rfl
  | cons n bs ih => simp only [List.map_cons, bytesOf, ih]
def bstr (bs : List Int) : ByteArray := strMk (bs.map fun n => UInt8.ofNat n.toNat)
theorem bstr_len (bs : List Int) : (strOf (bstr bs)).length = bs.length := by simp [bstr, strOf, strMk]
theorem ofBytes (bs : List Int) : (match ybytes (bs.map eb) with | some l => (match bytesOf l with | some b => some (YOut.val (.c (.p (.d (.string (strMk b))))), ([] : Sto)) | none => none) | none => none) = some (YOut.val (yd (.string (bstr bs))), []) := by
  rw [ybytes_eb]
  simp only
  rw [bytesOf_u8]; rfl
end Go.Vx.Seat
end
/- Names and texts. -/
section
open Go Go.Vx Go.Proofs
set_option linter.unusedSimpArgs false
set_option linter.unusedVariables false
set_option maxRecDepth 10000
set_option maxHeartbeats 4000000
namespace Go.Vx.Seat
attribute [local congr] Rg_at Rt_at Ro_at Ri_at Rc_at Rto_at Rtk_at Rtf_at Rti_at
attribute [local irreducible] Rg Rt Ro Ri Rc Rto Rtk Rtf Rti Rw Rl Rd Rcall Rtcall kf
theorem rnGet {l : List Rn} {i : Nat} {x : Rn} (h : l[i]? = some x) : (l.map Rn.pc)[i]? = some [.d (.int .i64 x.r), .d (.int .i64 x.a)] := get_map h
theorem text_spec (l : List Rn) (hl : l.length ≤ 1000000) : PCall C1 78 [.c (.p (rR l))] fun y => ∃ s : ByteArray, y = yd (.string s) ∧ (strOf s).length ≤ 4 * l.length := by
  refine Pf (by rfl) (by rfl) fn78 (by rfl) ?_
  simp only [Try.f78, List.length_cons, List.length_nil, List.replicate, List.cons_append, List.nil_append]
  simp -implicitDefEqProofs only [↓yP, yT, Nat.reduceAdd, Nat.reduceMul, Nat.reduceSub, Nat.reduceLeDiff, Nat.reduceEqDiff, reduceCtorEq, Nat.reduceBEq]
  refine Rl_nil 3 1 (by decide) rfl ?_
  refine Rl_inv (fun d e s => ∃ (i : Nat) (bs : List Int), e = [.c (.p (rR l)), .c .top, .c .top, .c (.own 0 1 0 bs.length), yd (.int .i64 (i : Nat)), .c .top, .c .top, .c .top, .c .top, .c .top, .c .top, .c .top, .c .top, .c .top, .c .top, .c .top, .c .top, .c .top, .c .top, .c .top] ∧ s = [.row 1 (bs.map eb)] ∧ i + d = l.length ∧ bs.length ≤ 4 * i) [true, false, false, true, true] l.length [0] (by decide) (pinned_zero _) ⟨0, [], by (simp only [yE, Nat.reduceEqDiff, Nat.reduceAdd, reduceCtorEq]; try rfl), by (simp only [yE, Nat.reduceEqDiff, Nat.reduceAdd, reduceCtorEq]; try rfl), by omega, by simp⟩ ?_
  rintro d e s ⟨i, bs, rfl, rfl, hd, hb⟩
  by_cases hi : i < l.length
  · obtain ⟨x, hx⟩ := get_lt hi
    have t1 : leI (l.length : Nat) (i : Nat) = false := leI_false (by omega)
    have w1 : wrapK .i64 ((i : Int) + 1) = ((i + 1 : Nat) : Int) := wrap_succ (by omega)
    obtain ⟨p1, p2⟩ := putB_len x.r
    simp -implicitDefEqProofs only [↓yP, yT, Nat.reduceAdd, Nat.reduceMul, Nat.reduceSub, Nat.reduceLeDiff, Nat.reduceEqDiff, reduceCtorEq, Nat.reduceBEq, t1, rnGet hx]
    refine Rcall_own' (els := bs.map eb) (n' := (bs ++ putB x.r).length) (by simp) (by simp) (by rfl) (by rfl) (put_spec x.r bs (by omega)) ?_
    simp -implicitDefEqProofs only [↓yP, yT, Nat.reduceAdd, Nat.reduceMul, Nat.reduceSub, Nat.reduceLeDiff, Nat.reduceEqDiff, reduceCtorEq, Nat.reduceBEq, w1]
    refine ⟨d - 1, [1], by omega, by decide, pinned_zero _, i + 1, bs ++ putB x.r, ?_, ?_, by omega, by simp; omega⟩
    · simp only [yE, Nat.reduceEqDiff, Nat.reduceAdd, reduceCtorEq]
    · simp only [yE, Nat.reduceEqDiff, Nat.reduceAdd, reduceCtorEq]
  · have t1 : leI (l.length : Nat) (i : Nat) = true := leI_true (by omega)
    simp -implicitDefEqProofs only [↓yP, yT, Nat.reduceAdd, Nat.reduceMul, Nat.reduceSub, Nat.reduceLeDiff, Nat.reduceEqDiff, reduceCtorEq, Nat.reduceBEq, t1, ybytes_eb, bytesOf_u8]
    exact ⟨bstr bs, rfl, by rw [bstr_len]; omega⟩
theorem raw_spec (l : List Rn) (i k : Nat) (hl : l.length ≤ 1000000) (hi : i ≤ k) (hk : k ≤ l.length) : PCall C1 64 [.c (.p (rR l)), yd (.int .i64 (i : Nat)), yd (.int .i64 (k : Nat))] fun y => ∃ s : ByteArray, y = yd (.string s) ∧ (strOf s).length ≤ 4 * l.length := by
  refine Pf (by rfl) (by rfl) fn64 (by rfl) ?_
  simp only [Try.f64, List.length_cons, List.length_nil, List.replicate, List.cons_append, List.nil_append]
  have c1 : (0 : Int) ≤ (i : Nat) := by omega
  have c2 : ((i : Nat) : Int) ≤ (k : Nat) := by omega
  have c3 : ((k : Nat) : Int) ≤ (l.length : Nat) := by omega
  simp -implicitDefEqProofs only [↓yP, yT, Nat.reduceAdd, Nat.reduceMul, Nat.reduceSub, Nat.reduceLeDiff, Nat.reduceEqDiff, reduceCtorEq, Nat.reduceBEq, c1, c2, c3, ← List.map_take, ← List.map_drop]
  refine Rcall_pure (text_spec ((l.drop i).take (k - i)) (by simp; omega)) (by rfl) fun y hy => ?_
  obtain ⟨s, rfl, hs⟩ := hy
  simp -implicitDefEqProofs only [↓yP, yT, Nat.reduceAdd, Nat.reduceMul, Nat.reduceSub, Nat.reduceLeDiff, Nat.reduceEqDiff, reduceCtorEq, Nat.reduceBEq]
  exact ⟨s, rfl, by simp at hs; omega⟩
theorem take_spec (l : List Rn) (i : Nat) (hl : l.length ≤ 1000000) (hi : i ≤ l.length) : PCall C1 70 [.c (.p (rR l)), yd (.int .i64 (i : Nat))] fun y => ∃ (s : ByteArray) (k : Nat), y = .tup [yd (.string s), yd (.int .i64 (k : Nat))] ∧ i ≤ k ∧ k ≤ l.length ∧ (strOf s).length ≤ 4 * l.length ∧ (inB (atR l (i : Nat)) = true ∨ escB l i = true → i < k) ∧ (inB (atR l (i : Nat)) = true → inB (atR l ((i + 1 : Nat) : Int)) = false → escB l (i + 1) = false → k = i + 1) := by
  refine Pf (by rfl) (by rfl) fn70 (by rfl) ?_
  simp only [Try.f70, List.length_cons, List.length_nil, List.replicate, List.cons_append, List.nil_append]
  simp -implicitDefEqProofs only [↓yP, yT, Nat.reduceAdd, Nat.reduceMul, Nat.reduceSub, Nat.reduceLeDiff, Nat.reduceEqDiff, reduceCtorEq, Nat.reduceBEq]
  refine Rcall_pure (cap_spec _ _ _) (by rfl) fun y hy => ?_
  rw [if_neg (by omega), if_neg (by omega)] at hy
  subst hy
  simp -implicitDefEqProofs only [↓yP, yT, Nat.reduceAdd, Nat.reduceMul, Nat.reduceSub, Nat.reduceLeDiff, Nat.reduceEqDiff, reduceCtorEq, Nat.reduceBEq]
  refine Rl_nil 6 1 (by decide) rfl ?_
  refine Rl_inv (fun d e s => ∃ (k : Nat) (bs : List Int), e = [.c (.p (rR l)), yd (.int .i64 (k : Nat)), .c .top, .c .top, .c .top, .c .top, .c (.own 0 1 0 bs.length), .c .top, .c .top, .c .top, .c .top, .c .top, .c .top, .c .top, .c .top, .c .top, .c .top, .c .top, .c .top, .c .top, .c .top, .c .top, .c .top, .c .top, .c .top, .c .top, .c .top, .c .top, .c .top, .c .top, .c .top, .c .top, .c .top, .c .top, .c .top, .c .top, .c .top, .c .top, .c .top, .c .top, .c .top, .c .top, .c .top, .c .top, .c .top, .c .top, .c .top, .c .top, .c .top, .c .top, .c .top, .c .top, .c .top] ∧ s = [.row 1 (bs.map eb)] ∧ k + d = l.length ∧ i ≤ k ∧ bs.length ≤ 4 * k ∧ (inB (atR l (i : Nat)) = true → inB (atR l ((i + 1 : Nat) : Int)) = false → escB l (i + 1) = false → k ≤ i + 1)) [true, true, false, false, false, false, true] (l.length - i) [0] (by decide) (pinned_zero _) ⟨i, [], by (simp only [yE, Nat.reduceEqDiff, Nat.reduceAdd, reduceCtorEq]; try rfl), by (simp only [yE, Nat.reduceEqDiff, Nat.reduceAdd, reduceCtorEq]; try rfl), by omega, by omega, by simp, fun _ _ _ => by omega⟩ ?_
  rintro d e s ⟨k, bs, rfl, rfl, hd, hk, hb, hx1⟩
  by_cases hkl : k < l.length
  · obtain ⟨x, hx⟩ := get_lt hkl
    have hat := atR_get hx
    have t1 : leI (l.length : Nat) (k : Nat) = false := leI_false (by omega)
    have w1 : wrapK .i64 ((k : Int) + 1) = ((k + 1 : Nat) : Int) := wrap_succ (by omega)
    simp -implicitDefEqProofs only [↓yP, yT, Nat.reduceAdd, Nat.reduceMul, Nat.reduceSub, Nat.reduceLeDiff, Nat.reduceEqDiff, reduceCtorEq, Nat.reduceBEq, t1, rnGet hx]
    refine Rcall_pure (in_spec1 _) (by rfl) fun y hy => ?_
    subst hy
    cases h1 : inB x.r with
    | true =>
      obtain ⟨p1, p2⟩ := putB_len x.r
      simp -implicitDefEqProofs only [↓yP, yT, Nat.reduceAdd, Nat.reduceMul, Nat.reduceSub, Nat.reduceLeDiff, Nat.reduceEqDiff, reduceCtorEq, Nat.reduceBEq, rnGet hx]
      refine Rcall_own' (els := bs.map eb) (n' := (bs ++ putB x.r).length) (by simp) (by simp) (by rfl) (by rfl) (put_spec x.r bs (by omega)) ?_
      simp -implicitDefEqProofs only [↓yP, yT, Nat.reduceAdd, Nat.reduceMul, Nat.reduceSub, Nat.reduceLeDiff, Nat.reduceEqDiff, reduceCtorEq, Nat.reduceBEq, w1]
      refine ⟨d - 1, [1], by omega, by decide, pinned_zero _, k + 1, bs ++ putB x.r, ?_, ?_, by omega, by omega, by simp; omega, fun a1 a2 a3 => ?_⟩
      · (simp only [yE, Nat.reduceEqDiff, Nat.reduceAdd, reduceCtorEq]; try rfl)
      · (simp only [yE, Nat.reduceEqDiff, Nat.reduceAdd, reduceCtorEq]; try rfl)
      · have := hx1 a1 a2 a3
        rcases Nat.lt_or_ge i k with g | g
        · obtain rfl : k = i + 1 := by omega
          rw [hat, h1] at a2
          cases a2
        · omega
    | false =>
      simp -implicitDefEqProofs only [↓yP, yT, Nat.reduceAdd, Nat.reduceMul, Nat.reduceSub, Nat.reduceLeDiff, Nat.reduceEqDiff, reduceCtorEq, Nat.reduceBEq]
      refine Rcall_pure (escape_spec l k (by omega)) (by rfl) fun y hy => ?_
      subst hy
      cases h2 : escB l k with
      | true =>
        simp -implicitDefEqProofs only [↓yP, yT, Nat.reduceAdd, Nat.reduceMul, Nat.reduceSub, Nat.reduceLeDiff, Nat.reduceEqDiff, reduceCtorEq, Nat.reduceBEq]
        refine Rcall_pure (escaped_spec l k hl hkl) (by rfl) fun y hy => ?_
        obtain ⟨z, k', rfl, hk1, hk2⟩ := hy
        obtain ⟨p1, p2⟩ := putB_len z
        simp -implicitDefEqProofs only [↓yP, yT, Nat.reduceAdd, Nat.reduceMul, Nat.reduceSub, Nat.reduceLeDiff, Nat.reduceEqDiff, reduceCtorEq, Nat.reduceBEq]
        refine Rcall_own' (els := bs.map eb) (n' := (bs ++ putB z).length) (by simp) (by simp) (by rfl) (by rfl) (put_spec z bs (by omega)) ?_
        simp -implicitDefEqProofs only [↓yP, yT, Nat.reduceAdd, Nat.reduceMul, Nat.reduceSub, Nat.reduceLeDiff, Nat.reduceEqDiff, reduceCtorEq, Nat.reduceBEq]
        refine ⟨l.length - k', [1], by omega, by decide, pinned_zero _, k', bs ++ putB z, ?_, ?_, by omega, by omega, by simp; omega, fun a1 a2 a3 => ?_⟩
        · (simp only [yE, Nat.reduceEqDiff, Nat.reduceAdd, reduceCtorEq]; try rfl)
        · (simp only [yE, Nat.reduceEqDiff, Nat.reduceAdd, reduceCtorEq]; try rfl)
        · have := hx1 a1 a2 a3
          rcases Nat.lt_or_ge i k with g | g
          · obtain rfl : k = i + 1 := by omega
            rw [h2] at a3
            cases a3
          · obtain rfl : k = i := by omega
            rw [hat, h1] at a1
            cases a1
      | false =>
        simp -implicitDefEqProofs only [↓yP, yT, Nat.reduceAdd, Nat.reduceMul, Nat.reduceSub, Nat.reduceLeDiff, Nat.reduceEqDiff, reduceCtorEq, Nat.reduceBEq, ybytes_eb, bytesOf_u8]
        refine ⟨bstr bs, k, rfl, by omega, by omega, by rw [bstr_len]; omega, ?_, ?_⟩
        · rintro (a | a)
          · rcases Nat.lt_or_ge i k with g | g
            · exact g
            · obtain rfl : k = i := by omega
              rw [hat, h1] at a
              cases a
          · rcases Nat.lt_or_ge i k with g | g
            · exact g
            · obtain rfl : k = i := by omega
              rw [h2] at a
              cases a
        · intro a1 a2 a3
          have := hx1 a1 a2 a3
          rcases Nat.lt_or_ge i k with g | g
          · omega
          · obtain rfl : k = i := by omega
            rw [hat, h1] at a1
            cases a1
  · have t1 : leI (l.length : Nat) (k : Nat) = true := leI_true (by omega)
    have hout : ∀ j : Nat, l.length ≤ j → inB (atR l (j : Nat)) = false := fun j hj => by rw [atR_out (by omega)]; rfl
    have hoe : ∀ j : Nat, l.length ≤ j → escB l j = false := fun j hj => by rw [escB, atR_out (by omega)]; rfl
    simp -implicitDefEqProofs only [↓yP, yT, Nat.reduceAdd, Nat.reduceMul, Nat.reduceSub, Nat.reduceLeDiff, Nat.reduceEqDiff, reduceCtorEq, Nat.reduceBEq, t1, ybytes_eb, bytesOf_u8]
    refine ⟨bstr bs, k, rfl, by omega, by omega, by rw [bstr_len]; omega, ?_, ?_⟩
    · intro a
      rcases Nat.lt_or_ge i l.length with g | g
      · omega
      · rw [hout i g, hoe i g] at a
        simp at a
    · intro a1 a2 a3
      have := hx1 a1 a2 a3
      rcases Nat.lt_or_ge i k with g | g
      · omega
      · rw [hout i (by omega)] at a1
        cases a1
end Go.Vx.Seat
end
/- Does a text stand at a place? The next code point of bytes. -/
section
open Go Go.Vx Go.Proofs
set_option linter.unusedSimpArgs false
set_option linter.unusedVariables false
set_option maxRecDepth 10000
set_option maxHeartbeats 4000000
namespace Go.Vx.Seat
attribute [local congr] Rg_at Rt_at Ro_at Ri_at Rc_at Rto_at Rtk_at Rtf_at Rti_at
attribute [local irreducible] Rg Rt Ro Ri Rc Rto Rtk Rtf Rti Rw Rl Rd Rcall Rtcall kf
theorem fn63 : nth C1.P.funcs.toList 63 = some Try.f63 := by kernel_rfl
def followsB (l : List Rn) : Nat → List UInt8 → Bool
  | _, [] => true
  | i, c :: cs => eqI (atR l (i : Nat)) (c.toNat : Nat) && followsB l (i + 1) cs
theorem followsB_not {l : List Rn} {i : Nat} {c : UInt8} {cs : List UInt8} (h : atR l (i : Nat) ≠ (c.toNat : Nat)) : followsB l i (c :: cs) = false := by
  rw [followsB, eqI_false h]; rfl
theorem u8_i64 (c : UInt8) : wrapK .i64 ((c.toNat : Nat) : Int) = (c.toNat : Nat) := wrap_nat (by have := c.toNat_lt; omega)
theorem follows_spec (l : List Rn) (i : Nat) (s : ByteArray) (hi : i ≤ 4000000) (hs : (strOf s).length ≤ 100) : PCall C1 63 [.c (.p (rR l)), yd (.int .i64 (i : Nat)), yd (.string s)] fun y => y = yd (.bool (followsB l i (strOf s))) := by
  refine Pf (by rfl) (by rfl) fn63 (by rfl) ?_
  simp only [Try.f63, List.length_cons, List.length_nil, List.replicate, List.cons_append, List.nil_append]
  simp -implicitDefEqProofs only [↓yP, yT, Nat.reduceAdd, Nat.reduceMul, Nat.reduceSub, Nat.reduceLeDiff, Nat.reduceEqDiff, reduceCtorEq, Nat.reduceBEq]
  refine Rl_inv (fun d e st => ∃ k : Nat, e = [.c (.p (rR l)), yd (.int .i64 (i : Nat)), yd (.string s), .c .top, .c .top, .c .top, .c .top, yd (.int .i64 (k : Nat)), .c .top, .c .top, .c .top, .c .top, .c .top, .c .top, .c .top, .c .top, .c .top, .c .top, .c .top, .c .top, .c .top, .c .top, .c .top, .c .top] ∧ st = [] ∧ k + d = (strOf s).length ∧ followsB l (i + k) ((strOf s).drop k) = followsB l i (strOf s)) [true, true, true, false, false, false, false, true] (strOf s).length [] (by decide) (pinned_zero _) ⟨0, by (simp only [yE, Nat.reduceEqDiff, Nat.reduceAdd, reduceCtorEq]; try rfl), by (simp only [yE, Nat.reduceEqDiff, Nat.reduceAdd, reduceCtorEq]; try rfl), by omega, rfl⟩ ?_
  rintro d e st ⟨k, rfl, rfl, hd, hf⟩
  by_cases hk : k < (strOf s).length
  · obtain ⟨c, hc⟩ := get_lt hk
    have t1 : leI ((strOf s).length : Nat) (k : Nat) = false := leI_false (by omega)
    have w1 : wrapK .i64 ((k : Int) + 1) = ((k + 1 : Nat) : Int) := wrap_succ (by omega)
    have w2 : wrapK .i64 ((i : Int) + (k : Nat)) = ((i + k : Nat) : Int) := wrap_nat (i := i + k) (by omega)
    have hdr : (strOf s).drop k = c :: (strOf s).drop (k + 1) := by
      rw [List.getElem?_eq_getElem hk] at hc
      cases hc
      exact List.drop_eq_getElem_cons hk
    rw [hdr, followsB] at hf
    simp -implicitDefEqProofs only [↓yP, yT, Nat.reduceAdd, Nat.reduceMul, Nat.reduceSub, Nat.reduceLeDiff, Nat.reduceEqDiff, reduceCtorEq, Nat.reduceBEq, opLen.eq_1, xindex.eq_1, xslice.eq_1, Int.toNat_natCast, t1]
    refine Rd_calm (by rw [C1_P]; kernel_rfl) ?_
    simp -implicitDefEqProofs only [↓yP, yT, Nat.reduceAdd, Nat.reduceMul, Nat.reduceSub, Nat.reduceLeDiff, Nat.reduceEqDiff, reduceCtorEq, Nat.reduceBEq, opLen.eq_1, xindex.eq_1, xslice.eq_1, Int.toNat_natCast, w2]
    refine Rcall_pure (at_spec l _) (by rfl) fun y hy => ?_
    subst hy
    cases h1 : eqI (atR l ((i + k : Nat) : Int)) ((c.toNat : Nat) : Int) with
    | true =>
      rw [h1, Bool.true_and] at hf
      simp -implicitDefEqProofs only [↓yP, yT, Nat.reduceAdd, Nat.reduceMul, Nat.reduceSub, Nat.reduceLeDiff, Nat.reduceEqDiff, reduceCtorEq, Nat.reduceBEq, opLen.eq_1, xindex.eq_1, xslice.eq_1, Int.toNat_natCast, hc, u8_i64, h1, w1, nn]
      refine ⟨d - 1, [], by omega, by decide, pinned_zero _, k + 1, by (simp only [yE, Nat.reduceEqDiff, Nat.reduceAdd, reduceCtorEq]; try rfl), rfl, by omega, by rw [← hf]; rfl⟩
    | false =>
      rw [h1, Bool.false_and] at hf
      simp -implicitDefEqProofs only [↓yP, yT, Nat.reduceAdd, Nat.reduceMul, Nat.reduceSub, Nat.reduceLeDiff, Nat.reduceEqDiff, reduceCtorEq, Nat.reduceBEq, opLen.eq_1, xindex.eq_1, xslice.eq_1, Int.toNat_natCast, hc, u8_i64, h1, w1, nn, ← hf]
  · have t1 : leI ((strOf s).length : Nat) (k : Nat) = true := leI_true (by omega)
    rw [List.drop_eq_nil_of_le (by omega), followsB] at hf
    simp -implicitDefEqProofs only [↓yP, yT, Nat.reduceAdd, Nat.reduceMul, Nat.reduceSub, Nat.reduceLeDiff, Nat.reduceEqDiff, reduceCtorEq, Nat.reduceBEq, opLen.eq_1, xindex.eq_1, xslice.eq_1, Int.toNat_natCast, t1, ← hf]
end Go.Vx.Seat
end
/- The next code point of bytes; code points. -/
section
open Go Go.Vx Go.Proofs
set_option linter.unusedSimpArgs false
set_option linter.unusedVariables false
set_option maxRecDepth 10000
set_option maxHeartbeats 4000000
namespace Go.Vx.Seat
attribute [local congr] Rg_at Rt_at Ro_at Ri_at Rc_at Rto_at Rtk_at Rtf_at Rti_at
attribute [local irreducible] Rg Rt Ro Ri Rc Rto Rtk Rtf Rti Rw Rl Rd Rcall Rtcall kf
theorem ebGet {l : List Int} {i : Nat} {c : Int} (h : l[i]? = some c) : (l.map eb)[i]? = some [.d (.int .u8 c)] := get_map h
theorem wrap_int {x : Int} (h1 : -9000000000000000000 ≤ x) (h2 : x ≤ 9000000000000000000) : wrapK .i64 x = x := by rw [wrapK_eq, IntKind.wrap_i64]; omega
theorem tail_spec (bs : List Int) (k : Nat) : PCall C1 75 [.c (.p (rB bs)), yd (.int .i64 (k : Nat))] fun y => ∃ (x : Int) (b : Bool), y = .tup [yd (.int .i64 x), yd (.bool b)] ∧ (b = true → k < bs.length) := by
  refine Pf (by rfl) (by rfl) fn75 (by rfl) ?_
  simp only [Try.f75, List.length_cons, List.length_nil, List.replicate, List.cons_append, List.nil_append]
  by_cases hk : k < bs.length
  · obtain ⟨c, hc⟩ := get_lt hk
    have t1 : leI (bs.length : Nat) (k : Nat) = false := leI_false (by omega)
    cases h1 : eqI (IntKind.wrap .u8 (BitVec.ofInt IntKind.u8.bits c &&& BitVec.ofInt IntKind.u8.bits 192).toNat) 128
    all_goals
      simp -implicitDefEqProofs only [↓yP, yT, Nat.reduceAdd, Nat.reduceMul, Nat.reduceSub, Nat.reduceLeDiff, Nat.reduceEqDiff, reduceCtorEq, Nat.reduceBEq, t1, ebGet hc, h1]
      exact ⟨_, _, rfl, fun _ => hk⟩
  · have t1 : leI (bs.length : Nat) (k : Nat) = true := leI_true (by omega)
    simp -implicitDefEqProofs only [↓yP, yT, Nat.reduceAdd, Nat.reduceMul, Nat.reduceSub, Nat.reduceLeDiff, Nat.reduceEqDiff, reduceCtorEq, Nat.reduceBEq, t1]
    exact ⟨_, _, rfl, fun h => by cases h⟩
def shl6 (a : Int) : Int := IntKind.wrap .i64 (a * 2 ^ (min (6 : Int).toNat IntKind.i64.bits))
theorem xshl6 (a : Int) : xshift .shl .i64 a 6 = some (.int .i64 (shl6 a)) := by
  rw [xshift, if_neg (by omega)]; rfl
theorem next_spec (bs : List Int) (i : Nat) (hl : bs.length ≤ 1000000) (hi : i < bs.length) : PCall C1 53 [.c (.p (rB bs)), yd (.int .i64 (i : Nat))] fun y => ∃ (r : Int) (n : Nat) (ok : Bool), y = .tup [yd (.int .i64 r), yd (.int .i64 (n : Nat)), yd (.bool ok)] ∧ 1 ≤ n ∧ i + n ≤ bs.length ∧ (∀ c, bs[i]? = some c → 0 ≤ c → c < 128 → r = c ∧ n = 1) := by
  refine Pf (by rfl) (by rfl) fn53 (by rfl) ?_
  simp only [Try.f53, List.length_cons, List.length_nil, List.replicate, List.cons_append, List.nil_append]
  obtain ⟨c, hc⟩ := get_lt hi
  have t0 : leI 0 (i : Nat) = true := leI_true (by omega)
  have t1 : leI (bs.length : Nat) (i : Nat) = false := leI_false (by omega)
  cases h1 : leI 128 (wrapK .i64 c) with
  | false =>
    have h1' := of_leF h1
    simp -implicitDefEqProofs only [↓yP, yT, Nat.reduceAdd, Nat.reduceMul, Nat.reduceSub, Nat.reduceLeDiff, Nat.reduceEqDiff, reduceCtorEq, Nat.reduceBEq, t0, t1, ebGet hc, h1]
    refine Rl_inv (fun d e s => ∃ (j : Nat) (x : Int), e = [.c (.p (rB bs)), yd (.int .i64 (i : Nat)), .c .top, .c .top, .c .top, .c .top, .c .top, .c .top, yd (.int .i64 1), yd (.int .i64 x), yd (.int .i64 0), yd (.int .i64 (j : Nat)), .c .top, .c .top, .c .top, .c .top, .c .top, .c .top, .c .top, .c .top, .c .top, .c .top, .c .top, .c .top, .c .top, .c .top, .c .top, .c .top, .c .top, .c .top, .c .top, .c .top, .c .top, .c .top, .c .top, .c .top, .c .top, .c .top, .c .top, .c .top, .c .top, .c .top, .c .top, .c .top, .c .top, .c .top, .c .top, .c .top, .c .top, .c .top, .c .top, .c .top, .c .top, .c .top, .c .top, .c .top, .c .top, .c .top, .c .top, .c .top, .c .top, .c .top, .c .top, .c .top, .c .top, .c .top, .c .top, .c .top, .c .top, .c .top, .c .top, .c .top, .c .top, .c .top, .c .top, .c .top, .c .top, .c .top, .c .top, .c .top, .c .top, .c .top, .c .top, .c .top, .c .top, .c .top, .c .top, .c .top, .c .top, .c .top, .c .top, .c .top, .c .top, .c .top] ∧ s = [] ∧ j + d = 1 ∧ 1 ≤ j ∧ i + j ≤ bs.length ∧ (wrapK .i64 c < 128 → x = wrapK .i64 c)) [true, true, false, false, false, false, false, false, true, true, true, true] (1 - 1) [] (by decide) (pinned_zero _) ⟨1, wrapK .i64 c, by (simp only [yE, Nat.reduceEqDiff, Nat.reduceAdd, reduceCtorEq]; try rfl), by (simp only [yE, Nat.reduceEqDiff, Nat.reduceAdd, reduceCtorEq]; try rfl), by omega, by omega, by omega, fun hlt => by first | rfl | (exfalso; omega)⟩ ?_
    rintro d e s ⟨j, x, rfl, rfl, hd, hj, hij, hx⟩
    by_cases hjn : j < 1
    · have t1 : leI 1 (j : Nat) = false := leI_false (by omega)
      have w2 : wrapK .i64 ((i : Int) + (j : Nat)) = ((i + j : Nat) : Int) := wrap_nat (i := i + j) (by omega)
      have w1 : wrapK .i64 ((j : Int) + 1) = ((j + 1 : Nat) : Int) := wrap_succ (by omega)
      simp -implicitDefEqProofs only [↓yP, yT, Nat.reduceAdd, Nat.reduceMul, Nat.reduceSub, Nat.reduceLeDiff, Nat.reduceEqDiff, reduceCtorEq, Nat.reduceBEq, t1, w2]
      refine Rcall_pure (tail_spec bs (i + j)) (by rfl) fun y hy => ?_
      obtain ⟨z, b, rfl, hb⟩ := hy
      cases b with
      | false =>
        simp -implicitDefEqProofs only [↓yP, yT, Nat.reduceAdd, Nat.reduceMul, Nat.reduceSub, Nat.reduceLeDiff, Nat.reduceEqDiff, reduceCtorEq, Nat.reduceBEq]
        refine ⟨_, 1, _, rfl, by omega, by omega, fun c' hc' h1 h2 => ?_⟩
        exfalso
        rw [hc] at hc'
        cases hc'
        have e1 : wrapK .i64 c = c := wrap_int (by omega) (by omega)
        omega
      | true =>
        have hb := hb rfl
        simp -implicitDefEqProofs only [↓yP, yT, Nat.reduceAdd, Nat.reduceMul, Nat.reduceSub, Nat.reduceLeDiff, Nat.reduceEqDiff, reduceCtorEq, Nat.reduceBEq, w1, xshl6]
        refine ⟨d - 1, [], by omega, by decide, pinned_zero _, j + 1, orI (shl6 x) z, by (simp only [yE, Nat.reduceEqDiff, Nat.reduceAdd, reduceCtorEq]; try rfl), rfl, by omega, by omega, by omega, fun hlt => by exfalso; omega⟩
    · have t1 : leI 1 (j : Nat) = true := leI_true (by omega)
      simp -implicitDefEqProofs only [↓yP, yT, Nat.reduceAdd, Nat.reduceMul, Nat.reduceSub, Nat.reduceLeDiff, Nat.reduceEqDiff, reduceCtorEq, Nat.reduceBEq, t1]
      cases f1 : leI 0 x with
      | false =>
        simp -implicitDefEqProofs only [↓yP, yT, Nat.reduceAdd, Nat.reduceMul, Nat.reduceSub, Nat.reduceLeDiff, Nat.reduceEqDiff, reduceCtorEq, Nat.reduceBEq, f1]
        refine ⟨_, 1, _, rfl, by omega, by omega, fun c' hc' h1 h2 => ?_⟩
        exfalso
        have := of_leF f1
        rw [hc] at hc'
        cases hc'
        have e1 : wrapK .i64 c = c := wrap_int (by omega) (by omega)
        have e2 := hx (by omega)
        omega
      | true =>
        cases f2 : leI x 1114111 with
        | false =>
          simp -implicitDefEqProofs only [↓yP, yT, Nat.reduceAdd, Nat.reduceMul, Nat.reduceSub, Nat.reduceLeDiff, Nat.reduceEqDiff, reduceCtorEq, Nat.reduceBEq, f1, f2]
          refine ⟨_, 1, _, rfl, by omega, by omega, fun c' hc' h1 h2 => ?_⟩
          exfalso
          have := of_leF f2
          rw [hc] at hc'
          cases hc'
          have e1 : wrapK .i64 c = c := wrap_int (by omega) (by omega)
          have e2 := hx (by omega)
          omega
        | true =>
          cases f3 : leI 55296 x with
          | false =>
            simp -implicitDefEqProofs only [↓yP, yT, Nat.reduceAdd, Nat.reduceMul, Nat.reduceSub, Nat.reduceLeDiff, Nat.reduceEqDiff, reduceCtorEq, Nat.reduceBEq, f1, f2, f3]
            refine ⟨_, 1, _, rfl, by omega, by omega, fun c' hc' h1 h2 => ?_⟩
            rw [hc] at hc'
            cases hc'
            have e1 : wrapK .i64 c = c := wrap_int (by omega) (by omega)
            have e2 := hx (by omega)
            exact ⟨by omega, rfl⟩
          | true =>
            cases f4 : leI 57344 x with
            | false =>
              simp -implicitDefEqProofs only [↓yP, yT, Nat.reduceAdd, Nat.reduceMul, Nat.reduceSub, Nat.reduceLeDiff, Nat.reduceEqDiff, reduceCtorEq, Nat.reduceBEq, f1, f2, f3, f4]
              refine ⟨_, 1, _, rfl, by omega, by omega, fun c' hc' h1 h2 => ?_⟩
              exfalso
              have := of_leF f4
              have := of_leT f3
              rw [hc] at hc'
              cases hc'
              have e1 : wrapK .i64 c = c := wrap_int (by omega) (by omega)
              have e2 := hx (by omega)
              omega
            | true =>
              simp -implicitDefEqProofs only [↓yP, yT, Nat.reduceAdd, Nat.reduceMul, Nat.reduceSub, Nat.reduceLeDiff, Nat.reduceEqDiff, reduceCtorEq, Nat.reduceBEq, f1, f2, f3, f4]
              refine ⟨_, 1, _, rfl, by omega, by omega, fun c' hc' h1 h2 => ?_⟩
              rw [hc] at hc'
              cases hc'
              have e1 : wrapK .i64 c = c := wrap_int (by omega) (by omega)
              have e2 := hx (by omega)
              exact ⟨by omega, rfl⟩
  | true =>
    have h1' := of_leT h1
    cases h2 : leI 192 (wrapK .i64 c) with
    | false =>
      have h2' := of_leF h2
      have h3 : leI 224 (wrapK .i64 c) = false := leI_false (by omega)
      have h4 : leI 240 (wrapK .i64 c) = false := leI_false (by omega)
      simp -implicitDefEqProofs only [↓yP, yT, Nat.reduceAdd, Nat.reduceMul, Nat.reduceSub, Nat.reduceLeDiff, Nat.reduceEqDiff, reduceCtorEq, Nat.reduceBEq, t0, t1, ebGet hc, h1, h2, h3, h4]
      refine ⟨_, 1, _, rfl, by omega, by omega, fun c' hc' g1 g2 => ?_⟩
      exfalso
      rw [hc] at hc'
      cases hc'
      have e1 : wrapK .i64 c = c := wrap_int (by omega) (by omega)
      omega
    | true =>
      cases h3 : leI 224 (wrapK .i64 c) with
      | false =>
        simp -implicitDefEqProofs only [↓yP, yT, Nat.reduceAdd, Nat.reduceMul, Nat.reduceSub, Nat.reduceLeDiff, Nat.reduceEqDiff, reduceCtorEq, Nat.reduceBEq, t0, t1, ebGet hc, h1, h2, h3]
        refine Rl_inv (fun d e s => ∃ (j : Nat) (x : Int), e = [.c (.p (rB bs)), yd (.int .i64 (i : Nat)), .c .top, .c .top, .c .top, .c .top, .c .top, .c .top, yd (.int .i64 2), yd (.int .i64 x), yd (.int .i64 128), yd (.int .i64 (j : Nat)), .c .top, .c .top, .c .top, .c .top, .c .top, .c .top, .c .top, .c .top, .c .top, .c .top, .c .top, .c .top, .c .top, .c .top, .c .top, .c .top, .c .top, .c .top, .c .top, .c .top, .c .top, .c .top, .c .top, .c .top, .c .top, .c .top, .c .top, .c .top, .c .top, .c .top, .c .top, .c .top, .c .top, .c .top, .c .top, .c .top, .c .top, .c .top, .c .top, .c .top, .c .top, .c .top, .c .top, .c .top, .c .top, .c .top, .c .top, .c .top, .c .top, .c .top, .c .top, .c .top, .c .top, .c .top, .c .top, .c .top, .c .top, .c .top, .c .top, .c .top, .c .top, .c .top, .c .top, .c .top, .c .top, .c .top, .c .top, .c .top, .c .top, .c .top, .c .top, .c .top, .c .top, .c .top, .c .top, .c .top, .c .top, .c .top, .c .top, .c .top, .c .top, .c .top] ∧ s = [] ∧ j + d = 2 ∧ 1 ≤ j ∧ i + j ≤ bs.length ∧ (wrapK .i64 c < 128 → x = wrapK .i64 c)) [true, true, false, false, false, false, false, false, true, true, true, true] (2 - 1) [] (by decide) (pinned_zero _) ⟨1, andI (wrapK .i64 c) 31, by (simp only [yE, Nat.reduceEqDiff, Nat.reduceAdd, reduceCtorEq]; try rfl), by (simp only [yE, Nat.reduceEqDiff, Nat.reduceAdd, reduceCtorEq]; try rfl), by omega, by omega, by omega, fun hlt => by first | rfl | (exfalso; omega)⟩ ?_
        rintro d e s ⟨j, x, rfl, rfl, hd, hj, hij, hx⟩
        by_cases hjn : j < 2
        · have t1 : leI 2 (j : Nat) = false := leI_false (by omega)
          have w2 : wrapK .i64 ((i : Int) + (j : Nat)) = ((i + j : Nat) : Int) := wrap_nat (i := i + j) (by omega)
          have w1 : wrapK .i64 ((j : Int) + 1) = ((j + 1 : Nat) : Int) := wrap_succ (by omega)
          simp -implicitDefEqProofs only [↓yP, yT, Nat.reduceAdd, Nat.reduceMul, Nat.reduceSub, Nat.reduceLeDiff, Nat.reduceEqDiff, reduceCtorEq, Nat.reduceBEq, t1, w2]
          refine Rcall_pure (tail_spec bs (i + j)) (by rfl) fun y hy => ?_
          obtain ⟨z, b, rfl, hb⟩ := hy
          cases b with
          | false =>
            simp -implicitDefEqProofs only [↓yP, yT, Nat.reduceAdd, Nat.reduceMul, Nat.reduceSub, Nat.reduceLeDiff, Nat.reduceEqDiff, reduceCtorEq, Nat.reduceBEq]
            refine ⟨_, 1, _, rfl, by omega, by omega, fun c' hc' h1 h2 => ?_⟩
            exfalso
            rw [hc] at hc'
            cases hc'
            have e1 : wrapK .i64 c = c := wrap_int (by omega) (by omega)
            omega
          | true =>
            have hb := hb rfl
            simp -implicitDefEqProofs only [↓yP, yT, Nat.reduceAdd, Nat.reduceMul, Nat.reduceSub, Nat.reduceLeDiff, Nat.reduceEqDiff, reduceCtorEq, Nat.reduceBEq, w1, xshl6]
            refine ⟨d - 1, [], by omega, by decide, pinned_zero _, j + 1, orI (shl6 x) z, by (simp only [yE, Nat.reduceEqDiff, Nat.reduceAdd, reduceCtorEq]; try rfl), rfl, by omega, by omega, by omega, fun hlt => by exfalso; omega⟩
        · have t1 : leI 2 (j : Nat) = true := leI_true (by omega)
          simp -implicitDefEqProofs only [↓yP, yT, Nat.reduceAdd, Nat.reduceMul, Nat.reduceSub, Nat.reduceLeDiff, Nat.reduceEqDiff, reduceCtorEq, Nat.reduceBEq, t1]
          cases f1 : leI 128 x with
          | false =>
            simp -implicitDefEqProofs only [↓yP, yT, Nat.reduceAdd, Nat.reduceMul, Nat.reduceSub, Nat.reduceLeDiff, Nat.reduceEqDiff, reduceCtorEq, Nat.reduceBEq, f1]
            refine ⟨_, 1, _, rfl, by omega, by omega, fun c' hc' h1 h2 => ?_⟩
            exfalso
            have := of_leF f1
            rw [hc] at hc'
            cases hc'
            have e1 : wrapK .i64 c = c := wrap_int (by omega) (by omega)
            omega
          | true =>
            cases f2 : leI x 1114111 with
            | false =>
              simp -implicitDefEqProofs only [↓yP, yT, Nat.reduceAdd, Nat.reduceMul, Nat.reduceSub, Nat.reduceLeDiff, Nat.reduceEqDiff, reduceCtorEq, Nat.reduceBEq, f1, f2]
              refine ⟨_, 1, _, rfl, by omega, by omega, fun c' hc' h1 h2 => ?_⟩
              exfalso
              have := of_leF f2
              rw [hc] at hc'
              cases hc'
              have e1 : wrapK .i64 c = c := wrap_int (by omega) (by omega)
              omega
            | true =>
              cases f3 : leI 55296 x with
              | false =>
                simp -implicitDefEqProofs only [↓yP, yT, Nat.reduceAdd, Nat.reduceMul, Nat.reduceSub, Nat.reduceLeDiff, Nat.reduceEqDiff, reduceCtorEq, Nat.reduceBEq, f1, f2, f3]
                refine ⟨_, 2, _, rfl, by omega, by omega, fun c' hc' h1 h2 => ?_⟩
                exfalso
                rw [hc] at hc'
                cases hc'
                have e1 : wrapK .i64 c = c := wrap_int (by omega) (by omega)
                omega
              | true =>
                cases f4 : leI 57344 x with
                | false =>
                  simp -implicitDefEqProofs only [↓yP, yT, Nat.reduceAdd, Nat.reduceMul, Nat.reduceSub, Nat.reduceLeDiff, Nat.reduceEqDiff, reduceCtorEq, Nat.reduceBEq, f1, f2, f3, f4]
                  refine ⟨_, 1, _, rfl, by omega, by omega, fun c' hc' h1 h2 => ?_⟩
                  exfalso
                  have := of_leF f4
                  have := of_leT f3
                  rw [hc] at hc'
                  cases hc'
                  have e1 : wrapK .i64 c = c := wrap_int (by omega) (by omega)
                  omega
                | true =>
                  simp -implicitDefEqProofs only [↓yP, yT, Nat.reduceAdd, Nat.reduceMul, Nat.reduceSub, Nat.reduceLeDiff, Nat.reduceEqDiff, reduceCtorEq, Nat.reduceBEq, f1, f2, f3, f4]
                  refine ⟨_, 2, _, rfl, by omega, by omega, fun c' hc' h1 h2 => ?_⟩
                  exfalso
                  rw [hc] at hc'
                  cases hc'
                  have e1 : wrapK .i64 c = c := wrap_int (by omega) (by omega)
                  omega
      | true =>
        cases h4 : leI 240 (wrapK .i64 c) with
        | false =>
          simp -implicitDefEqProofs only [↓yP, yT, Nat.reduceAdd, Nat.reduceMul, Nat.reduceSub, Nat.reduceLeDiff, Nat.reduceEqDiff, reduceCtorEq, Nat.reduceBEq, t0, t1, ebGet hc, h1, h2, h3, h4]
          refine Rl_inv (fun d e s => ∃ (j : Nat) (x : Int), e = [.c (.p (rB bs)), yd (.int .i64 (i : Nat)), .c .top, .c .top, .c .top, .c .top, .c .top, .c .top, yd (.int .i64 3), yd (.int .i64 x), yd (.int .i64 2048), yd (.int .i64 (j : Nat)), .c .top, .c .top, .c .top, .c .top, .c .top, .c .top, .c .top, .c .top, .c .top, .c .top, .c .top, .c .top, .c .top, .c .top, .c .top, .c .top, .c .top, .c .top, .c .top, .c .top, .c .top, .c .top, .c .top, .c .top, .c .top, .c .top, .c .top, .c .top, .c .top, .c .top, .c .top, .c .top, .c .top, .c .top, .c .top, .c .top, .c .top, .c .top, .c .top, .c .top, .c .top, .c .top, .c .top, .c .top, .c .top, .c .top, .c .top, .c .top, .c .top, .c .top, .c .top, .c .top, .c .top, .c .top, .c .top, .c .top, .c .top, .c .top, .c .top, .c .top, .c .top, .c .top, .c .top, .c .top, .c .top, .c .top, .c .top, .c .top, .c .top, .c .top, .c .top, .c .top, .c .top, .c .top, .c .top, .c .top, .c .top, .c .top, .c .top, .c .top, .c .top, .c .top] ∧ s = [] ∧ j + d = 3 ∧ 1 ≤ j ∧ i + j ≤ bs.length ∧ (wrapK .i64 c < 128 → x = wrapK .i64 c)) [true, true, false, false, false, false, false, false, true, true, true, true] (3 - 1) [] (by decide) (pinned_zero _) ⟨1, andI (wrapK .i64 c) 15, by (simp only [yE, Nat.reduceEqDiff, Nat.reduceAdd, reduceCtorEq]; try rfl), by (simp only [yE, Nat.reduceEqDiff, Nat.reduceAdd, reduceCtorEq]; try rfl), by omega, by omega, by omega, fun hlt => by first | rfl | (exfalso; omega)⟩ ?_
          rintro d e s ⟨j, x, rfl, rfl, hd, hj, hij, hx⟩
          by_cases hjn : j < 3
          · have t1 : leI 3 (j : Nat) = false := leI_false (by omega)
            have w2 : wrapK .i64 ((i : Int) + (j : Nat)) = ((i + j : Nat) : Int) := wrap_nat (i := i + j) (by omega)
            have w1 : wrapK .i64 ((j : Int) + 1) = ((j + 1 : Nat) : Int) := wrap_succ (by omega)
            simp -implicitDefEqProofs only [↓yP, yT, Nat.reduceAdd, Nat.reduceMul, Nat.reduceSub, Nat.reduceLeDiff, Nat.reduceEqDiff, reduceCtorEq, Nat.reduceBEq, t1, w2]
            refine Rcall_pure (tail_spec bs (i + j)) (by rfl) fun y hy => ?_
            obtain ⟨z, b, rfl, hb⟩ := hy
            cases b with
            | false =>
              simp -implicitDefEqProofs only [↓yP, yT, Nat.reduceAdd, Nat.reduceMul, Nat.reduceSub, Nat.reduceLeDiff, Nat.reduceEqDiff, reduceCtorEq, Nat.reduceBEq]
              refine ⟨_, 1, _, rfl, by omega, by omega, fun c' hc' h1 h2 => ?_⟩
              exfalso
              rw [hc] at hc'
              cases hc'
              have e1 : wrapK .i64 c = c := wrap_int (by omega) (by omega)
              omega
            | true =>
              have hb := hb rfl
              simp -implicitDefEqProofs only [↓yP, yT, Nat.reduceAdd, Nat.reduceMul, Nat.reduceSub, Nat.reduceLeDiff, Nat.reduceEqDiff, reduceCtorEq, Nat.reduceBEq, w1, xshl6]
              refine ⟨d - 1, [], by omega, by decide, pinned_zero _, j + 1, orI (shl6 x) z, by (simp only [yE, Nat.reduceEqDiff, Nat.reduceAdd, reduceCtorEq]; try rfl), rfl, by omega, by omega, by omega, fun hlt => by exfalso; omega⟩
          · have t1 : leI 3 (j : Nat) = true := leI_true (by omega)
            simp -implicitDefEqProofs only [↓yP, yT, Nat.reduceAdd, Nat.reduceMul, Nat.reduceSub, Nat.reduceLeDiff, Nat.reduceEqDiff, reduceCtorEq, Nat.reduceBEq, t1]
            cases f1 : leI 2048 x with
            | false =>
              simp -implicitDefEqProofs only [↓yP, yT, Nat.reduceAdd, Nat.reduceMul, Nat.reduceSub, Nat.reduceLeDiff, Nat.reduceEqDiff, reduceCtorEq, Nat.reduceBEq, f1]
              refine ⟨_, 1, _, rfl, by omega, by omega, fun c' hc' h1 h2 => ?_⟩
              exfalso
              have := of_leF f1
              rw [hc] at hc'
              cases hc'
              have e1 : wrapK .i64 c = c := wrap_int (by omega) (by omega)
              omega
            | true =>
              cases f2 : leI x 1114111 with
              | false =>
                simp -implicitDefEqProofs only [↓yP, yT, Nat.reduceAdd, Nat.reduceMul, Nat.reduceSub, Nat.reduceLeDiff, Nat.reduceEqDiff, reduceCtorEq, Nat.reduceBEq, f1, f2]
                refine ⟨_, 1, _, rfl, by omega, by omega, fun c' hc' h1 h2 => ?_⟩
                exfalso
                have := of_leF f2
                rw [hc] at hc'
                cases hc'
                have e1 : wrapK .i64 c = c := wrap_int (by omega) (by omega)
                omega
              | true =>
                cases f3 : leI 55296 x with
                | false =>
                  simp -implicitDefEqProofs only [↓yP, yT, Nat.reduceAdd, Nat.reduceMul, Nat.reduceSub, Nat.reduceLeDiff, Nat.reduceEqDiff, reduceCtorEq, Nat.reduceBEq, f1, f2, f3]
                  refine ⟨_, 3, _, rfl, by omega, by omega, fun c' hc' h1 h2 => ?_⟩
                  exfalso
                  rw [hc] at hc'
                  cases hc'
                  have e1 : wrapK .i64 c = c := wrap_int (by omega) (by omega)
                  omega
                | true =>
                  cases f4 : leI 57344 x with
                  | false =>
                    simp -implicitDefEqProofs only [↓yP, yT, Nat.reduceAdd, Nat.reduceMul, Nat.reduceSub, Nat.reduceLeDiff, Nat.reduceEqDiff, reduceCtorEq, Nat.reduceBEq, f1, f2, f3, f4]
                    refine ⟨_, 1, _, rfl, by omega, by omega, fun c' hc' h1 h2 => ?_⟩
                    exfalso
                    have := of_leF f4
                    have := of_leT f3
                    rw [hc] at hc'
                    cases hc'
                    have e1 : wrapK .i64 c = c := wrap_int (by omega) (by omega)
                    omega
                  | true =>
                    simp -implicitDefEqProofs only [↓yP, yT, Nat.reduceAdd, Nat.reduceMul, Nat.reduceSub, Nat.reduceLeDiff, Nat.reduceEqDiff, reduceCtorEq, Nat.reduceBEq, f1, f2, f3, f4]
                    refine ⟨_, 3, _, rfl, by omega, by omega, fun c' hc' h1 h2 => ?_⟩
                    exfalso
                    rw [hc] at hc'
                    cases hc'
                    have e1 : wrapK .i64 c = c := wrap_int (by omega) (by omega)
                    omega
        | true =>
          cases h5 : leI 248 (wrapK .i64 c) with
          | false =>
            simp -implicitDefEqProofs only [↓yP, yT, Nat.reduceAdd, Nat.reduceMul, Nat.reduceSub, Nat.reduceLeDiff, Nat.reduceEqDiff, reduceCtorEq, Nat.reduceBEq, t0, t1, ebGet hc, h1, h2, h3, h4, h5]
            refine Rl_inv (fun d e s => ∃ (j : Nat) (x : Int), e = [.c (.p (rB bs)), yd (.int .i64 (i : Nat)), .c .top, .c .top, .c .top, .c .top, .c .top, .c .top, yd (.int .i64 4), yd (.int .i64 x), yd (.int .i64 65536), yd (.int .i64 (j : Nat)), .c .top, .c .top, .c .top, .c .top, .c .top, .c .top, .c .top, .c .top, .c .top, .c .top, .c .top, .c .top, .c .top, .c .top, .c .top, .c .top, .c .top, .c .top, .c .top, .c .top, .c .top, .c .top, .c .top, .c .top, .c .top, .c .top, .c .top, .c .top, .c .top, .c .top, .c .top, .c .top, .c .top, .c .top, .c .top, .c .top, .c .top, .c .top, .c .top, .c .top, .c .top, .c .top, .c .top, .c .top, .c .top, .c .top, .c .top, .c .top, .c .top, .c .top, .c .top, .c .top, .c .top, .c .top, .c .top, .c .top, .c .top, .c .top, .c .top, .c .top, .c .top, .c .top, .c .top, .c .top, .c .top, .c .top, .c .top, .c .top, .c .top, .c .top, .c .top, .c .top, .c .top, .c .top, .c .top, .c .top, .c .top, .c .top, .c .top, .c .top, .c .top, .c .top] ∧ s = [] ∧ j + d = 4 ∧ 1 ≤ j ∧ i + j ≤ bs.length ∧ (wrapK .i64 c < 128 → x = wrapK .i64 c)) [true, true, false, false, false, false, false, false, true, true, true, true] (4 - 1) [] (by decide) (pinned_zero _) ⟨1, andI (wrapK .i64 c) 7, by (simp only [yE, Nat.reduceEqDiff, Nat.reduceAdd, reduceCtorEq]; try rfl), by (simp only [yE, Nat.reduceEqDiff, Nat.reduceAdd, reduceCtorEq]; try rfl), by omega, by omega, by omega, fun hlt => by first | rfl | (exfalso; omega)⟩ ?_
            rintro d e s ⟨j, x, rfl, rfl, hd, hj, hij, hx⟩
            by_cases hjn : j < 4
            · have t1 : leI 4 (j : Nat) = false := leI_false (by omega)
              have w2 : wrapK .i64 ((i : Int) + (j : Nat)) = ((i + j : Nat) : Int) := wrap_nat (i := i + j) (by omega)
              have w1 : wrapK .i64 ((j : Int) + 1) = ((j + 1 : Nat) : Int) := wrap_succ (by omega)
              simp -implicitDefEqProofs only [↓yP, yT, Nat.reduceAdd, Nat.reduceMul, Nat.reduceSub, Nat.reduceLeDiff, Nat.reduceEqDiff, reduceCtorEq, Nat.reduceBEq, t1, w2]
              refine Rcall_pure (tail_spec bs (i + j)) (by rfl) fun y hy => ?_
              obtain ⟨z, b, rfl, hb⟩ := hy
              cases b with
              | false =>
                simp -implicitDefEqProofs only [↓yP, yT, Nat.reduceAdd, Nat.reduceMul, Nat.reduceSub, Nat.reduceLeDiff, Nat.reduceEqDiff, reduceCtorEq, Nat.reduceBEq]
                refine ⟨_, 1, _, rfl, by omega, by omega, fun c' hc' h1 h2 => ?_⟩
                exfalso
                rw [hc] at hc'
                cases hc'
                have e1 : wrapK .i64 c = c := wrap_int (by omega) (by omega)
                omega
              | true =>
                have hb := hb rfl
                simp -implicitDefEqProofs only [↓yP, yT, Nat.reduceAdd, Nat.reduceMul, Nat.reduceSub, Nat.reduceLeDiff, Nat.reduceEqDiff, reduceCtorEq, Nat.reduceBEq, w1, xshl6]
                refine ⟨d - 1, [], by omega, by decide, pinned_zero _, j + 1, orI (shl6 x) z, by (simp only [yE, Nat.reduceEqDiff, Nat.reduceAdd, reduceCtorEq]; try rfl), rfl, by omega, by omega, by omega, fun hlt => by exfalso; omega⟩
            · have t1 : leI 4 (j : Nat) = true := leI_true (by omega)
              simp -implicitDefEqProofs only [↓yP, yT, Nat.reduceAdd, Nat.reduceMul, Nat.reduceSub, Nat.reduceLeDiff, Nat.reduceEqDiff, reduceCtorEq, Nat.reduceBEq, t1]
              cases f1 : leI 65536 x with
              | false =>
                simp -implicitDefEqProofs only [↓yP, yT, Nat.reduceAdd, Nat.reduceMul, Nat.reduceSub, Nat.reduceLeDiff, Nat.reduceEqDiff, reduceCtorEq, Nat.reduceBEq, f1]
                refine ⟨_, 1, _, rfl, by omega, by omega, fun c' hc' h1 h2 => ?_⟩
                exfalso
                have := of_leF f1
                rw [hc] at hc'
                cases hc'
                have e1 : wrapK .i64 c = c := wrap_int (by omega) (by omega)
                omega
              | true =>
                cases f2 : leI x 1114111 with
                | false =>
                  simp -implicitDefEqProofs only [↓yP, yT, Nat.reduceAdd, Nat.reduceMul, Nat.reduceSub, Nat.reduceLeDiff, Nat.reduceEqDiff, reduceCtorEq, Nat.reduceBEq, f1, f2]
                  refine ⟨_, 1, _, rfl, by omega, by omega, fun c' hc' h1 h2 => ?_⟩
                  exfalso
                  have := of_leF f2
                  rw [hc] at hc'
                  cases hc'
                  have e1 : wrapK .i64 c = c := wrap_int (by omega) (by omega)
                  omega
                | true =>
                  cases f3 : leI 55296 x with
                  | false =>
                    simp -implicitDefEqProofs only [↓yP, yT, Nat.reduceAdd, Nat.reduceMul, Nat.reduceSub, Nat.reduceLeDiff, Nat.reduceEqDiff, reduceCtorEq, Nat.reduceBEq, f1, f2, f3]
                    refine ⟨_, 4, _, rfl, by omega, by omega, fun c' hc' h1 h2 => ?_⟩
                    exfalso
                    rw [hc] at hc'
                    cases hc'
                    have e1 : wrapK .i64 c = c := wrap_int (by omega) (by omega)
                    omega
                  | true =>
                    cases f4 : leI 57344 x with
                    | false =>
                      simp -implicitDefEqProofs only [↓yP, yT, Nat.reduceAdd, Nat.reduceMul, Nat.reduceSub, Nat.reduceLeDiff, Nat.reduceEqDiff, reduceCtorEq, Nat.reduceBEq, f1, f2, f3, f4]
                      refine ⟨_, 1, _, rfl, by omega, by omega, fun c' hc' h1 h2 => ?_⟩
                      exfalso
                      have := of_leF f4
                      have := of_leT f3
                      rw [hc] at hc'
                      cases hc'
                      have e1 : wrapK .i64 c = c := wrap_int (by omega) (by omega)
                      omega
                    | true =>
                      simp -implicitDefEqProofs only [↓yP, yT, Nat.reduceAdd, Nat.reduceMul, Nat.reduceSub, Nat.reduceLeDiff, Nat.reduceEqDiff, reduceCtorEq, Nat.reduceBEq, f1, f2, f3, f4]
                      refine ⟨_, 4, _, rfl, by omega, by omega, fun c' hc' h1 h2 => ?_⟩
                      exfalso
                      rw [hc] at hc'
                      cases hc'
                      have e1 : wrapK .i64 c = c := wrap_int (by omega) (by omega)
                      omega
          | true =>
            simp -implicitDefEqProofs only [↓yP, yT, Nat.reduceAdd, Nat.reduceMul, Nat.reduceSub, Nat.reduceLeDiff, Nat.reduceEqDiff, reduceCtorEq, Nat.reduceBEq, t0, t1, ebGet hc, h1, h2, h3, h4, h5]
            refine ⟨_, 1, _, rfl, by omega, by omega, fun c' hc' g1 g2 => ?_⟩
            exfalso
            rw [hc] at hc'
            cases hc'
            have e1 : wrapK .i64 c = c := wrap_int (by omega) (by omega)
            omega
end Go.Vx.Seat
end
/- Code points. -/
section
open Go Go.Vx Go.Proofs
set_option linter.unusedSimpArgs false
set_option linter.unusedVariables false
set_option maxRecDepth 10000
set_option maxHeartbeats 4000000
namespace Go.Vx.Seat
attribute [local congr] Rg_at Rt_at Ro_at Ri_at Rc_at Rto_at Rtk_at Rtf_at Rti_at
attribute [local irreducible] Rg Rt Ro Ri Rc Rto Rtk Rtf Rti Rw Rl Rd Rcall Rtcall kf
/-- Plain letters and signs. -/
def Asc (bs : List Int) : Prop := ∀ c, c ∈ bs → 32 ≤ c ∧ c < 127
def ascR (bs : List Int) (k : Nat) : List Rn := (List.range k).map fun j => ⟨(bs[j]?).getD 0, (j : Nat)⟩
theorem ascR_succ {bs : List Int} {k : Nat} {c : Int} (h : bs[k]? = some c) : ascR bs (k + 1) = ascR bs k ++ [⟨c, (k : Nat)⟩] := by simp [ascR, List.range_succ, h]
theorem runes_spec (bs : List Int) (hl : bs.length ≤ 1000000) : PCall C1 33 [.c (.p (rB bs))] fun y => ∃ rs : List Rn, y = .c (.p (rR rs)) ∧ rs.length ≤ bs.length ∧ (Asc bs → rs = ascR bs bs.length) := by
  refine Pf (by rfl) (by rfl) fn33 (by rfl) ?_
  simp only [Try.f33, List.length_cons, List.length_nil, List.replicate, List.cons_append, List.nil_append]
  simp -implicitDefEqProofs only [↓yP, yT, Nat.reduceAdd, Nat.reduceMul, Nat.reduceSub, Nat.reduceLeDiff, Nat.reduceEqDiff, reduceCtorEq, Nat.reduceBEq]
  refine Rl_nil 3 2 (by decide) rfl ?_
  refine Rl_inv (fun d e s => ∃ (i : Nat) (rs : List Rn), e = [.c (.p (rB bs)), .c .top, .c .top, .c (.own 0 2 0 rs.length), yd (.int .i64 (i : Nat)), .c .top, .c .top, .c .top, .c .top, .c .top, .c .top, .c .top, .c .top, .c .top, .c .top, .c .top, .c .top, .c .top, .c .top, .c .top, .c .top, .c .top, .c .top, .c .top, .c .top, .c .top, .c .top, .c .top, .c .top, .c .top, .c .top, .c .top, .c .top, .c .top, .c .top, .c .top, .c .top, .c .top, .c .top, .c .top, .c .top, .c .top, .c .top, .c .top, .c .top, .c .top, .c .top, .c .top, .c .top, .c .top, .c .top, .c .top, .c .top] ∧ s = [.row 2 (rs.map Rn.pc)] ∧ i + d = bs.length ∧ rs.length ≤ i ∧ (Asc bs → rs = ascR bs i)) [true, false, false, true, true] bs.length [0] (by decide) (pinned_zero _) ⟨0, [], by (simp only [yE, Nat.reduceEqDiff, Nat.reduceAdd, reduceCtorEq]; try rfl), by (simp only [yE, Nat.reduceEqDiff, Nat.reduceAdd, reduceCtorEq]; try rfl), by omega, by simp, fun _ => rfl⟩ ?_
  rintro d e s ⟨i, rs, rfl, rfl, hd, hrl, hasc⟩
  by_cases hi : i < bs.length
  · obtain ⟨c, hc⟩ := get_lt hi
    have t1 : leI (bs.length : Nat) (i : Nat) = false := leI_false (by omega)
    have b1 : (rs.length + 1) * 16 ≤ 70368744177664 := by omega
    simp -implicitDefEqProofs only [↓yP, yT, Nat.reduceAdd, Nat.reduceMul, Nat.reduceSub, Nat.reduceLeDiff, Nat.reduceEqDiff, reduceCtorEq, Nat.reduceBEq, t1]
    refine Rcall_pure (next_spec bs i hl hi) (by rfl) fun y hy => ?_
    obtain ⟨r, n, ok, rfl, hn1, hn2, hn3⟩ := hy
    have w2 : wrapK .i64 ((i : Int) + (n : Nat)) = ((i + n : Nat) : Int) := wrap_nat (i := i + n) (by omega)
    have w3 : wrapK .i64 (((i + n : Nat) : Int) + 1) = ((i + n + 1 : Nat) : Int) := wrap_succ (by omega)
    cases h0 : eqI r 0 with
    | true =>
      have := of_eqT h0
      simp -implicitDefEqProofs only [↓yP, yT, Nat.reduceAdd, Nat.reduceMul, Nat.reduceSub, Nat.reduceLeDiff, Nat.reduceEqDiff, reduceCtorEq, Nat.reduceBEq, w2, h0, b1]
      refine ⟨bs.length - (i + n), [2], by omega, by decide, pinned_zero _, (i + n), rs ++ [⟨65533, (i : Nat)⟩], ?_, ?_, by omega, by simp; omega, fun ha => ?_⟩
      · (simp only [yE, Nat.reduceEqDiff, Nat.reduceAdd, reduceCtorEq]; try rfl)
      · simp only [yE, Nat.reduceEqDiff, Nat.reduceAdd, reduceCtorEq, List.map_append]; rfl
      · have hra := hasc ha
        have hm := ha c (List.mem_of_getElem? hc)
        have e12 := hn3 c hc (Int.le_trans (by decide) hm.1) (Int.lt_trans hm.2 (by decide))
        have hm1 := hm.1
        clear hasc w2 w3 t1 hn3
        obtain ⟨e1, e2⟩ := e12
        first
        | (exfalso; omega)
        | (subst e2; rw [ascR_succ hc, hra]; simp only [e1])
    | false =>
      cases h12 : eqI r 12 with
      | true =>
        have := of_eqT h12
        simp -implicitDefEqProofs only [↓yP, yT, Nat.reduceAdd, Nat.reduceMul, Nat.reduceSub, Nat.reduceLeDiff, Nat.reduceEqDiff, reduceCtorEq, Nat.reduceBEq, w2, h0, h12, b1]
        refine ⟨bs.length - (i + n), [2], by omega, by decide, pinned_zero _, (i + n), rs ++ [⟨10, (i : Nat)⟩], ?_, ?_, by omega, by simp; omega, fun ha => ?_⟩
        · (simp only [yE, Nat.reduceEqDiff, Nat.reduceAdd, reduceCtorEq]; try rfl)
        · simp only [yE, Nat.reduceEqDiff, Nat.reduceAdd, reduceCtorEq, List.map_append]; rfl
        · have hra := hasc ha
          have hm := ha c (List.mem_of_getElem? hc)
          have e12 := hn3 c hc (Int.le_trans (by decide) hm.1) (Int.lt_trans hm.2 (by decide))
          have hm1 := hm.1
          clear hasc w2 w3 t1 hn3
          obtain ⟨e1, e2⟩ := e12
          first
          | (exfalso; omega)
          | (subst e2; rw [ascR_succ hc, hra]; simp only [e1])
      | false =>
        cases h13 : eqI r 13 with
        | false =>
          simp -implicitDefEqProofs only [↓yP, yT, Nat.reduceAdd, Nat.reduceMul, Nat.reduceSub, Nat.reduceLeDiff, Nat.reduceEqDiff, reduceCtorEq, Nat.reduceBEq, w2, h0, h12, h13, b1]
          refine ⟨bs.length - (i + n), [2], by omega, by decide, pinned_zero _, (i + n), rs ++ [⟨r, (i : Nat)⟩], ?_, ?_, by omega, by simp; omega, fun ha => ?_⟩
          · (simp only [yE, Nat.reduceEqDiff, Nat.reduceAdd, reduceCtorEq]; try rfl)
          · simp only [yE, Nat.reduceEqDiff, Nat.reduceAdd, reduceCtorEq, List.map_append]; rfl
          · have hra := hasc ha
            have hm := ha c (List.mem_of_getElem? hc)
            have e12 := hn3 c hc (Int.le_trans (by decide) hm.1) (Int.lt_trans hm.2 (by decide))
            have hm1 := hm.1
            clear hasc w2 w3 t1 hn3
            obtain ⟨e1, e2⟩ := e12
            first
            | (exfalso; omega)
            | (subst e2; rw [ascR_succ hc, hra]; simp only [e1])
        | true =>
          have := of_eqT h13
          by_cases hin : i + n < bs.length
          · obtain ⟨c2, hc2⟩ := get_lt hin
            have t2 : leI (bs.length : Nat) ((i + n : Nat) : Int) = false := leI_false (by omega)
            cases h10 : eqI c2 10 with
            | true =>
              simp -implicitDefEqProofs only [↓yP, yT, Nat.reduceAdd, Nat.reduceMul, Nat.reduceSub, Nat.reduceLeDiff, Nat.reduceEqDiff, reduceCtorEq, Nat.reduceBEq, w2, h0, h12, h13, b1, t2, ebGet hc2, h10, w3]
              refine ⟨bs.length - (i + n + 1), [2], by omega, by decide, pinned_zero _, (i + n + 1), rs ++ [⟨10, (i : Nat)⟩], ?_, ?_, by omega, by simp; omega, fun ha => ?_⟩
              · (simp only [yE, Nat.reduceEqDiff, Nat.reduceAdd, reduceCtorEq]; try rfl)
              · simp only [yE, Nat.reduceEqDiff, Nat.reduceAdd, reduceCtorEq, List.map_append]; rfl
              · have hra := hasc ha
                have hm := ha c (List.mem_of_getElem? hc)
                have e12 := hn3 c hc (Int.le_trans (by decide) hm.1) (Int.lt_trans hm.2 (by decide))
                have hm1 := hm.1
                clear hasc w2 w3 t1 hn3
                obtain ⟨e1, e2⟩ := e12
                first
                | (exfalso; omega)
                | (subst e2; rw [ascR_succ hc, hra]; simp only [e1])
            | false =>
              simp -implicitDefEqProofs only [↓yP, yT, Nat.reduceAdd, Nat.reduceMul, Nat.reduceSub, Nat.reduceLeDiff, Nat.reduceEqDiff, reduceCtorEq, Nat.reduceBEq, w2, h0, h12, h13, b1, t2, ebGet hc2, h10]
              refine ⟨bs.length - (i + n), [2], by omega, by decide, pinned_zero _, (i + n), rs ++ [⟨10, (i : Nat)⟩], ?_, ?_, by omega, by simp; omega, fun ha => ?_⟩
              · (simp only [yE, Nat.reduceEqDiff, Nat.reduceAdd, reduceCtorEq]; try rfl)
              · simp only [yE, Nat.reduceEqDiff, Nat.reduceAdd, reduceCtorEq, List.map_append]; rfl
              · have hra := hasc ha
                have hm := ha c (List.mem_of_getElem? hc)
                have e12 := hn3 c hc (Int.le_trans (by decide) hm.1) (Int.lt_trans hm.2 (by decide))
                have hm1 := hm.1
                clear hasc w2 w3 t1 hn3
                obtain ⟨e1, e2⟩ := e12
                first
                | (exfalso; omega)
                | (subst e2; rw [ascR_succ hc, hra]; simp only [e1])
          · have t2 : leI (bs.length : Nat) ((i + n : Nat) : Int) = true := leI_true (by omega)
            simp -implicitDefEqProofs only [↓yP, yT, Nat.reduceAdd, Nat.reduceMul, Nat.reduceSub, Nat.reduceLeDiff, Nat.reduceEqDiff, reduceCtorEq, Nat.reduceBEq, w2, h0, h12, h13, b1, t2]
            refine ⟨bs.length - (i + n), [2], by omega, by decide, pinned_zero _, (i + n), rs ++ [⟨10, (i : Nat)⟩], ?_, ?_, by omega, by simp; omega, fun ha => ?_⟩
            · (simp only [yE, Nat.reduceEqDiff, Nat.reduceAdd, reduceCtorEq]; try rfl)
            · simp only [yE, Nat.reduceEqDiff, Nat.reduceAdd, reduceCtorEq, List.map_append]; rfl
            · have hra := hasc ha
              have hm := ha c (List.mem_of_getElem? hc)
              have e12 := hn3 c hc (Int.le_trans (by decide) hm.1) (Int.lt_trans hm.2 (by decide))
              have hm1 := hm.1
              clear hasc w2 w3 t1 hn3
              obtain ⟨e1, e2⟩ := e12
              first
              | (exfalso; omega)
              | (subst e2; rw [ascR_succ hc, hra]; simp only [e1])
  · have t1 : leI (bs.length : Nat) (i : Nat) = true := leI_true (by omega)
    obtain rfl : i = bs.length := by omega
    simp -implicitDefEqProofs only [↓yP, yT, Nat.reduceAdd, Nat.reduceMul, Nat.reduceSub, Nat.reduceLeDiff, Nat.reduceEqDiff, reduceCtorEq, Nat.reduceBEq, t1]
    exact ⟨rs, rfl, hrl, hasc⟩
end Go.Vx.Seat
end
/- Where a bad url ends; strings; small letters. -/
section
open Go Go.Vx Go.Proofs
set_option linter.unusedSimpArgs false
set_option linter.unusedVariables false
set_option maxRecDepth 10000
set_option maxHeartbeats 4000000
namespace Go.Vx.Seat
attribute [local congr] Rg_at Rt_at Ro_at Ri_at Rc_at Rto_at Rtk_at Rtf_at Rti_at
attribute [local irreducible] Rg Rt Ro Ri Rc Rto Rtk Rtf Rti Rw Rl Rd Rcall Rtcall kf
theorem fn93 : nth C1.P.funcs.toList 93 = some Try.f93 := by kernel_rfl
theorem fn67 : nth C1.P.funcs.toList 67 = some Try.f67 := by kernel_rfl
theorem fn59 : nth C1.P.funcs.toList 59 = some Try.f59 := by kernel_rfl
theorem badUrl_spec (l : List Rn) (i : Nat) (hl : l.length ≤ 1000000) (hi : i ≤ l.length) : PCall C1 93 [.c (.p (rR l)), yd (.int .i64 (i : Nat))] fun y => ∃ k : Nat, y = yd (.int .i64 (k : Nat)) ∧ i ≤ k ∧ k ≤ l.length := by
  refine Pf (by rfl) (by rfl) fn93 (by rfl) ?_
  simp only [Try.f93, List.length_cons, List.length_nil, List.replicate, List.cons_append, List.nil_append]
  simp -implicitDefEqProofs only [↓yP, yT, Nat.reduceAdd, Nat.reduceMul, Nat.reduceSub, Nat.reduceLeDiff, Nat.reduceEqDiff, reduceCtorEq, Nat.reduceBEq]
  refine Rl_inv (fun d e s => ∃ (k : Nat), e = [.c (.p (rR l)), yd (.int .i64 (k : Nat)), .c .top, .c .top, .c .top, .c .top, .c .top, .c .top, .c .top, .c .top, .c .top, .c .top, .c .top, .c .top, .c .top, .c .top, .c .top, .c .top, .c .top, .c .top, .c .top, .c .top, .c .top, .c .top, .c .top, .c .top, .c .top, .c .top, .c .top, .c .top, .c .top] ∧ s = [] ∧ k + d = l.length ∧ i ≤ k) [true, true] (l.length - i) [] (by decide) (pinned_zero _) ⟨i, by (simp only [yE, Nat.reduceEqDiff, Nat.reduceAdd, reduceCtorEq]; try rfl), by (simp only [yE, Nat.reduceEqDiff, Nat.reduceAdd, reduceCtorEq]; try rfl), by omega, by omega⟩ ?_
  rintro d e s ⟨k, rfl, rfl, hd, hk⟩
  by_cases hkl : k < l.length
  · obtain ⟨x, hx⟩ := get_lt hkl
    have t1 : leI (l.length : Nat) (k : Nat) = false := leI_false (by omega)
    have w1 : wrapK .i64 ((k : Int) + 1) = ((k + 1 : Nat) : Int) := wrap_succ (by omega)
    cases h1 : eqI x.r 41 with
    | true =>
      simp -implicitDefEqProofs only [↓yP, yT, Nat.reduceAdd, Nat.reduceMul, Nat.reduceSub, Nat.reduceLeDiff, Nat.reduceEqDiff, reduceCtorEq, Nat.reduceBEq, t1, rnGet hx, h1, w1]
      exact ⟨k + 1, rfl, by omega, by omega⟩
    | false =>
      simp -implicitDefEqProofs only [↓yP, yT, Nat.reduceAdd, Nat.reduceMul, Nat.reduceSub, Nat.reduceLeDiff, Nat.reduceEqDiff, reduceCtorEq, Nat.reduceBEq, t1, rnGet hx, h1]
      refine Rcall_pure (escape_spec l k (by omega)) (by rfl) fun y hy => ?_
      subst hy
      cases h2 : escB l k with
      | true =>
        simp -implicitDefEqProofs only [↓yP, yT, Nat.reduceAdd, Nat.reduceMul, Nat.reduceSub, Nat.reduceLeDiff, Nat.reduceEqDiff, reduceCtorEq, Nat.reduceBEq]
        refine Rcall_pure (escaped_spec l k hl hkl) (by rfl) fun y hy => ?_
        obtain ⟨z, k', rfl, hk1, hk2⟩ := hy
        simp -implicitDefEqProofs only [↓yP, yT, Nat.reduceAdd, Nat.reduceMul, Nat.reduceSub, Nat.reduceLeDiff, Nat.reduceEqDiff, reduceCtorEq, Nat.reduceBEq]
        refine ⟨l.length - k', [], by omega, by decide, pinned_zero _, k', by (simp only [yE, Nat.reduceEqDiff, Nat.reduceAdd, reduceCtorEq]; try rfl), rfl, by omega, by omega⟩
      | false =>
        simp -implicitDefEqProofs only [↓yP, yT, Nat.reduceAdd, Nat.reduceMul, Nat.reduceSub, Nat.reduceLeDiff, Nat.reduceEqDiff, reduceCtorEq, Nat.reduceBEq, w1]
        refine ⟨d - 1, [], by omega, by decide, pinned_zero _, k + 1, by (simp only [yE, Nat.reduceEqDiff, Nat.reduceAdd, reduceCtorEq]; try rfl), rfl, by omega, by omega⟩
  · have t1 : leI (l.length : Nat) (k : Nat) = true := leI_true (by omega)
    simp -implicitDefEqProofs only [↓yP, yT, Nat.reduceAdd, Nat.reduceMul, Nat.reduceSub, Nat.reduceLeDiff, Nat.reduceEqDiff, reduceCtorEq, Nat.reduceBEq, t1]
    exact ⟨k, rfl, by omega, by omega⟩
/-- A token of a text and a kind. -/
def lexTok (k : Int) (s : ByteArray) : Tok := ⟨k, s, ⟨#[]⟩, false, ⟨#[]⟩, ⟨#[]⟩, false, false, 0, 0, 0, 0, 0⟩
/-- What is read of a token: its text is no longer than the code points; a sign is just that. -/
structure TokLex (l : List Rn) (t : Tok) : Prop where
  text : (strOf t.text).length ≤ 4 * l.length
  sign : 16 ≤ t.kind → t.kind ≤ 24 → t = lexTok t.kind ⟨#[]⟩
theorem TokLex.plain {l : List Rn} {k : Int} {s : ByteArray} (hs : (strOf s).length ≤ 4 * l.length) (hk : k < 16 ∨ 24 < k) : TokLex l (lexTok k s) := ⟨hs, fun h h2 => absurd hk (by have h : 16 ≤ k := h; have h2 : k ≤ 24 := h2; omega)⟩
/-- A token and where it ends. -/
def LexR (l : List Rn) (i : Nat) (y : YV) : Prop := ∃ (t : Tok) (k : Nat), y = .tup [t.yv, yd (.int .i64 (k : Nat))] ∧ i < k ∧ k ≤ l.length ∧ TokLex l t
def zt : List Ce := (lexTok 0 ⟨#[]⟩).cs
theorem zt13 : (13 ≤ zt.length) = True := by simp [zt, lexTok, Tok.cs, Tok.pc]
theorem ztd : zt.drop 13 = [] := rfl
theorem quoted_spec (l : List Rn) (i : Nat) (hl : l.length ≤ 1000000) (hi : i < l.length) : PCall C1 67 [.c (.p (rR l)), yd (.int .i64 (i : Nat))] (LexR l i) := by
  obtain ⟨x0, hx0⟩ := get_lt hi
  have w1 : wrapK .i64 ((i : Int) + 1) = ((i + 1 : Nat) : Int) := wrap_succ (by omega)
  refine Pf (by rfl) (by rfl) fn67 (by rfl) ?_
  simp only [Try.f67, List.length_cons, List.length_nil, List.replicate, List.cons_append, List.nil_append]
  simp -implicitDefEqProofs only [↓yP, yT, Nat.reduceAdd, Nat.reduceMul, Nat.reduceSub, Nat.reduceLeDiff, Nat.reduceEqDiff, reduceCtorEq, Nat.reduceBEq, rnGet hx0, w1]
  refine Rl_nil 8 1 (by decide) rfl ?_
  refine Rl_inv (fun d e s => ∃ (k : Nat) (bs : List Int), e = [.c (.p (rR l)), yd (.int .i64 (k : Nat)), .c .top, .c .top, .c (.ptr 0 0 0 0), .c .top, yd (.int .i64 (i : Nat)), yd (.int .i64 x0.r), .c (.own 1 1 0 bs.length), .c .top, .c .top, .c .top, .c .top, .c .top, .c .top, .c .top, .c .top, .c .top, .c .top, .c .top, .c .top, .c .top, .c .top, .c .top, .c .top, .c .top, .c .top, .c .top, .c .top, .c .top, .c .top, .c .top, .c .top, .c .top, .c .top, .c .top, .c .top, .c .top, .c .top, .c .top, .c .top, .c .top, .c .top, .c .top, .c .top, .c .top, .c .top, .c .top, .c .top, .c .top, .c .top, .c .top, .c .top, .c .top, .c .top, .c .top, .c .top, .c .top, .c .top, .c .top, .c .top, .c .top, .c .top, .c .top, .c .top, .c .top, .c .top, .c .top, .c .top, .c .top, .c .top, .c .top, .c .top, .c .top, .c .top, .c .top, .c .top, .c .top, .c .top, .c .top, .c .top, .c .top, .c .top, .c .top, .c .top, .c .top, .c .top, .c .top, .c .top, .c .top, .c .top, .c .top, .c .top, .c .top, .c .top, .c .top, .c .top, .c .top, .c .top, .c .top, .c .top, .c .top, .c .top, .c .top, .c .top, .c .top, .c .top, .c .top, .c .top, .c .top, .c .top, .c .top, .c .top] ∧ s = [.box zt, .row 1 (bs.map eb)] ∧ k + d = l.length ∧ i < k ∧ bs.length ≤ 4 * k) [true, true, false, false, true, false, true, true, true] (l.length - (i + 1)) [0, 1] (by decide) (pinned_zero _) ⟨i + 1, [], by (simp only [yE, Nat.reduceEqDiff, Nat.reduceAdd, reduceCtorEq]; try rfl), by (simp only [yE, Nat.reduceEqDiff, Nat.reduceAdd, reduceCtorEq]; try rfl), by omega, by omega, by simp⟩ ?_
  rintro d e s ⟨k, bs, rfl, rfl, hd, hk, hb⟩
  by_cases hkl : k < l.length
  · obtain ⟨x, hx⟩ := get_lt hkl
    have t1 : leI (l.length : Nat) (k : Nat) = false := leI_false (by omega)
    have v1 : wrapK .i64 ((k : Int) + 1) = ((k + 1 : Nat) : Int) := wrap_succ (by omega)
    have v2 : wrapK .i64 ((k : Int) + 2) = ((k + 2 : Nat) : Int) := wrap_nat (i := k + 2) (by omega)
    cases h1 : eqI x.r x0.r with
    | true =>
      simp -implicitDefEqProofs only [↓yP, yT, Nat.reduceAdd, Nat.reduceMul, Nat.reduceSub, Nat.reduceLeDiff, Nat.reduceEqDiff, reduceCtorEq, Nat.reduceBEq, t1, rnGet hx, h1, v1, ybytes_eb, bytesOf_u8, zt13, ztd]
      exact ⟨lexTok 5 (bstr bs), k + 1, rfl, by omega, by omega, .plain (by rw [bstr_len]; omega) (by decide)⟩
    | false =>
      cases h2 : eqI x.r 10 with
      | true =>
        simp -implicitDefEqProofs only [↓yP, yT, Nat.reduceAdd, Nat.reduceMul, Nat.reduceSub, Nat.reduceLeDiff, Nat.reduceEqDiff, reduceCtorEq, Nat.reduceBEq, t1, rnGet hx, h1, h2]
        refine Rcall_pure (raw_spec l i k hl (by omega) (by omega)) (by rfl) fun y hy => ?_
        obtain ⟨st, rfl, hst⟩ := hy
        simp -implicitDefEqProofs only [↓yP, yT, Nat.reduceAdd, Nat.reduceMul, Nat.reduceSub, Nat.reduceLeDiff, Nat.reduceEqDiff, reduceCtorEq, Nat.reduceBEq, zt13, ztd]
        exact ⟨lexTok 6 st, k, rfl, by omega, by omega, .plain hst (by decide)⟩
      | false =>
        cases h3 : eqI x.r 92 with
        | true =>
          by_cases hk1 : k + 1 < l.length
          · obtain ⟨x2, hx2⟩ := get_lt hk1
            have t2 : eqI ((k + 1 : Nat) : Int) (l.length : Nat) = false := eqI_false (by omega)
            cases h4 : eqI x2.r 10 with
            | true =>
              simp -implicitDefEqProofs only [↓yP, yT, Nat.reduceAdd, Nat.reduceMul, Nat.reduceSub, Nat.reduceLeDiff, Nat.reduceEqDiff, reduceCtorEq, Nat.reduceBEq, t1, rnGet hx, rnGet hx2, h1, h2, h3, h4, t2, v1, v2]
              refine ⟨d - 2, [0, 1], by omega, by decide, pinned_zero _, k + 2, bs, by (simp only [yE, Nat.reduceEqDiff, Nat.reduceAdd, reduceCtorEq]; try rfl), by (simp only [yE, Nat.reduceEqDiff, Nat.reduceAdd, reduceCtorEq]; try rfl), by omega, by omega, by omega⟩
            | false =>
              simp -implicitDefEqProofs only [↓yP, yT, Nat.reduceAdd, Nat.reduceMul, Nat.reduceSub, Nat.reduceLeDiff, Nat.reduceEqDiff, reduceCtorEq, Nat.reduceBEq, t1, rnGet hx, rnGet hx2, h1, h2, h3, h4, t2, v1]
              refine Rcall_pure (escaped_spec l k hl hkl) (by rfl) fun y hy => ?_
              obtain ⟨z, k', rfl, hk1, hk2⟩ := hy
              obtain ⟨p1, p2⟩ := putB_len z
              simp -implicitDefEqProofs only [↓yP, yT, Nat.reduceAdd, Nat.reduceMul, Nat.reduceSub, Nat.reduceLeDiff, Nat.reduceEqDiff, reduceCtorEq, Nat.reduceBEq]
              refine Rcall_own' (els := bs.map eb) (n' := (bs ++ putB z).length) (by simp) (by simp) (by rfl) (by rfl) (put_spec z bs (by omega)) ?_
              simp -implicitDefEqProofs only [↓yP, yT, Nat.reduceAdd, Nat.reduceMul, Nat.reduceSub, Nat.reduceLeDiff, Nat.reduceEqDiff, reduceCtorEq, Nat.reduceBEq]
              refine ⟨l.length - k', [0, 2], by omega, by decide, pinned_zero _, k', bs ++ putB z, by (simp only [yE, Nat.reduceEqDiff, Nat.reduceAdd, reduceCtorEq]; try rfl), by (simp only [yE, Nat.reduceEqDiff, Nat.reduceAdd, reduceCtorEq]; try rfl), by omega, by omega, by simp; omega⟩
          · have t2 : eqI ((k + 1 : Nat) : Int) (l.length : Nat) = true := by rw [show k + 1 = l.length by omega]; exact eqI_true _
            simp -implicitDefEqProofs only [↓yP, yT, Nat.reduceAdd, Nat.reduceMul, Nat.reduceSub, Nat.reduceLeDiff, Nat.reduceEqDiff, reduceCtorEq, Nat.reduceBEq, t1, rnGet hx, h1, h2, h3, t2, v1]
            refine ⟨d - 1, [0, 1], by omega, by decide, pinned_zero _, k + 1, bs, by (simp only [yE, Nat.reduceEqDiff, Nat.reduceAdd, reduceCtorEq]; try rfl), by (simp only [yE, Nat.reduceEqDiff, Nat.reduceAdd, reduceCtorEq]; try rfl), by omega, by omega, by omega⟩
        | false =>
          obtain ⟨p1, p2⟩ := putB_len x.r
          simp -implicitDefEqProofs only [↓yP, yT, Nat.reduceAdd, Nat.reduceMul, Nat.reduceSub, Nat.reduceLeDiff, Nat.reduceEqDiff, reduceCtorEq, Nat.reduceBEq, t1, rnGet hx, h1, h2, h3]
          refine Rcall_own' (els := bs.map eb) (n' := (bs ++ putB x.r).length) (by simp) (by simp) (by rfl) (by rfl) (put_spec x.r bs (by omega)) ?_
          simp -implicitDefEqProofs only [↓yP, yT, Nat.reduceAdd, Nat.reduceMul, Nat.reduceSub, Nat.reduceLeDiff, Nat.reduceEqDiff, reduceCtorEq, Nat.reduceBEq, v1]
          refine ⟨d - 1, [0, 2], by omega, by decide, pinned_zero _, k + 1, bs ++ putB x.r, by (simp only [yE, Nat.reduceEqDiff, Nat.reduceAdd, reduceCtorEq]; try rfl), by (simp only [yE, Nat.reduceEqDiff, Nat.reduceAdd, reduceCtorEq]; try rfl), by omega, by omega, by simp; omega⟩
  · have t1 : leI (l.length : Nat) (k : Nat) = true := leI_true (by omega)
    simp -implicitDefEqProofs only [↓yP, yT, Nat.reduceAdd, Nat.reduceMul, Nat.reduceSub, Nat.reduceLeDiff, Nat.reduceEqDiff, reduceCtorEq, Nat.reduceBEq, t1, ybytes_eb, bytesOf_u8, zt13, ztd]
    exact ⟨lexTok 5 (bstr bs), k, rfl, by omega, by omega, .plain (by rw [bstr_len]; omega) (by decide)⟩
end Go.Vx.Seat
end
