/- Texts joined: VyE1 VyE2 VyE3 VyE4 VyE5 VyF3 VyP1 VyQ1. -/
import Derived.Test.YtbndpenalacjaaaVm36
import Derived.Test.YtbndpenalacjaaaVyOwn
import Derived.Test.YtbndpenalacjaaaVyGive
import Derived.Test.YtbndpenalacjaaaVm38
/- Are two rows of tokens one? Are two rows of nodes? -/
section
open Go Go.Vx Go.Proofs
set_option linter.unusedSimpArgs false
set_option linter.unusedVariables false
set_option maxRecDepth 10000
set_option maxHeartbeats 4000000
namespace Go.Vx.Seat
attribute [local congr] Rg_at Rt_at Ro_at Ri_at Rc_at Rto_at Rtk_at Rtf_at Rti_at
attribute [local irreducible] Rg Rt Ro Ri Rc Rto Rtk Rtf Rti Rw Rl Rd Rcall Rtcall kf
theorem fn14 : nth C1.P.funcs.toList 14 = some Try.f14 := by kernel_rfl
theorem fn11 : nth C1.P.funcs.toList 11 = some Try.f11 := by kernel_rfl
def Tok.vals (t : Tok) : List Value :=
  [.int .i64 t.kind, .string t.text, .string t.unit, .bool t.neg, .string t.digits, .string t.exp, .bool t.flag, .bool t.sign, .int .i64 t.c0, .int .i64 t.c1, .int .i64 t.c2, .int .i64 t.c3, .int .i64 t.start]
noncomputable def tokEq (t u : Tok) : Bool := match cellsEq t.vals u.vals with | some b => b | none => false
theorem strOf_eq (a b : ByteArray) : strOf a = strOf b ↔ a = b := by
  constructor
  · intro h
    cases a; cases b
    simp only [strOf] at h
    congr 1
    exact Array.toList_inj.mp h
  · intro h; rw [h]
theorem tokEq_iff (t u : Tok) : tokEq t u = true ↔ t = u := by
  cases t; cases u
  simp only [tokEq, Tok.vals, cellsEq, cellEq, if_true, Bool.and_true, Bool.and_eq_true, decide_eq_true_eq, beq_iff_eq, strOf_eq, Tok.mk.injEq]
theorem cellsEq_tok (t u : Tok) : cellsEq t.vals u.vals = some (tokEq t u) := by
  simp only [tokEq, Tok.vals, cellsEq, cellEq, if_true]
theorem zero44 : tyZero Try.prog 44 = some (.agg #[.int .i64 0, .string ⟨#[]⟩, .string ⟨#[]⟩, .bool false, .string ⟨#[]⟩, .string ⟨#[]⟩, .bool false, .bool false, .int .i64 0, .int .i64 0, .int .i64 0, .int .i64 0, .int .i64 0]) := by kernel_rfl
theorem eqs44 : C1.eqs.contains 44 = true := by kernel_rfl
theorem neq_tok (t u : Tok) : xbin Try.prog C1.eqs .neq 44 (.agg ⟨t.vals⟩) (.agg ⟨u.vals⟩) = some (.bool (!tokEq t u)) := by
  have h1 : likes (clist (.agg #[.int .i64 0, .string ⟨#[]⟩, .string ⟨#[]⟩, .bool false, .string ⟨#[]⟩, .string ⟨#[]⟩, .bool false, .bool false, .int .i64 0, .int .i64 0, .int .i64 0, .int .i64 0, .int .i64 0])) t.vals = true := rfl
  have h2 : likes (clist (.agg #[.int .i64 0, .string ⟨#[]⟩, .string ⟨#[]⟩, .bool false, .string ⟨#[]⟩, .string ⟨#[]⟩, .bool false, .bool false, .int .i64 0, .int .i64 0, .int .i64 0, .int .i64 0, .int .i64 0])) u.vals = true := rfl
  simp only [xbin, xbinA, eqs44, if_true, aggEq, zero44]
  rw [h1, h2]
  simp only [Bool.and_self, if_true, cellsEq_tok]
theorem sameTok_spec (l m : List Tok) (hl : l.length ≤ 1000000) : PCall C1 14 [.c (.p (rT l)), .c (.p (rT m))] fun y => ∃ b : Bool, y = yd (.bool b) ∧ (b = true ↔ l = m) := by
  refine Pf (by rfl) (by rfl) fn14 (by rfl) ?_
  simp only [Try.f14, List.length_cons, List.length_nil, List.replicate, List.cons_append, List.nil_append]
  by_cases hlen : l.length = m.length
  · have f1 : eqI (l.length : Nat) (m.length : Nat) = true := by rw [hlen]; exact eqI_true _
    simp -implicitDefEqProofs only [↓yP, yT, Nat.reduceAdd, Nat.reduceMul, Nat.reduceSub, Nat.reduceLeDiff, Nat.reduceEqDiff, reduceCtorEq, Nat.reduceBEq, f1]
    refine Rl_inv (fun d e s => ∃ i : Nat, e = [.c (.p (rT l)), .c (.p (rT m)), .c .top, .c .top, .c .top, yd (.int .i64 i), .c .top, .c .top, .c .top, .c .top, .c .top, .c .top, .c .top, .c .top, .c .top, .c .top, .c .top, .c .top, .c .top, .c .top, .c .top, .c .top, .c .top, .c .top, .c .top, .c .top] ∧ s = [] ∧ i + d = l.length ∧ ∀ j, j < i → l[j]? = m[j]?) [true, true, false, false, false, true] l.length [] (by decide) (pinned_zero _) ⟨0, by simp only [yE, Nat.reduceEqDiff, Nat.reduceAdd, reduceCtorEq]; rfl, rfl, by omega, fun j hj => by omega⟩ ?_
    rintro d e s ⟨i, rfl, rfl, hd, hsame⟩
    by_cases hi : i < l.length
    · obtain ⟨t, ht⟩ := get_lt hi
      obtain ⟨u, hu⟩ := get_lt (show i < m.length by omega)
      have t1 : leI (l.length : Nat) (i : Nat) = false := leI_false (by omega)
      have w1 : wrapK .i64 ((i : Int) + 1) = ((i + 1 : Nat) : Int) := wrap_succ (by omega)
      have hneq := neq_tok t u
      simp only [Tok.vals] at hneq
      simp -implicitDefEqProofs only [↓yP, yT, Nat.reduceAdd, Nat.reduceMul, Nat.reduceSub, Nat.reduceLeDiff, Nat.reduceEqDiff, reduceCtorEq, Nat.reduceBEq, t1]
      refine Rd_calm (by rw [C1_P]; kernel_rfl) ?_
      cases hq : tokEq t u with
      | true =>
        rw [hq] at hneq
        have he := (tokEq_iff t u).mp hq
        simp -implicitDefEqProofs only [↓yP, yT, Nat.reduceAdd, Nat.reduceMul, Nat.reduceSub, Nat.reduceLeDiff, Nat.reduceEqDiff, reduceCtorEq, Nat.reduceBEq, get_map ht, get_map hu, Tok.pc, hneq, w1]
        refine ⟨d - 1, [], by omega, by decide, pinned_zero _, i + 1, ?_, rfl, by omega, fun j hj => ?_⟩
        · simp only [yE, Nat.reduceEqDiff, Nat.reduceAdd, reduceCtorEq]
        · by_cases e : j = i
          · subst e; rw [ht, hu, he]
          · exact hsame j (by omega)
      | false =>
        rw [hq] at hneq
        simp -implicitDefEqProofs only [↓yP, yT, Nat.reduceAdd, Nat.reduceMul, Nat.reduceSub, Nat.reduceLeDiff, Nat.reduceEqDiff, reduceCtorEq, Nat.reduceBEq, get_map ht, get_map hu, Tok.pc, hneq]
        refine ⟨false, rfl, by simp; intro h; subst h; rw [ht] at hu; cases hu; rw [(tokEq_iff t t).mpr rfl] at hq; cases hq⟩
    · have t1 : leI (l.length : Nat) (i : Nat) = true := leI_true (by omega)
      simp -implicitDefEqProofs only [↓yP, yT, Nat.reduceAdd, Nat.reduceMul, Nat.reduceSub, Nat.reduceLeDiff, Nat.reduceEqDiff, reduceCtorEq, Nat.reduceBEq, t1]
      refine ⟨true, rfl, by simp; apply List.ext_getElem?; intro j; by_cases hj : j < i; exact hsame j hj; rw [List.getElem?_eq_none (by omega), List.getElem?_eq_none (by omega)]⟩
  · have f1 : eqI (l.length : Nat) (m.length : Nat) = false := eqI_false (by omega)
    simp -implicitDefEqProofs only [↓yP, yT, Nat.reduceAdd, Nat.reduceMul, Nat.reduceSub, Nat.reduceLeDiff, Nat.reduceEqDiff, reduceCtorEq, Nat.reduceBEq, f1]
    refine ⟨false, rfl, by simp; intro h; subst h; exact hlen rfl⟩
theorem sameTok_refl (l : List Tok) (hl : l.length ≤ 1000000) : PCall C1 14 [.c (.p (rT l)), .c (.p (rT l))] fun y => y = yd (.bool true) :=
  (sameTok_spec l l hl).mono fun y ⟨b, h1, h2⟩ => by rw [h1, h2.mpr rfl]

/-- Nodes that are not too many. -/
inductive NdOk : Nd → Prop where
  | mk {k : Int} {h t : List Tok} {ks : List Nd} {o s m : Bool} {a l : Int} : h.length ≤ 1000000 → t.length ≤ 1000000 → ks.length ≤ 1000000 → (∀ x, x ∈ ks → NdOk x) → NdOk (.mk k h t ks o s m a l)
def Refl : Nd → Prop
  | .mk k h t ks o s m a l => h.length ≤ 1000000 ∧ t.length ≤ 1000000 ∧ PCall C1 11 [.c (.p (rN ks)), .c (.p (rN ks))] fun y => y = yd (.bool true)
theorem bool_neq (b : Bool) : (!(b == b)) = false := by simp
theorem under4 : Try.prog.underlying 4 = some .bool := by kernel_rfl
theorem sameNodes_list (ns : List Nd) (hl : ns.length ≤ 1000000) (hr : ∀ x, x ∈ ns → Refl x) : PCall C1 11 [.c (.p (rN ns)), .c (.p (rN ns))] fun y => y = yd (.bool true) := by
  refine Pf (by rfl) (by rfl) fn11 (by rfl) ?_
  simp only [Try.f11, List.length_cons, List.length_nil, List.replicate, List.cons_append, List.nil_append]
  simp -implicitDefEqProofs only [↓yP, yT, Nat.reduceAdd, Nat.reduceMul, Nat.reduceSub, Nat.reduceLeDiff, Nat.reduceEqDiff, reduceCtorEq, Nat.reduceBEq, eqI_true]
  refine Rl_inv (fun d e s => ∃ i : Nat, e = [.c (.p (rN ns)), .c (.p (rN ns)), .c .top, .c .top, .c .top, yd (.int .i64 i), .c .top, .c .top, .c .top, .c .top, .c .top, .c .top, .c .top, .c .top, .c .top, .c .top, .c .top, .c .top, .c .top, .c .top, .c .top, .c .top, .c .top, .c .top, .c .top, .c .top, .c .top, .c .top, .c .top, .c .top, .c .top, .c .top, .c .top, .c .top, .c .top, .c .top, .c .top, .c .top, .c .top, .c .top, .c .top, .c .top, .c .top, .c .top, .c .top, .c .top, .c .top, .c .top, .c .top, .c .top, .c .top, .c .top, .c .top, .c .top, .c .top, .c .top, .c .top, .c .top, .c .top, .c .top, .c .top, .c .top, .c .top, .c .top, .c .top, .c .top, .c .top, .c .top, .c .top, .c .top, .c .top, .c .top, .c .top, .c .top, .c .top, .c .top, .c .top, .c .top, .c .top, .c .top, .c .top, .c .top, .c .top, .c .top, .c .top, .c .top, .c .top, .c .top, .c .top, .c .top, .c .top] ∧ s = [] ∧ i + d = ns.length) [true, true, false, false, false, true] ns.length [] (by decide) (pinned_zero _) ⟨0, by simp only [yE, Nat.reduceEqDiff, Nat.reduceAdd, reduceCtorEq]; rfl, rfl, by omega⟩ ?_
  rintro d e s ⟨i, rfl, rfl, hd⟩
  by_cases hi : i < ns.length
  · obtain ⟨x, hx⟩ := get_lt hi
    have hxr := hr x (List.mem_of_getElem? hx)
    obtain ⟨k0, h0, t0, ks0, o0, s0, m0, a0, l0⟩ := x
    obtain ⟨hh, ht, hk⟩ := hxr
    have t1 : leI (ns.length : Nat) (i : Nat) = false := leI_false (by omega)
    have w1 : wrapK .i64 ((i : Int) + 1) = ((i + 1 : Nat) : Int) := wrap_succ (by omega)
    have hg := get_map (f := Nd.pc) hx
    rw [pc_mk] at hg
    simp -implicitDefEqProofs only [↓yP, yT, Nat.reduceAdd, Nat.reduceMul, Nat.reduceSub, Nat.reduceLeDiff, Nat.reduceEqDiff, reduceCtorEq, Nat.reduceBEq, t1, hg, eqI_true]
    refine Rcall_pure (sameTok_refl h0 hh) (by rfl) fun y hy => ?_
    subst hy
    simp -implicitDefEqProofs only [↓yP, yT, Nat.reduceAdd, Nat.reduceMul, Nat.reduceSub, Nat.reduceLeDiff, Nat.reduceEqDiff, reduceCtorEq, Nat.reduceBEq]
    refine Rcall_pure (sameTok_refl t0 ht) (by rfl) fun y hy => ?_
    subst hy
    simp -implicitDefEqProofs only [↓yP, yT, Nat.reduceAdd, Nat.reduceMul, Nat.reduceSub, Nat.reduceLeDiff, Nat.reduceEqDiff, reduceCtorEq, Nat.reduceBEq]
    refine Rcall_pure hk (by rfl) fun y hy => ?_
    subst hy
    simp -implicitDefEqProofs only [↓yP, yT, Nat.reduceAdd, Nat.reduceMul, Nat.reduceSub, Nat.reduceLeDiff, Nat.reduceEqDiff, reduceCtorEq, Nat.reduceBEq, bool_neq, eqI_true, under4, w1]
    refine ⟨d - 1, [], by omega, by decide, pinned_zero _, i + 1, ?_, rfl, by omega⟩
    simp only [yE, Nat.reduceEqDiff, Nat.reduceAdd, reduceCtorEq]
  · have t1 : leI (ns.length : Nat) (i : Nat) = true := leI_true (by omega)
    simp -implicitDefEqProofs only [↓yP, yT, Nat.reduceAdd, Nat.reduceMul, Nat.reduceSub, Nat.reduceLeDiff, Nat.reduceEqDiff, reduceCtorEq, Nat.reduceBEq, t1]
theorem refl_of_ok {x : Nd} (hx : NdOk x) : Refl x := by
  induction hx with
  | mk h1 h2 h3 h4 ih => exact ⟨h1, h2, sameNodes_list _ h3 ih⟩
theorem sameNodes_refl (ns : List Nd) (hl : ns.length ≤ 1000000) (hr : ∀ x, x ∈ ns → NdOk x) : PCall C1 11 [.c (.p (rN ns)), .c (.p (rN ns))] fun y => y = yd (.bool true) :=
  sameNodes_list ns hl fun x hx => refl_of_ok (hr x hx)
end Go.Vx.Seat
end
/- The tokens of nodes. -/
section
open Go Go.Vx Go.Proofs
set_option linter.unusedSimpArgs false
set_option linter.unusedVariables false
set_option maxRecDepth 10000
set_option maxHeartbeats 8000000
namespace Go.Vx.Seat
attribute [local congr] Rg_at Rt_at Ro_at Ri_at Rc_at Rto_at Rtk_at Rtf_at Rti_at
attribute [local irreducible] Rg Rt Ro Ri Rc Rto Rtk Rtf Rti Rw Rl Rd Rcall Rtcall kf
theorem fn16 : nth C1.P.funcs.toList 16 = some Try.f16 := by kernel_rfl
theorem fn29 : nth C1.P.funcs.toList 29 = some Try.f29 := by kernel_rfl
theorem fn15 : nth C1.P.funcs.toList 15 = some Try.f15 := by kernel_rfl
theorem xbinI_eql (k k' : IntKind) (a b : Int) : xbinI .eql k k' a b = if k = k' then xint .eql k a b else none := rfl
theorem xbinI_neq (k k' : IntKind) (a b : Int) : xbinI .neq k k' a b = if k = k' then xint .neq k a b else none := rfl
theorem xbinI_lss (k k' : IntKind) (a b : Int) : xbinI .lss k k' a b = if k = k' then xint .lss k a b else none := rfl
theorem xbinI_leq (k k' : IntKind) (a b : Int) : xbinI .leq k k' a b = if k = k' then xint .leq k a b else none := rfl
theorem xbinI_gtr (k k' : IntKind) (a b : Int) : xbinI .gtr k k' a b = if k = k' then xint .gtr k a b else none := rfl
theorem xbinI_geq (k k' : IntKind) (a b : Int) : xbinI .geq k k' a b = if k = k' then xint .geq k a b else none := rfl
theorem xbinI_add (k k' : IntKind) (a b : Int) : xbinI .add k k' a b = if k = k' then xint .add k a b else none := rfl
theorem xbinI_sub (k k' : IntKind) (a b : Int) : xbinI .sub k k' a b = if k = k' then xint .sub k a b else none := rfl
theorem ySource_row (s : Sto) (sz z : Nat) (els : List (List PC)) : ySource s sz (.c (.p (.row z els))) = if z = sz then some els else none := rfl
theorem ySource_own (s : Sto) (sz id z o l : Nat) : ySource s sz (.c (.own id z o l)) = (match yrow s (.c (.own id z o l)) with | some (z, els) => if z = sz then some els else none | none => none) := rfl
theorem ySource_nil (s : Sto) (sz c : Nat) : ySource s sz (.c (.p (.d (.slice none 0 c)))) = some [] := rfl
def mkTok (k a : Int) : Tok := ⟨k, ⟨#[]⟩, ⟨#[]⟩, false, ⟨#[]⟩, ⟨#[]⟩, false, false, 0, 0, 0, 0, a⟩
mutual
def Nd.toks : Nd → List Tok
  | .mk k h t ks o s m a l => h ++ (if k = 2 then mkTok 16 a :: t else []) ++ (if k = 1 then (if o then [mkTok 19 a] else []) ++ toksOf ks ++ (if s then [mkTok 20 l] else []) else []) ++ (if m then [mkTok 17 l] else [])
def toksOf : List Nd → List Tok
  | [] => []
  | n :: ns => n.toks ++ toksOf ns
end
theorem toksOf_map : ∀ ns : List Nd, toksOf ns = (ns.map Nd.toks).flatten
  | [] => by rw [toksOf]; rfl
  | n :: ns => by rw [toksOf, toksOf_map ns]; rfl
theorem toksOf_snoc (ns : List Nd) (x : Nd) : toksOf (ns ++ [x]) = toksOf ns ++ x.toks := by simp [toksOf_map]
theorem toksOf_take {ns : List Nd} {i : Nat} {x : Nd} (h : ns[i]? = some x) : toksOf (ns.take (i + 1)) = toksOf (ns.take i) ++ x.toks := by
  rw [List.take_add_one, h]; exact toksOf_snoc _ _
theorem toksOf_le {ns : List Nd} {i : Nat} {x : Nd} (h : ns[i]? = some x) : (toksOf (ns.take i)).length + x.toks.length ≤ (toksOf ns).length := by
  have h1 : toksOf ns = toksOf (ns.take (i + 1)) ++ toksOf (ns.drop (i + 1)) := by
    rw [toksOf_map, toksOf_map, toksOf_map, ← List.flatten_append, ← List.map_append, List.take_append_drop]
  rw [← List.length_append, ← toksOf_take h, h1, List.length_append]
  omega
theorem bnd {n : Nat} (h : n ≤ 549755813888) : (n * 128 ≤ 70368744177664) = True := by simp; omega
theorem lit1 (k a : Int) : [[PC.d (.int .i64 k), .d (.string ⟨#[]⟩), .d (.string ⟨#[]⟩), .d (.bool false), .d (.string ⟨#[]⟩), .d (.string ⟨#[]⟩), .d (.bool false), .d (.bool false), .d (.int .i64 0), .d (.int .i64 0), .d (.int .i64 0), .d (.int .i64 0), .d (.int .i64 a)]] = [mkTok k a].map Tok.pc := rfl

/-- What a node's tokens are, by what is read of it. -/
def TokSpec : Nd → Prop
  | .mk k h t ks o s m a l => (toksOf ks).length ≤ 1000000 → PCall C1 16 [.c (.p (rN ks))] fun y => y = .c (.p (rT (toksOf ks)))
theorem toksD_list (ns : List Nd) (hl : ns.length ≤ 1000000) (hr : ∀ x, x ∈ ns → TokSpec x) (hb : (toksOf ns).length ≤ 1000000) : PCall C1 16 [.c (.p (rN ns))] fun y => y = .c (.p (rT (toksOf ns))) := by
  refine Pf (by rfl) (by rfl) fn16 (by rfl) ?_
  simp only [Try.f16, List.length_cons, List.length_nil, List.replicate, List.cons_append, List.nil_append]
  simp -implicitDefEqProofs only [↓yP, yT, Nat.reduceAdd, Nat.reduceMul, Nat.reduceSub, Nat.reduceLeDiff, Nat.reduceEqDiff, reduceCtorEq, Nat.reduceBEq]
  refine Rl_nil 3 13 (by decide) rfl ?_
  refine Rl_inv (fun d e s => ∃ i : Nat, e = [.c (.p (rN ns)), .c .top, .c .top, .c (.own 0 13 0 (toksOf (ns.take i)).length), yd (.int .i64 i), .c .top, .c .top, .c .top, .c .top, .c .top, .c .top, .c .top, .c .top, .c .top, .c .top, .c .top, .c .top, .c .top, .c .top, .c .top, .c .top, .c .top, .c .top, .c .top, .c .top, .c .top, .c .top, .c .top, .c .top, .c .top, .c .top, .c .top, .c .top, .c .top, .c .top, .c .top, .c .top, .c .top, .c .top, .c .top, .c .top, .c .top, .c .top, .c .top, .c .top, .c .top, .c .top, .c .top, .c .top, .c .top, .c .top, .c .top, .c .top, .c .top, .c .top, .c .top, .c .top, .c .top, .c .top, .c .top, .c .top, .c .top, .c .top, .c .top, .c .top] ∧ s = [.row 13 ((toksOf (ns.take i)).map Tok.pc)] ∧ i + d = ns.length) [true, false, false, true, true] ns.length [0] (by decide) (pinned_zero _) ⟨0, rfl, rfl, by omega⟩ ?_
  rintro d e s ⟨i, rfl, rfl, hd⟩
  by_cases hi : i < ns.length
  · obtain ⟨x, hx⟩ := get_lt hi
    have hxr := hr x (List.mem_of_getElem? hx)
    have hle := toksOf_le hx
    have hsn := toksOf_take hx
    obtain ⟨k0, h0, t0, ks0, o0, s0, m0, a0, l0⟩ := x
    simp only [TokSpec] at hxr
    have t1 : leI (ns.length : Nat) (i : Nat) = false := leI_false (by omega)
    have w1 : wrapK .i64 ((i : Int) + 1) = ((i + 1 : Nat) : Int) := wrap_succ (by omega)
    have hg := get_map (f := Nd.pc) hx
    rw [pc_mk] at hg
    simp only [Nd.toks, List.length_append] at hle
    generalize hac : toksOf (ns.take i) = acc at hle hsn ⊢
    by_cases q1 : k0 = 2
    · have f1 : eqI k0 2 = true := by rw [q1]; rfl
      have f2 : True := trivial
      subst q1
      simp only [if_true, List.length_cons] at hle
      cases m0 with
      | false =>
        simp -implicitDefEqProofs (disch := first | (intros; rename_i h; cases h; done) | ((try simp only [List.length_append, List.length_map, List.length_cons, List.length_nil]); omega)) only [↓yP, yT, Nat.reduceAdd, Nat.reduceMul, Nat.reduceSub, Nat.reduceLeDiff, Nat.reduceEqDiff, reduceCtorEq, Nat.reduceBEq, t1, hg, xbinI_eql, xbinI_neq, xbinI_lss, xbinI_leq, xbinI_gtr, xbinI_geq, xbinI_add, xbinI_sub, ySource_row, ySource_own, ySource_nil, bnd, List.take_of_length_le, List.length_append, f1, f2, w1]
        refine Rd_trace ?_
        simp -implicitDefEqProofs (disch := first | (intros; rename_i h; cases h; done) | ((try simp only [List.length_append, List.length_map, List.length_cons, List.length_nil]); omega)) only [↓yP, yT, Nat.reduceAdd, Nat.reduceMul, Nat.reduceSub, Nat.reduceLeDiff, Nat.reduceEqDiff, reduceCtorEq, Nat.reduceBEq, xbinI_eql, xbinI_neq, xbinI_lss, xbinI_leq, xbinI_gtr, xbinI_geq, xbinI_add, xbinI_sub, ySource_row, ySource_own, ySource_nil, bnd, List.take_of_length_le, List.length_append, f1, f2, w1]
        refine ⟨d - 1, [5], by omega, by decide, pinned_zero _, i + 1, ?_, ?_, by omega⟩
        · simp only [yE, Nat.reduceEqDiff, Nat.reduceAdd, reduceCtorEq, hsn, Nd.toks]
          try (simp [Nat.add_assoc] <;> omega)
        · simp only [yE, Nat.reduceEqDiff, Nat.reduceAdd, reduceCtorEq, hsn, Nd.toks, lit1]
          try simp
      | true =>
        simp -implicitDefEqProofs (disch := first | (intros; rename_i h; cases h; done) | ((try simp only [List.length_append, List.length_map, List.length_cons, List.length_nil]); omega)) only [↓yP, yT, Nat.reduceAdd, Nat.reduceMul, Nat.reduceSub, Nat.reduceLeDiff, Nat.reduceEqDiff, reduceCtorEq, Nat.reduceBEq, t1, hg, xbinI_eql, xbinI_neq, xbinI_lss, xbinI_leq, xbinI_gtr, xbinI_geq, xbinI_add, xbinI_sub, ySource_row, ySource_own, ySource_nil, bnd, List.take_of_length_le, List.length_append, f1, f2, w1]
        refine Rd_trace ?_
        simp -implicitDefEqProofs (disch := first | (intros; rename_i h; cases h; done) | ((try simp only [List.length_append, List.length_map, List.length_cons, List.length_nil]); omega)) only [↓yP, yT, Nat.reduceAdd, Nat.reduceMul, Nat.reduceSub, Nat.reduceLeDiff, Nat.reduceEqDiff, reduceCtorEq, Nat.reduceBEq, xbinI_eql, xbinI_neq, xbinI_lss, xbinI_leq, xbinI_gtr, xbinI_geq, xbinI_add, xbinI_sub, ySource_row, ySource_own, ySource_nil, bnd, List.take_of_length_le, List.length_append, f1, f2, w1]
        refine ⟨d - 1, [7], by omega, by decide, pinned_zero _, i + 1, ?_, ?_, by omega⟩
        · simp only [yE, Nat.reduceEqDiff, Nat.reduceAdd, reduceCtorEq, hsn, Nd.toks]
          try (simp [Nat.add_assoc] <;> omega)
        · simp only [yE, Nat.reduceEqDiff, Nat.reduceAdd, reduceCtorEq, hsn, Nd.toks, lit1]
          try simp
    have f1 : eqI k0 2 = false := eqI_false q1
    by_cases q2 : k0 = 1
    · have f2 : eqI k0 1 = true := by rw [q2]; rfl
      subst q2
      simp only [if_true, List.length_append] at hle
      have hks := hxr (by omega)
      rcases o0 with _ | _ <;> rcases s0 with _ | _ <;> rcases m0 with _ | _
      · skip
        simp -implicitDefEqProofs (disch := first | (intros; rename_i h; cases h; done) | ((try simp only [List.length_append, List.length_map, List.length_cons, List.length_nil]); omega)) only [↓yP, yT, Nat.reduceAdd, Nat.reduceMul, Nat.reduceSub, Nat.reduceLeDiff, Nat.reduceEqDiff, reduceCtorEq, Nat.reduceBEq, t1, hg, xbinI_eql, xbinI_neq, xbinI_lss, xbinI_leq, xbinI_gtr, xbinI_geq, xbinI_add, xbinI_sub, ySource_row, ySource_own, ySource_nil, bnd, List.take_of_length_le, List.length_append, f1, f2, w1]
        refine Rcall_pure hks (by rfl) fun y hy => ?_
        subst hy
        simp -implicitDefEqProofs (disch := first | (intros; rename_i h; cases h; done) | ((try simp only [List.length_append, List.length_map, List.length_cons, List.length_nil]); omega)) only [↓yP, yT, Nat.reduceAdd, Nat.reduceMul, Nat.reduceSub, Nat.reduceLeDiff, Nat.reduceEqDiff, reduceCtorEq, Nat.reduceBEq, xbinI_eql, xbinI_neq, xbinI_lss, xbinI_leq, xbinI_gtr, xbinI_geq, xbinI_add, xbinI_sub, ySource_row, ySource_own, ySource_nil, bnd, List.take_of_length_le, List.length_append, f1, f2, w1]
        refine ⟨d - 1, [3], by omega, by decide, pinned_zero _, i + 1, ?_, ?_, by omega⟩
        · simp only [yE, Nat.reduceEqDiff, Nat.reduceAdd, reduceCtorEq, hsn, Nd.toks]
          try (simp [Nat.add_assoc] <;> omega)
        · simp only [yE, Nat.reduceEqDiff, Nat.reduceAdd, reduceCtorEq, hsn, Nd.toks, lit1]
          try simp
      · skip
        simp -implicitDefEqProofs (disch := first | (intros; rename_i h; cases h; done) | ((try simp only [List.length_append, List.length_map, List.length_cons, List.length_nil]); omega)) only [↓yP, yT, Nat.reduceAdd, Nat.reduceMul, Nat.reduceSub, Nat.reduceLeDiff, Nat.reduceEqDiff, reduceCtorEq, Nat.reduceBEq, t1, hg, xbinI_eql, xbinI_neq, xbinI_lss, xbinI_leq, xbinI_gtr, xbinI_geq, xbinI_add, xbinI_sub, ySource_row, ySource_own, ySource_nil, bnd, List.take_of_length_le, List.length_append, f1, f2, w1]
        refine Rcall_pure hks (by rfl) fun y hy => ?_
        subst hy
        simp -implicitDefEqProofs (disch := first | (intros; rename_i h; cases h; done) | ((try simp only [List.length_append, List.length_map, List.length_cons, List.length_nil]); omega)) only [↓yP, yT, Nat.reduceAdd, Nat.reduceMul, Nat.reduceSub, Nat.reduceLeDiff, Nat.reduceEqDiff, reduceCtorEq, Nat.reduceBEq, xbinI_eql, xbinI_neq, xbinI_lss, xbinI_leq, xbinI_gtr, xbinI_geq, xbinI_add, xbinI_sub, ySource_row, ySource_own, ySource_nil, bnd, List.take_of_length_le, List.length_append, f1, f2, w1]
        refine ⟨d - 1, [5], by omega, by decide, pinned_zero _, i + 1, ?_, ?_, by omega⟩
        · simp only [yE, Nat.reduceEqDiff, Nat.reduceAdd, reduceCtorEq, hsn, Nd.toks]
          try (simp [Nat.add_assoc] <;> omega)
        · simp only [yE, Nat.reduceEqDiff, Nat.reduceAdd, reduceCtorEq, hsn, Nd.toks, lit1]
          try simp
      · skip
        simp -implicitDefEqProofs (disch := first | (intros; rename_i h; cases h; done) | ((try simp only [List.length_append, List.length_map, List.length_cons, List.length_nil]); omega)) only [↓yP, yT, Nat.reduceAdd, Nat.reduceMul, Nat.reduceSub, Nat.reduceLeDiff, Nat.reduceEqDiff, reduceCtorEq, Nat.reduceBEq, t1, hg, xbinI_eql, xbinI_neq, xbinI_lss, xbinI_leq, xbinI_gtr, xbinI_geq, xbinI_add, xbinI_sub, ySource_row, ySource_own, ySource_nil, bnd, List.take_of_length_le, List.length_append, f1, f2, w1]
        refine Rcall_pure hks (by rfl) fun y hy => ?_
        subst hy
        simp -implicitDefEqProofs (disch := first | (intros; rename_i h; cases h; done) | ((try simp only [List.length_append, List.length_map, List.length_cons, List.length_nil]); omega)) only [↓yP, yT, Nat.reduceAdd, Nat.reduceMul, Nat.reduceSub, Nat.reduceLeDiff, Nat.reduceEqDiff, reduceCtorEq, Nat.reduceBEq, xbinI_eql, xbinI_neq, xbinI_lss, xbinI_leq, xbinI_gtr, xbinI_geq, xbinI_add, xbinI_sub, ySource_row, ySource_own, ySource_nil, bnd, List.take_of_length_le, List.length_append, f1, f2, w1]
        refine ⟨d - 1, [5], by omega, by decide, pinned_zero _, i + 1, ?_, ?_, by omega⟩
        · simp only [yE, Nat.reduceEqDiff, Nat.reduceAdd, reduceCtorEq, hsn, Nd.toks]
          try (simp [Nat.add_assoc] <;> omega)
        · simp only [yE, Nat.reduceEqDiff, Nat.reduceAdd, reduceCtorEq, hsn, Nd.toks, lit1]
          try simp
      · skip
        simp -implicitDefEqProofs (disch := first | (intros; rename_i h; cases h; done) | ((try simp only [List.length_append, List.length_map, List.length_cons, List.length_nil]); omega)) only [↓yP, yT, Nat.reduceAdd, Nat.reduceMul, Nat.reduceSub, Nat.reduceLeDiff, Nat.reduceEqDiff, reduceCtorEq, Nat.reduceBEq, t1, hg, xbinI_eql, xbinI_neq, xbinI_lss, xbinI_leq, xbinI_gtr, xbinI_geq, xbinI_add, xbinI_sub, ySource_row, ySource_own, ySource_nil, bnd, List.take_of_length_le, List.length_append, f1, f2, w1]
        refine Rcall_pure hks (by rfl) fun y hy => ?_
        subst hy
        simp -implicitDefEqProofs (disch := first | (intros; rename_i h; cases h; done) | ((try simp only [List.length_append, List.length_map, List.length_cons, List.length_nil]); omega)) only [↓yP, yT, Nat.reduceAdd, Nat.reduceMul, Nat.reduceSub, Nat.reduceLeDiff, Nat.reduceEqDiff, reduceCtorEq, Nat.reduceBEq, xbinI_eql, xbinI_neq, xbinI_lss, xbinI_leq, xbinI_gtr, xbinI_geq, xbinI_add, xbinI_sub, ySource_row, ySource_own, ySource_nil, bnd, List.take_of_length_le, List.length_append, f1, f2, w1]
        refine ⟨d - 1, [7], by omega, by decide, pinned_zero _, i + 1, ?_, ?_, by omega⟩
        · simp only [yE, Nat.reduceEqDiff, Nat.reduceAdd, reduceCtorEq, hsn, Nd.toks]
          try (simp [Nat.add_assoc] <;> omega)
        · simp only [yE, Nat.reduceEqDiff, Nat.reduceAdd, reduceCtorEq, hsn, Nd.toks, lit1]
          try simp
      · skip
        simp -implicitDefEqProofs (disch := first | (intros; rename_i h; cases h; done) | ((try simp only [List.length_append, List.length_map, List.length_cons, List.length_nil]); omega)) only [↓yP, yT, Nat.reduceAdd, Nat.reduceMul, Nat.reduceSub, Nat.reduceLeDiff, Nat.reduceEqDiff, reduceCtorEq, Nat.reduceBEq, t1, hg, xbinI_eql, xbinI_neq, xbinI_lss, xbinI_leq, xbinI_gtr, xbinI_geq, xbinI_add, xbinI_sub, ySource_row, ySource_own, ySource_nil, bnd, List.take_of_length_le, List.length_append, f1, f2, w1]
        refine Rcall_pure hks (by rfl) fun y hy => ?_
        subst hy
        simp -implicitDefEqProofs (disch := first | (intros; rename_i h; cases h; done) | ((try simp only [List.length_append, List.length_map, List.length_cons, List.length_nil]); omega)) only [↓yP, yT, Nat.reduceAdd, Nat.reduceMul, Nat.reduceSub, Nat.reduceLeDiff, Nat.reduceEqDiff, reduceCtorEq, Nat.reduceBEq, xbinI_eql, xbinI_neq, xbinI_lss, xbinI_leq, xbinI_gtr, xbinI_geq, xbinI_add, xbinI_sub, ySource_row, ySource_own, ySource_nil, bnd, List.take_of_length_le, List.length_append, f1, f2, w1]
        refine ⟨d - 1, [5], by omega, by decide, pinned_zero _, i + 1, ?_, ?_, by omega⟩
        · simp only [yE, Nat.reduceEqDiff, Nat.reduceAdd, reduceCtorEq, hsn, Nd.toks]
          try (simp [Nat.add_assoc] <;> omega)
        · simp only [yE, Nat.reduceEqDiff, Nat.reduceAdd, reduceCtorEq, hsn, Nd.toks, lit1]
          try simp
      · skip
        simp -implicitDefEqProofs (disch := first | (intros; rename_i h; cases h; done) | ((try simp only [List.length_append, List.length_map, List.length_cons, List.length_nil]); omega)) only [↓yP, yT, Nat.reduceAdd, Nat.reduceMul, Nat.reduceSub, Nat.reduceLeDiff, Nat.reduceEqDiff, reduceCtorEq, Nat.reduceBEq, t1, hg, xbinI_eql, xbinI_neq, xbinI_lss, xbinI_leq, xbinI_gtr, xbinI_geq, xbinI_add, xbinI_sub, ySource_row, ySource_own, ySource_nil, bnd, List.take_of_length_le, List.length_append, f1, f2, w1]
        refine Rcall_pure hks (by rfl) fun y hy => ?_
        subst hy
        simp -implicitDefEqProofs (disch := first | (intros; rename_i h; cases h; done) | ((try simp only [List.length_append, List.length_map, List.length_cons, List.length_nil]); omega)) only [↓yP, yT, Nat.reduceAdd, Nat.reduceMul, Nat.reduceSub, Nat.reduceLeDiff, Nat.reduceEqDiff, reduceCtorEq, Nat.reduceBEq, xbinI_eql, xbinI_neq, xbinI_lss, xbinI_leq, xbinI_gtr, xbinI_geq, xbinI_add, xbinI_sub, ySource_row, ySource_own, ySource_nil, bnd, List.take_of_length_le, List.length_append, f1, f2, w1]
        refine ⟨d - 1, [7], by omega, by decide, pinned_zero _, i + 1, ?_, ?_, by omega⟩
        · simp only [yE, Nat.reduceEqDiff, Nat.reduceAdd, reduceCtorEq, hsn, Nd.toks]
          try (simp [Nat.add_assoc] <;> omega)
        · simp only [yE, Nat.reduceEqDiff, Nat.reduceAdd, reduceCtorEq, hsn, Nd.toks, lit1]
          try simp
      · skip
        simp -implicitDefEqProofs (disch := first | (intros; rename_i h; cases h; done) | ((try simp only [List.length_append, List.length_map, List.length_cons, List.length_nil]); omega)) only [↓yP, yT, Nat.reduceAdd, Nat.reduceMul, Nat.reduceSub, Nat.reduceLeDiff, Nat.reduceEqDiff, reduceCtorEq, Nat.reduceBEq, t1, hg, xbinI_eql, xbinI_neq, xbinI_lss, xbinI_leq, xbinI_gtr, xbinI_geq, xbinI_add, xbinI_sub, ySource_row, ySource_own, ySource_nil, bnd, List.take_of_length_le, List.length_append, f1, f2, w1]
        refine Rcall_pure hks (by rfl) fun y hy => ?_
        subst hy
        simp -implicitDefEqProofs (disch := first | (intros; rename_i h; cases h; done) | ((try simp only [List.length_append, List.length_map, List.length_cons, List.length_nil]); omega)) only [↓yP, yT, Nat.reduceAdd, Nat.reduceMul, Nat.reduceSub, Nat.reduceLeDiff, Nat.reduceEqDiff, reduceCtorEq, Nat.reduceBEq, xbinI_eql, xbinI_neq, xbinI_lss, xbinI_leq, xbinI_gtr, xbinI_geq, xbinI_add, xbinI_sub, ySource_row, ySource_own, ySource_nil, bnd, List.take_of_length_le, List.length_append, f1, f2, w1]
        refine ⟨d - 1, [7], by omega, by decide, pinned_zero _, i + 1, ?_, ?_, by omega⟩
        · simp only [yE, Nat.reduceEqDiff, Nat.reduceAdd, reduceCtorEq, hsn, Nd.toks]
          try (simp [Nat.add_assoc] <;> omega)
        · simp only [yE, Nat.reduceEqDiff, Nat.reduceAdd, reduceCtorEq, hsn, Nd.toks, lit1]
          try simp
      · skip
        simp -implicitDefEqProofs (disch := first | (intros; rename_i h; cases h; done) | ((try simp only [List.length_append, List.length_map, List.length_cons, List.length_nil]); omega)) only [↓yP, yT, Nat.reduceAdd, Nat.reduceMul, Nat.reduceSub, Nat.reduceLeDiff, Nat.reduceEqDiff, reduceCtorEq, Nat.reduceBEq, t1, hg, xbinI_eql, xbinI_neq, xbinI_lss, xbinI_leq, xbinI_gtr, xbinI_geq, xbinI_add, xbinI_sub, ySource_row, ySource_own, ySource_nil, bnd, List.take_of_length_le, List.length_append, f1, f2, w1]
        refine Rcall_pure hks (by rfl) fun y hy => ?_
        subst hy
        simp -implicitDefEqProofs (disch := first | (intros; rename_i h; cases h; done) | ((try simp only [List.length_append, List.length_map, List.length_cons, List.length_nil]); omega)) only [↓yP, yT, Nat.reduceAdd, Nat.reduceMul, Nat.reduceSub, Nat.reduceLeDiff, Nat.reduceEqDiff, reduceCtorEq, Nat.reduceBEq, xbinI_eql, xbinI_neq, xbinI_lss, xbinI_leq, xbinI_gtr, xbinI_geq, xbinI_add, xbinI_sub, ySource_row, ySource_own, ySource_nil, bnd, List.take_of_length_le, List.length_append, f1, f2, w1]
        refine ⟨d - 1, [9], by omega, by decide, pinned_zero _, i + 1, ?_, ?_, by omega⟩
        · simp only [yE, Nat.reduceEqDiff, Nat.reduceAdd, reduceCtorEq, hsn, Nd.toks]
          try (simp [Nat.add_assoc] <;> omega)
        · simp only [yE, Nat.reduceEqDiff, Nat.reduceAdd, reduceCtorEq, hsn, Nd.toks, lit1]
          try simp
    · have f2 : eqI k0 1 = false := eqI_false q2
      rw [if_neg q1, if_neg q2] at hle
      cases m0 with
      | false =>
        simp -implicitDefEqProofs (disch := first | (intros; rename_i h; cases h; done) | ((try simp only [List.length_append, List.length_map, List.length_cons, List.length_nil]); omega)) only [↓yP, yT, Nat.reduceAdd, Nat.reduceMul, Nat.reduceSub, Nat.reduceLeDiff, Nat.reduceEqDiff, reduceCtorEq, Nat.reduceBEq, t1, hg, xbinI_eql, xbinI_neq, xbinI_lss, xbinI_leq, xbinI_gtr, xbinI_geq, xbinI_add, xbinI_sub, ySource_row, ySource_own, ySource_nil, bnd, List.take_of_length_le, List.length_append, f1, f2, w1]
        refine ⟨d - 1, [2], by omega, by decide, pinned_zero _, i + 1, ?_, ?_, by omega⟩
        · simp only [yE, Nat.reduceEqDiff, Nat.reduceAdd, reduceCtorEq, hsn, Nd.toks, if_neg q1, if_neg q2]
          try (simp [Nat.add_assoc] <;> omega)
        · simp only [yE, Nat.reduceEqDiff, Nat.reduceAdd, reduceCtorEq, hsn, Nd.toks, lit1, if_neg q1, if_neg q2]
          try simp
      | true =>
        simp -implicitDefEqProofs (disch := first | (intros; rename_i h; cases h; done) | ((try simp only [List.length_append, List.length_map, List.length_cons, List.length_nil]); omega)) only [↓yP, yT, Nat.reduceAdd, Nat.reduceMul, Nat.reduceSub, Nat.reduceLeDiff, Nat.reduceEqDiff, reduceCtorEq, Nat.reduceBEq, t1, hg, xbinI_eql, xbinI_neq, xbinI_lss, xbinI_leq, xbinI_gtr, xbinI_geq, xbinI_add, xbinI_sub, ySource_row, ySource_own, ySource_nil, bnd, List.take_of_length_le, List.length_append, f1, f2, w1]
        refine ⟨d - 1, [4], by omega, by decide, pinned_zero _, i + 1, ?_, ?_, by omega⟩
        · simp only [yE, Nat.reduceEqDiff, Nat.reduceAdd, reduceCtorEq, hsn, Nd.toks, if_neg q1, if_neg q2]
          try (simp [Nat.add_assoc] <;> omega)
        · simp only [yE, Nat.reduceEqDiff, Nat.reduceAdd, reduceCtorEq, hsn, Nd.toks, lit1, if_neg q1, if_neg q2]
          try simp
  · have t1 : leI (ns.length : Nat) (i : Nat) = true := leI_true (by omega)
    have : i = ns.length := by omega
    subst this
    simp -implicitDefEqProofs only [↓yP, yT, Nat.reduceAdd, Nat.reduceMul, Nat.reduceSub, Nat.reduceLeDiff, Nat.reduceEqDiff, reduceCtorEq, Nat.reduceBEq, t1, List.take_length]
end Go.Vx.Seat
end
/- The tokens of nodes, behind others: the program's. -/
section
open Go Go.Vx Go.Proofs
set_option linter.unusedSimpArgs false
set_option linter.unusedVariables false
set_option maxRecDepth 10000
set_option maxHeartbeats 8000000
namespace Go.Vx.Seat
attribute [local congr] Rg_at Rt_at Ro_at Ri_at Rc_at Rto_at Rtk_at Rtf_at Rti_at
attribute [local irreducible] Rg Rt Ro Ri Rc Rto Rtk Rtf Rti Rw Rl Rd Rcall Rtcall kf
def TokSpecP : Nd → Prop
  | .mk k h t ks o s m a l => ∀ out : List Tok, out.length + (toksOf ks).length ≤ 2000000 → YC C1 false 29 [.c (.own 0 13 0 (out.map Tok.pc).length), .c (.p (rN ks))] [.row 13 (out.map Tok.pc)] (KOwn 13 ((out ++ toksOf ks).map Tok.pc))
theorem toksP_list (ns : List Nd) (hl : ns.length ≤ 1000000) (hr : ∀ x, x ∈ ns → TokSpecP x) (out : List Tok) (hb : out.length + (toksOf ns).length ≤ 2000000) :
    YC C1 false 29 [.c (.own 0 13 0 (out.map Tok.pc).length), .c (.p (rN ns))] [.row 13 (out.map Tok.pc)] (KOwn 13 ((out ++ toksOf ns).map Tok.pc)) := by
  refine Yf0 [] (by rfl) (by rfl) fn29 (by rfl) ?_
  simp only [Try.f29, List.length_cons, List.length_nil, List.replicate, List.cons_append, List.nil_append]
  simp -implicitDefEqProofs only [↓yP, yT, Nat.reduceAdd, Nat.reduceMul, Nat.reduceSub, Nat.reduceLeDiff, Nat.reduceEqDiff, reduceCtorEq, Nat.reduceBEq]
  refine Rl_alias 0 0 rfl rfl ?_
  refine Rl_inv (fun d e s => ∃ i : Nat, e = [.c (.own 1 13 0 (out ++ toksOf (ns.take i)).length), .c .top, .c .top, .c .top, .c .top, .c .top, .c .top, .c (.p (rN ns)), yd (.int .i64 ns.length), yd (.int .i64 i), .c .top, .c .top, .c .top, .c .top, .c .top, .c .top, .c .top, .c .top, .c .top, .c .top, .c .top, .c .top, .c .top, .c .top, .c .top, .c .top, .c .top, .c .top, .c .top, .c .top, .c .top, .c .top, .c .top, .c .top, .c .top, .c .top, .c .top, .c .top, .c .top, .c .top, .c .top, .c .top, .c .top, .c .top, .c .top, .c .top, .c .top, .c .top, .c .top, .c .top, .c .top, .c .top, .c .top, .c .top, .c .top, .c .top, .c .top, .c .top, .c .top, .c .top, .c .top, .c .top, .c .top, .c .top, .c .top, .c .top, .c .top, .c .top, .c .top, .c .top, .c .top, .c .top, .c .top] ∧ s = [.dead, .row 13 ((out ++ toksOf (ns.take i)).map Tok.pc)] ∧ i + d = ns.length) [true, false, false, false, false, false, false, true, true, true] ns.length [0, 1] (by decide) (pinned_one _) ⟨0, by simp [toksOf]; rfl, by simp [toksOf]; rfl, by omega⟩ ?_
  rintro d e s ⟨i, rfl, rfl, hd⟩
  by_cases hi : i < ns.length
  · obtain ⟨x, hx⟩ := get_lt hi
    have hxr := hr x (List.mem_of_getElem? hx)
    have hle := toksOf_le hx
    have hsn : out ++ toksOf (ns.take (i + 1)) = (out ++ toksOf (ns.take i)) ++ x.toks := by rw [toksOf_take hx, List.append_assoc]
    have hle : (out ++ toksOf (ns.take i)).length + x.toks.length ≤ 2000000 := by rw [List.length_append]; omega
    obtain ⟨k0, h0, t0, ks0, o0, s0, m0, a0, l0⟩ := x
    simp only [TokSpecP] at hxr
    have t1 : leI (ns.length : Nat) (i : Nat) = false := leI_false (by omega)
    have w1 : wrapK .i64 ((i : Int) + 1) = ((i + 1 : Nat) : Int) := wrap_succ (by omega)
    have hg := get_map (f := Nd.pc) hx
    rw [pc_mk] at hg
    generalize hac : out ++ toksOf (ns.take i) = acc at hle hsn ⊢
    have hsl : out.length + (toksOf (ns.take (i + 1))).length = (acc ++ (Nd.mk k0 h0 t0 ks0 o0 s0 m0 a0 l0).toks).length := by rw [← List.length_append, hsn]
    have hsm : out.map Tok.pc ++ (toksOf (ns.take (i + 1))).map Tok.pc = (acc ++ (Nd.mk k0 h0 t0 ks0 o0 s0 m0 a0 l0).toks).map Tok.pc := by rw [← List.map_append, hsn]
    simp only [Nd.toks, List.length_append] at hle
    by_cases q1 : k0 = 2
    · have f1 : eqI k0 2 = true := by rw [q1]; rfl
      have f2 : eqI k0 1 = false := by rw [q1]; rfl
      subst q1
      simp only [if_true, List.length_cons] at hle
      cases m0 with
      | false =>
        simp -implicitDefEqProofs (disch := first | (intros; rename_i h; cases h; done) | ((try simp only [List.length_append, List.length_map, List.length_cons, List.length_nil]); omega)) only [↓yP, yT, Nat.reduceAdd, Nat.reduceMul, Nat.reduceSub, Nat.reduceLeDiff, Nat.reduceEqDiff, reduceCtorEq, Nat.reduceBEq, t1, hg, xbinI_eql, xbinI_neq, xbinI_lss, xbinI_leq, xbinI_gtr, xbinI_geq, xbinI_add, xbinI_sub, ySource_row, ySource_own, ySource_nil, bnd, List.take_of_length_le, List.length_append, f1, f2, w1]
        refine ⟨d - 1, [0, 6], by omega, by decide, pinned_one _, i + 1, ?_, ?_, by omega⟩
        · rw [hsl]
          simp only [yE, Nat.reduceEqDiff, Nat.reduceAdd, reduceCtorEq, Nd.toks]
          try (simp [Nat.add_assoc] <;> omega)
        · rw [hsn]
          simp only [yE, Nat.reduceEqDiff, Nat.reduceAdd, reduceCtorEq, Nd.toks, lit1]
          try simp
      | true =>
        simp -implicitDefEqProofs (disch := first | (intros; rename_i h; cases h; done) | ((try simp only [List.length_append, List.length_map, List.length_cons, List.length_nil]); omega)) only [↓yP, yT, Nat.reduceAdd, Nat.reduceMul, Nat.reduceSub, Nat.reduceLeDiff, Nat.reduceEqDiff, reduceCtorEq, Nat.reduceBEq, t1, hg, xbinI_eql, xbinI_neq, xbinI_lss, xbinI_leq, xbinI_gtr, xbinI_geq, xbinI_add, xbinI_sub, ySource_row, ySource_own, ySource_nil, bnd, List.take_of_length_le, List.length_append, f1, f2, w1]
        refine ⟨d - 1, [0, 8], by omega, by decide, pinned_one _, i + 1, ?_, ?_, by omega⟩
        · rw [hsl]
          simp only [yE, Nat.reduceEqDiff, Nat.reduceAdd, reduceCtorEq, Nd.toks]
          try (simp [Nat.add_assoc] <;> omega)
        · rw [hsn]
          simp only [yE, Nat.reduceEqDiff, Nat.reduceAdd, reduceCtorEq, Nd.toks, lit1]
          try simp
    have f1 : eqI k0 2 = false := eqI_false q1
    by_cases q2 : k0 = 1
    · have f2 : eqI k0 1 = true := by rw [q2]; rfl
      subst q2
      simp only [if_true, List.length_append] at hle
      rcases o0 with _ | _ <;> rcases s0 with _ | _ <;> rcases m0 with _ | _
      · simp -implicitDefEqProofs (disch := first | (intros; rename_i h; cases h; done) | ((try simp only [List.length_append, List.length_map, List.length_cons, List.length_nil]); omega)) only [↓yP, yT, Nat.reduceAdd, Nat.reduceMul, Nat.reduceSub, Nat.reduceLeDiff, Nat.reduceEqDiff, reduceCtorEq, Nat.reduceBEq, t1, hg, xbinI_eql, xbinI_neq, xbinI_lss, xbinI_leq, xbinI_gtr, xbinI_geq, xbinI_add, xbinI_sub, ySource_row, ySource_own, ySource_nil, bnd, List.take_of_length_le, List.length_append, f1, f2, w1]
        have hks := hxr (acc ++ h0) (by simp at hle ⊢; omega)
        refine Rcall_own' (els := (acc ++ h0).map Tok.pc) (n' := (acc ++ h0 ++ toksOf ks0).length) (by simp) (by simp) (by rfl) (by first | (simp [lit1]; done) | (simp [lit1]; omega)) hks ?_
        simp -implicitDefEqProofs (disch := first | (intros; rename_i h; cases h; done) | ((try simp only [List.length_append, List.length_map, List.length_cons, List.length_nil]); omega)) only [↓yP, yT, Nat.reduceAdd, Nat.reduceMul, Nat.reduceSub, Nat.reduceLeDiff, Nat.reduceEqDiff, reduceCtorEq, Nat.reduceBEq, List.map_append, xbinI_eql, xbinI_neq, xbinI_lss, xbinI_leq, xbinI_gtr, xbinI_geq, xbinI_add, xbinI_sub, ySource_row, ySource_own, ySource_nil, bnd, List.take_of_length_le, List.length_append, f1, f2, w1]
        refine ⟨d - 1, [0, 4], by omega, by decide, pinned_one _, i + 1, ?_, ?_, by omega⟩
        · rw [hsl]
          simp only [yE, Nat.reduceEqDiff, Nat.reduceAdd, reduceCtorEq, Nd.toks]
          try (simp [Nat.add_assoc] <;> omega)
        · rw [hsm]
          simp only [yE, Nat.reduceEqDiff, Nat.reduceAdd, reduceCtorEq, Nd.toks, lit1]
          try simp
      · simp -implicitDefEqProofs (disch := first | (intros; rename_i h; cases h; done) | ((try simp only [List.length_append, List.length_map, List.length_cons, List.length_nil]); omega)) only [↓yP, yT, Nat.reduceAdd, Nat.reduceMul, Nat.reduceSub, Nat.reduceLeDiff, Nat.reduceEqDiff, reduceCtorEq, Nat.reduceBEq, t1, hg, xbinI_eql, xbinI_neq, xbinI_lss, xbinI_leq, xbinI_gtr, xbinI_geq, xbinI_add, xbinI_sub, ySource_row, ySource_own, ySource_nil, bnd, List.take_of_length_le, List.length_append, f1, f2, w1]
        have hks := hxr (acc ++ h0) (by simp at hle ⊢; omega)
        refine Rcall_own' (els := (acc ++ h0).map Tok.pc) (n' := (acc ++ h0 ++ toksOf ks0).length) (by simp) (by simp) (by rfl) (by first | (simp [lit1]; done) | (simp [lit1]; omega)) hks ?_
        simp -implicitDefEqProofs (disch := first | (intros; rename_i h; cases h; done) | ((try simp only [List.length_append, List.length_map, List.length_cons, List.length_nil]); omega)) only [↓yP, yT, Nat.reduceAdd, Nat.reduceMul, Nat.reduceSub, Nat.reduceLeDiff, Nat.reduceEqDiff, reduceCtorEq, Nat.reduceBEq, List.map_append, xbinI_eql, xbinI_neq, xbinI_lss, xbinI_leq, xbinI_gtr, xbinI_geq, xbinI_add, xbinI_sub, ySource_row, ySource_own, ySource_nil, bnd, List.take_of_length_le, List.length_append, f1, f2, w1]
        refine ⟨d - 1, [0, 6], by omega, by decide, pinned_one _, i + 1, ?_, ?_, by omega⟩
        · rw [hsl]
          simp only [yE, Nat.reduceEqDiff, Nat.reduceAdd, reduceCtorEq, Nd.toks]
          try (simp [Nat.add_assoc] <;> omega)
        · rw [hsm]
          simp only [yE, Nat.reduceEqDiff, Nat.reduceAdd, reduceCtorEq, Nd.toks, lit1]
          try simp
      · simp -implicitDefEqProofs (disch := first | (intros; rename_i h; cases h; done) | ((try simp only [List.length_append, List.length_map, List.length_cons, List.length_nil]); omega)) only [↓yP, yT, Nat.reduceAdd, Nat.reduceMul, Nat.reduceSub, Nat.reduceLeDiff, Nat.reduceEqDiff, reduceCtorEq, Nat.reduceBEq, t1, hg, xbinI_eql, xbinI_neq, xbinI_lss, xbinI_leq, xbinI_gtr, xbinI_geq, xbinI_add, xbinI_sub, ySource_row, ySource_own, ySource_nil, bnd, List.take_of_length_le, List.length_append, f1, f2, w1]
        have hks := hxr (acc ++ h0) (by simp at hle ⊢; omega)
        refine Rcall_own' (els := (acc ++ h0).map Tok.pc) (n' := (acc ++ h0 ++ toksOf ks0).length) (by simp) (by simp) (by rfl) (by first | (simp [lit1]; done) | (simp [lit1]; omega)) hks ?_
        simp -implicitDefEqProofs (disch := first | (intros; rename_i h; cases h; done) | ((try simp only [List.length_append, List.length_map, List.length_cons, List.length_nil]); omega)) only [↓yP, yT, Nat.reduceAdd, Nat.reduceMul, Nat.reduceSub, Nat.reduceLeDiff, Nat.reduceEqDiff, reduceCtorEq, Nat.reduceBEq, List.map_append, xbinI_eql, xbinI_neq, xbinI_lss, xbinI_leq, xbinI_gtr, xbinI_geq, xbinI_add, xbinI_sub, ySource_row, ySource_own, ySource_nil, bnd, List.take_of_length_le, List.length_append, f1, f2, w1]
        refine ⟨d - 1, [0, 6], by omega, by decide, pinned_one _, i + 1, ?_, ?_, by omega⟩
        · rw [hsl]
          simp only [yE, Nat.reduceEqDiff, Nat.reduceAdd, reduceCtorEq, Nd.toks]
          try (simp [Nat.add_assoc] <;> omega)
        · rw [hsm]
          simp only [yE, Nat.reduceEqDiff, Nat.reduceAdd, reduceCtorEq, Nd.toks, lit1]
          try simp
      · simp -implicitDefEqProofs (disch := first | (intros; rename_i h; cases h; done) | ((try simp only [List.length_append, List.length_map, List.length_cons, List.length_nil]); omega)) only [↓yP, yT, Nat.reduceAdd, Nat.reduceMul, Nat.reduceSub, Nat.reduceLeDiff, Nat.reduceEqDiff, reduceCtorEq, Nat.reduceBEq, t1, hg, xbinI_eql, xbinI_neq, xbinI_lss, xbinI_leq, xbinI_gtr, xbinI_geq, xbinI_add, xbinI_sub, ySource_row, ySource_own, ySource_nil, bnd, List.take_of_length_le, List.length_append, f1, f2, w1]
        have hks := hxr (acc ++ h0) (by simp at hle ⊢; omega)
        refine Rcall_own' (els := (acc ++ h0).map Tok.pc) (n' := (acc ++ h0 ++ toksOf ks0).length) (by simp) (by simp) (by rfl) (by first | (simp [lit1]; done) | (simp [lit1]; omega)) hks ?_
        simp -implicitDefEqProofs (disch := first | (intros; rename_i h; cases h; done) | ((try simp only [List.length_append, List.length_map, List.length_cons, List.length_nil]); omega)) only [↓yP, yT, Nat.reduceAdd, Nat.reduceMul, Nat.reduceSub, Nat.reduceLeDiff, Nat.reduceEqDiff, reduceCtorEq, Nat.reduceBEq, List.map_append, xbinI_eql, xbinI_neq, xbinI_lss, xbinI_leq, xbinI_gtr, xbinI_geq, xbinI_add, xbinI_sub, ySource_row, ySource_own, ySource_nil, bnd, List.take_of_length_le, List.length_append, f1, f2, w1]
        refine ⟨d - 1, [0, 8], by omega, by decide, pinned_one _, i + 1, ?_, ?_, by omega⟩
        · rw [hsl]
          simp only [yE, Nat.reduceEqDiff, Nat.reduceAdd, reduceCtorEq, Nd.toks]
          try (simp [Nat.add_assoc] <;> omega)
        · rw [hsm]
          simp only [yE, Nat.reduceEqDiff, Nat.reduceAdd, reduceCtorEq, Nd.toks, lit1]
          try simp
      · simp -implicitDefEqProofs (disch := first | (intros; rename_i h; cases h; done) | ((try simp only [List.length_append, List.length_map, List.length_cons, List.length_nil]); omega)) only [↓yP, yT, Nat.reduceAdd, Nat.reduceMul, Nat.reduceSub, Nat.reduceLeDiff, Nat.reduceEqDiff, reduceCtorEq, Nat.reduceBEq, t1, hg, xbinI_eql, xbinI_neq, xbinI_lss, xbinI_leq, xbinI_gtr, xbinI_geq, xbinI_add, xbinI_sub, ySource_row, ySource_own, ySource_nil, bnd, List.take_of_length_le, List.length_append, f1, f2, w1]
        have hks := hxr (acc ++ h0 ++ [mkTok 19 a0]) (by simp at hle ⊢; omega)
        refine Rcall_own' (els := (acc ++ h0 ++ [mkTok 19 a0]).map Tok.pc) (n' := (acc ++ h0 ++ [mkTok 19 a0] ++ toksOf ks0).length) (by first | (simp; done) | (simp; omega)) (by first | (simp; done) | (simp; omega)) (by rfl) (by first | (simp [lit1]; done) | (simp [lit1]; omega)) hks ?_
        simp -implicitDefEqProofs (disch := first | (intros; rename_i h; cases h; done) | ((try simp only [List.length_append, List.length_map, List.length_cons, List.length_nil]); omega)) only [↓yP, yT, Nat.reduceAdd, Nat.reduceMul, Nat.reduceSub, Nat.reduceLeDiff, Nat.reduceEqDiff, reduceCtorEq, Nat.reduceBEq, List.map_append, xbinI_eql, xbinI_neq, xbinI_lss, xbinI_leq, xbinI_gtr, xbinI_geq, xbinI_add, xbinI_sub, ySource_row, ySource_own, ySource_nil, bnd, List.take_of_length_le, List.length_append, f1, f2, w1]
        refine ⟨d - 1, [0, 6], by omega, by decide, pinned_one _, i + 1, ?_, ?_, by omega⟩
        · rw [hsl]
          simp only [yE, Nat.reduceEqDiff, Nat.reduceAdd, reduceCtorEq, Nd.toks]
          try (simp [Nat.add_assoc] <;> omega)
        · rw [hsm]
          simp only [yE, Nat.reduceEqDiff, Nat.reduceAdd, reduceCtorEq, Nd.toks, lit1]
          try simp
      · simp -implicitDefEqProofs (disch := first | (intros; rename_i h; cases h; done) | ((try simp only [List.length_append, List.length_map, List.length_cons, List.length_nil]); omega)) only [↓yP, yT, Nat.reduceAdd, Nat.reduceMul, Nat.reduceSub, Nat.reduceLeDiff, Nat.reduceEqDiff, reduceCtorEq, Nat.reduceBEq, t1, hg, xbinI_eql, xbinI_neq, xbinI_lss, xbinI_leq, xbinI_gtr, xbinI_geq, xbinI_add, xbinI_sub, ySource_row, ySource_own, ySource_nil, bnd, List.take_of_length_le, List.length_append, f1, f2, w1]
        have hks := hxr (acc ++ h0 ++ [mkTok 19 a0]) (by simp at hle ⊢; omega)
        refine Rcall_own' (els := (acc ++ h0 ++ [mkTok 19 a0]).map Tok.pc) (n' := (acc ++ h0 ++ [mkTok 19 a0] ++ toksOf ks0).length) (by first | (simp; done) | (simp; omega)) (by first | (simp; done) | (simp; omega)) (by rfl) (by first | (simp [lit1]; done) | (simp [lit1]; omega)) hks ?_
        simp -implicitDefEqProofs (disch := first | (intros; rename_i h; cases h; done) | ((try simp only [List.length_append, List.length_map, List.length_cons, List.length_nil]); omega)) only [↓yP, yT, Nat.reduceAdd, Nat.reduceMul, Nat.reduceSub, Nat.reduceLeDiff, Nat.reduceEqDiff, reduceCtorEq, Nat.reduceBEq, List.map_append, xbinI_eql, xbinI_neq, xbinI_lss, xbinI_leq, xbinI_gtr, xbinI_geq, xbinI_add, xbinI_sub, ySource_row, ySource_own, ySource_nil, bnd, List.take_of_length_le, List.length_append, f1, f2, w1]
        refine ⟨d - 1, [0, 8], by omega, by decide, pinned_one _, i + 1, ?_, ?_, by omega⟩
        · rw [hsl]
          simp only [yE, Nat.reduceEqDiff, Nat.reduceAdd, reduceCtorEq, Nd.toks]
          try (simp [Nat.add_assoc] <;> omega)
        · rw [hsm]
          simp only [yE, Nat.reduceEqDiff, Nat.reduceAdd, reduceCtorEq, Nd.toks, lit1]
          try simp
      · simp -implicitDefEqProofs (disch := first | (intros; rename_i h; cases h; done) | ((try simp only [List.length_append, List.length_map, List.length_cons, List.length_nil]); omega)) only [↓yP, yT, Nat.reduceAdd, Nat.reduceMul, Nat.reduceSub, Nat.reduceLeDiff, Nat.reduceEqDiff, reduceCtorEq, Nat.reduceBEq, t1, hg, xbinI_eql, xbinI_neq, xbinI_lss, xbinI_leq, xbinI_gtr, xbinI_geq, xbinI_add, xbinI_sub, ySource_row, ySource_own, ySource_nil, bnd, List.take_of_length_le, List.length_append, f1, f2, w1]
        have hks := hxr (acc ++ h0 ++ [mkTok 19 a0]) (by simp at hle ⊢; omega)
        refine Rcall_own' (els := (acc ++ h0 ++ [mkTok 19 a0]).map Tok.pc) (n' := (acc ++ h0 ++ [mkTok 19 a0] ++ toksOf ks0).length) (by first | (simp; done) | (simp; omega)) (by first | (simp; done) | (simp; omega)) (by rfl) (by first | (simp [lit1]; done) | (simp [lit1]; omega)) hks ?_
        simp -implicitDefEqProofs (disch := first | (intros; rename_i h; cases h; done) | ((try simp only [List.length_append, List.length_map, List.length_cons, List.length_nil]); omega)) only [↓yP, yT, Nat.reduceAdd, Nat.reduceMul, Nat.reduceSub, Nat.reduceLeDiff, Nat.reduceEqDiff, reduceCtorEq, Nat.reduceBEq, List.map_append, xbinI_eql, xbinI_neq, xbinI_lss, xbinI_leq, xbinI_gtr, xbinI_geq, xbinI_add, xbinI_sub, ySource_row, ySource_own, ySource_nil, bnd, List.take_of_length_le, List.length_append, f1, f2, w1]
        refine ⟨d - 1, [0, 8], by omega, by decide, pinned_one _, i + 1, ?_, ?_, by omega⟩
        · rw [hsl]
          simp only [yE, Nat.reduceEqDiff, Nat.reduceAdd, reduceCtorEq, Nd.toks]
          try (simp [Nat.add_assoc] <;> omega)
        · rw [hsm]
          simp only [yE, Nat.reduceEqDiff, Nat.reduceAdd, reduceCtorEq, Nd.toks, lit1]
          try simp
      · simp -implicitDefEqProofs (disch := first | (intros; rename_i h; cases h; done) | ((try simp only [List.length_append, List.length_map, List.length_cons, List.length_nil]); omega)) only [↓yP, yT, Nat.reduceAdd, Nat.reduceMul, Nat.reduceSub, Nat.reduceLeDiff, Nat.reduceEqDiff, reduceCtorEq, Nat.reduceBEq, t1, hg, xbinI_eql, xbinI_neq, xbinI_lss, xbinI_leq, xbinI_gtr, xbinI_geq, xbinI_add, xbinI_sub, ySource_row, ySource_own, ySource_nil, bnd, List.take_of_length_le, List.length_append, f1, f2, w1]
        have hks := hxr (acc ++ h0 ++ [mkTok 19 a0]) (by simp at hle ⊢; omega)
        refine Rcall_own' (els := (acc ++ h0 ++ [mkTok 19 a0]).map Tok.pc) (n' := (acc ++ h0 ++ [mkTok 19 a0] ++ toksOf ks0).length) (by first | (simp; done) | (simp; omega)) (by first | (simp; done) | (simp; omega)) (by rfl) (by first | (simp [lit1]; done) | (simp [lit1]; omega)) hks ?_
        simp -implicitDefEqProofs (disch := first | (intros; rename_i h; cases h; done) | ((try simp only [List.length_append, List.length_map, List.length_cons, List.length_nil]); omega)) only [↓yP, yT, Nat.reduceAdd, Nat.reduceMul, Nat.reduceSub, Nat.reduceLeDiff, Nat.reduceEqDiff, reduceCtorEq, Nat.reduceBEq, List.map_append, xbinI_eql, xbinI_neq, xbinI_lss, xbinI_leq, xbinI_gtr, xbinI_geq, xbinI_add, xbinI_sub, ySource_row, ySource_own, ySource_nil, bnd, List.take_of_length_le, List.length_append, f1, f2, w1]
        refine ⟨d - 1, [0, 10], by omega, by decide, pinned_one _, i + 1, ?_, ?_, by omega⟩
        · rw [hsl]
          simp only [yE, Nat.reduceEqDiff, Nat.reduceAdd, reduceCtorEq, Nd.toks]
          try (simp [Nat.add_assoc] <;> omega)
        · rw [hsm]
          simp only [yE, Nat.reduceEqDiff, Nat.reduceAdd, reduceCtorEq, Nd.toks, lit1]
          try simp
    · have f2 : eqI k0 1 = false := eqI_false q2
      rw [if_neg q1, if_neg q2] at hle
      cases m0 with
      | false =>
        simp -implicitDefEqProofs (disch := first | (intros; rename_i h; cases h; done) | ((try simp only [List.length_append, List.length_map, List.length_cons, List.length_nil]); omega)) only [↓yP, yT, Nat.reduceAdd, Nat.reduceMul, Nat.reduceSub, Nat.reduceLeDiff, Nat.reduceEqDiff, reduceCtorEq, Nat.reduceBEq, t1, hg, xbinI_eql, xbinI_neq, xbinI_lss, xbinI_leq, xbinI_gtr, xbinI_geq, xbinI_add, xbinI_sub, ySource_row, ySource_own, ySource_nil, bnd, List.take_of_length_le, List.length_append, f1, f2, w1]
        refine ⟨d - 1, [0, 3], by omega, by decide, pinned_one _, i + 1, ?_, ?_, by omega⟩
        · rw [hsl]
          simp only [yE, Nat.reduceEqDiff, Nat.reduceAdd, reduceCtorEq, Nd.toks, if_neg q1, if_neg q2]
          try (simp [Nat.add_assoc] <;> omega)
        · rw [hsn]
          simp only [yE, Nat.reduceEqDiff, Nat.reduceAdd, reduceCtorEq, Nd.toks, lit1, if_neg q1, if_neg q2]
          try simp
      | true =>
        simp -implicitDefEqProofs (disch := first | (intros; rename_i h; cases h; done) | ((try simp only [List.length_append, List.length_map, List.length_cons, List.length_nil]); omega)) only [↓yP, yT, Nat.reduceAdd, Nat.reduceMul, Nat.reduceSub, Nat.reduceLeDiff, Nat.reduceEqDiff, reduceCtorEq, Nat.reduceBEq, t1, hg, xbinI_eql, xbinI_neq, xbinI_lss, xbinI_leq, xbinI_gtr, xbinI_geq, xbinI_add, xbinI_sub, ySource_row, ySource_own, ySource_nil, bnd, List.take_of_length_le, List.length_append, f1, f2, w1]
        refine ⟨d - 1, [0, 5], by omega, by decide, pinned_one _, i + 1, ?_, ?_, by omega⟩
        · rw [hsl]
          simp only [yE, Nat.reduceEqDiff, Nat.reduceAdd, reduceCtorEq, Nd.toks, if_neg q1, if_neg q2]
          try (simp [Nat.add_assoc] <;> omega)
        · rw [hsn]
          simp only [yE, Nat.reduceEqDiff, Nat.reduceAdd, reduceCtorEq, Nd.toks, lit1, if_neg q1, if_neg q2]
          try simp
  · have t1 : leI (ns.length : Nat) (i : Nat) = true := leI_true (by omega)
    have : i = ns.length := by omega
    subst this
    simp -implicitDefEqProofs only [↓yP, yT, Nat.reduceAdd, Nat.reduceMul, Nat.reduceSub, Nat.reduceLeDiff, Nat.reduceEqDiff, reduceCtorEq, Nat.reduceBEq, t1, List.take_length]
    refine ⟨[0, 1], by decide, pinned_one _, .inr ⟨?_, ?_⟩⟩
    · rw [List.length_map]; rfl
    · simp only [yE, Nat.reduceEqDiff, Nat.reduceAdd, reduceCtorEq]
end Go.Vx.Seat
end
/- Few: tokens and nodes that are not too many. -/
section
open Go Go.Vx Go.Proofs
set_option linter.unusedSimpArgs false
set_option linter.unusedVariables false
set_option maxRecDepth 10000
set_option maxHeartbeats 8000000
namespace Go.Vx.Seat
attribute [local congr] Rg_at Rt_at Ro_at Ri_at Rc_at Rto_at Rtk_at Rtf_at Rti_at
attribute [local irreducible] Rg Rt Ro Ri Rc Rto Rtk Rtf Rti Rw Rl Rd Rcall Rtcall kf
theorem fn23 : nth C1.P.funcs.toList 23 = some Try.f23 := by kernel_rfl
theorem fn9 : nth C1.P.funcs.toList 9 = some Try.f9 := by kernel_rfl
theorem fn24 : nth C1.P.funcs.toList 24 = some Try.f24 := by kernel_rfl
theorem fn10 : nth C1.P.funcs.toList 10 = some Try.f10 := by kernel_rfl
def maxL : Nat := 70368744177664
theorem wrap_suc {i : Nat} (h : i < 9223372036854775807) : wrapK .i64 (((i : Nat) : Int) + 1) = ((i + 1 : Nat) : Int) := by rw [wrapK_eq, IntKind.wrap_i64]; omega
theorem len_le {n k : Nat} : leI ((n : Nat) : Int) ((k : Nat) : Int) = decide (n ≤ k) := by rw [leI_eq]; congr 1; simp
theorem few16_spec (t : Tok) : PCall C1 23 [t.yv] fun y => ∃ b : Bool, y = yd (.bool b) ∧ (b = true → (strOf t.text).length ≤ 200 ∧ (strOf t.unit).length ≤ 100) := by
  refine Pf (by rfl) (by rfl) fn23 (by rfl) ?_
  simp only [Try.f23, List.length_cons, List.length_nil, List.replicate, List.cons_append, List.nil_append]
  simp only [Tok.yv, Tok.cs, Tok.pc, List.map_cons, List.map_nil]
  by_cases h1 : (strOf t.text).length ≤ 200
  · have f1 : leI ((strOf t.text).length : Nat) 200 = true := leI_true (by omega)
    by_cases h2 : (strOf t.unit).length ≤ 100
    · have f2 : leI ((strOf t.unit).length : Nat) 100 = true := leI_true (by omega)
      by_cases h3 : (strOf t.digits).length ≤ 100
      · have f3 : leI ((strOf t.digits).length : Nat) 100 = true := leI_true (by omega)
        simp -implicitDefEqProofs only [↓yP, yT, Nat.reduceAdd, Nat.reduceMul, Nat.reduceSub, Nat.reduceLeDiff, Nat.reduceEqDiff, reduceCtorEq, Nat.reduceBEq, opLen.eq_1, f1, f2, f3]
        exact ⟨_, rfl, fun _ => ⟨h1, h2⟩⟩
      · have f3 : leI ((strOf t.digits).length : Nat) 100 = false := leI_false (by omega)
        simp -implicitDefEqProofs only [↓yP, yT, Nat.reduceAdd, Nat.reduceMul, Nat.reduceSub, Nat.reduceLeDiff, Nat.reduceEqDiff, reduceCtorEq, Nat.reduceBEq, opLen.eq_1, f1, f2, f3]
        exact ⟨false, rfl, fun h => by cases h⟩
    · have f2 : leI ((strOf t.unit).length : Nat) 100 = false := leI_false (by omega)
      simp -implicitDefEqProofs only [↓yP, yT, Nat.reduceAdd, Nat.reduceMul, Nat.reduceSub, Nat.reduceLeDiff, Nat.reduceEqDiff, reduceCtorEq, Nat.reduceBEq, opLen.eq_1, f1, f2]
      exact ⟨false, rfl, fun h => by cases h⟩
  · have f1 : leI ((strOf t.text).length : Nat) 200 = false := leI_false (by omega)
    simp -implicitDefEqProofs only [↓yP, yT, Nat.reduceAdd, Nat.reduceMul, Nat.reduceSub, Nat.reduceLeDiff, Nat.reduceEqDiff, reduceCtorEq, Nat.reduceBEq, opLen.eq_1, f1]
    exact ⟨false, rfl, fun h => by cases h⟩
theorem few_spec (ts : List Tok) (hl : ts.length ≤ maxL) : PCall C1 9 [.c (.p (rT ts))] fun y => ∃ b : Bool, y = yd (.bool b) ∧ (b = true → ts.length ≤ 600) := by
  unfold maxL at hl
  refine Pf (by rfl) (by rfl) fn9 (by rfl) ?_
  simp only [Try.f9, List.length_cons, List.length_nil, List.replicate, List.cons_append, List.nil_append]
  simp -implicitDefEqProofs only [↓yP, yT, Nat.reduceAdd, Nat.reduceMul, Nat.reduceSub, Nat.reduceLeDiff, Nat.reduceEqDiff, reduceCtorEq, Nat.reduceBEq]
  refine Rl_inv (fun d e s => ∃ i n : Nat, e = [.c (.p (rT ts)), .c .top, .c .top, yd (.int .i64 n), yd (.int .i64 i), .c .top, .c .top, .c .top, .c .top, .c .top, .c .top, .c .top, .c .top, .c .top, .c .top, .c .top, .c .top, .c .top, .c .top, .c .top, .c .top, .c .top, .c .top, .c .top, .c .top, .c .top, .c .top, .c .top, .c .top, .c .top, .c .top, .c .top, .c .top, .c .top, .c .top] ∧ s = [] ∧ i + d = ts.length ∧ i ≤ n ∧ n ≤ 400 * i) [true, false, false, true, true] ts.length [] (by decide) (pinned_zero _) ⟨0, 0, by simp only [yE, Nat.reduceEqDiff, Nat.reduceAdd, reduceCtorEq]; rfl, rfl, by omega, by omega, by omega⟩ ?_
  rintro d e s ⟨i, n, rfl, rfl, hd, hn1, hn2⟩
  by_cases hi : i < ts.length
  · obtain ⟨t, ht⟩ := get_lt hi
    have t1 : leI (ts.length : Nat) (i : Nat) = false := leI_false (by omega)
    have w1 : wrapK .i64 ((i : Int) + 1) = ((i + 1 : Nat) : Int) := wrap_suc (by omega)
    simp -implicitDefEqProofs only [↓yP, yT, Nat.reduceAdd, Nat.reduceMul, Nat.reduceSub, Nat.reduceLeDiff, Nat.reduceEqDiff, reduceCtorEq, Nat.reduceBEq, t1, get_map ht, Tok.pc]
    refine Rcall_pure (few16_spec t) (by rfl) fun y hy => ?_
    obtain ⟨b, rfl, hb⟩ := hy
    cases b with
    | false =>
      simp -implicitDefEqProofs only [↓yP, yT, Nat.reduceAdd, Nat.reduceMul, Nat.reduceSub, Nat.reduceLeDiff, Nat.reduceEqDiff, reduceCtorEq, Nat.reduceBEq]
      exact ⟨false, rfl, fun h => by cases h⟩
    | true =>
      obtain ⟨hb1, hb2⟩ := hb rfl
      have w2 : wrapK .i64 ((n : Int) + 1) = ((n + 1 : Nat) : Int) := wrap_suc (by omega)
      have w3 : wrapK .i64 (((n + 1 : Nat) : Int) + ((strOf t.text).length : Nat)) = ((n + 1 + (strOf t.text).length : Nat) : Int) := by
        rw [show ((n + 1 : Nat) : Int) + ((strOf t.text).length : Nat) = ((n + 1 + (strOf t.text).length : Nat) : Int) by omega]; exact wrap_nat (by omega)
      have w4 : wrapK .i64 (((n + 1 + (strOf t.text).length : Nat) : Int) + ((strOf t.unit).length : Nat)) = ((n + 1 + (strOf t.text).length + (strOf t.unit).length : Nat) : Int) := by
        rw [show ((n + 1 + (strOf t.text).length : Nat) : Int) + ((strOf t.unit).length : Nat) = ((n + 1 + (strOf t.text).length + (strOf t.unit).length : Nat) : Int) by omega]; exact wrap_nat (by omega)
      simp -implicitDefEqProofs only [↓yP, yT, Nat.reduceAdd, Nat.reduceMul, Nat.reduceSub, Nat.reduceLeDiff, Nat.reduceEqDiff, reduceCtorEq, Nat.reduceBEq]
      refine Rd_calm (by rw [C1_P]; kernel_rfl) ?_
      simp -implicitDefEqProofs only [↓yP, yT, Nat.reduceAdd, Nat.reduceMul, Nat.reduceSub, Nat.reduceLeDiff, Nat.reduceEqDiff, reduceCtorEq, Nat.reduceBEq, get_map ht, Tok.pc, opLen.eq_1, w1, w2, w3, w4]
      refine ⟨d - 1, [], by omega, by decide, pinned_zero _, i + 1, n + 1 + (strOf t.text).length + (strOf t.unit).length, ?_, rfl, by omega, by omega, by omega⟩
      simp only [yE, Nat.reduceEqDiff, Nat.reduceAdd, reduceCtorEq]
  · have t1 : leI (ts.length : Nat) (i : Nat) = true := leI_true (by omega)
    simp -implicitDefEqProofs only [↓yP, yT, Nat.reduceAdd, Nat.reduceMul, Nat.reduceSub, Nat.reduceLeDiff, Nat.reduceEqDiff, reduceCtorEq, Nat.reduceBEq, t1]
    refine ⟨_, rfl, fun h => ?_⟩
    rw [leI_eq] at h
    simp at h
    omega
/-- How much nodes weigh. -/
inductive NdMax : Nd → Prop where
  | mk {k : Int} {h t : List Tok} {ks : List Nd} {o s m : Bool} {a l : Int} : h.length ≤ maxL → t.length ≤ maxL → ks.length ≤ maxL → (∀ x, x ∈ ks → NdMax x) → NdMax (.mk k h t ks o s m a l)
/-- Nodes that weigh no more than so much. -/
inductive Wt : List Nd → Nat → Prop where
  | nil : Wt [] 0
  | snoc {ns : List Nd} {n w : Nat} {k : Int} {h t : List Tok} {ks : List Nd} {o s m : Bool} {a l : Int} : Wt ns n → Wt ks w → Wt (ns ++ [.mk k h t ks o s m a l]) (n + 1 + h.length + t.length + w)
def SizeSpec : Nd → Prop
  | .mk k h t ks o s m a l => h.length ≤ maxL ∧ t.length ≤ maxL ∧ ∀ d : Nat, d ≤ 101 → PCall C1 24 [.c (.p (rN ks)), yd (.int .i64 d)] fun y => ∃ v : Nat, y = yd (.int .i64 v) ∧ v ≤ 3000 * (102 - d) ∧ (v < 1000 → Wt ks v)
theorem size_list (ns : List Nd) (hl : ns.length ≤ maxL) (hr : ∀ x, x ∈ ns → SizeSpec x) (d0 : Nat) (hd0 : d0 ≤ 101) : PCall C1 24 [.c (.p (rN ns)), yd (.int .i64 d0)] fun y => ∃ v : Nat, y = yd (.int .i64 v) ∧ v ≤ 3000 * (102 - d0) ∧ (v < 1000 → Wt ns v) := by
  unfold maxL at hl
  refine Pf (by rfl) (by rfl) fn24 (by rfl) ?_
  simp only [Try.f24, List.length_cons, List.length_nil, List.replicate, List.cons_append, List.nil_append]
  by_cases h100 : 100 < d0
  · have f0 : leI (d0 : Nat) 100 = false := leI_false (by omega)
    simp -implicitDefEqProofs only [↓yP, yT, Nat.reduceAdd, Nat.reduceMul, Nat.reduceSub, Nat.reduceLeDiff, Nat.reduceEqDiff, reduceCtorEq, Nat.reduceBEq, f0]
    exact ⟨1000, rfl, by omega, fun h => by omega⟩
  have f0 : leI (d0 : Nat) 100 = true := leI_true (by omega)
  simp -implicitDefEqProofs only [↓yP, yT, Nat.reduceAdd, Nat.reduceMul, Nat.reduceSub, Nat.reduceLeDiff, Nat.reduceEqDiff, reduceCtorEq, Nat.reduceBEq, f0]
  refine Rl_inv (fun d e s => ∃ i n : Nat, e = [.c (.p (rN ns)), yd (.int .i64 d0), .c .top, .c .top, .c .top, yd (.int .i64 n), yd (.int .i64 i), .c .top, .c .top, .c .top, .c .top, .c .top, .c .top, .c .top, .c .top, .c .top, .c .top, .c .top, .c .top, .c .top, .c .top, .c .top, .c .top, .c .top, .c .top, .c .top, .c .top, .c .top, .c .top, .c .top, .c .top, .c .top, .c .top, .c .top, .c .top, .c .top, .c .top, .c .top, .c .top, .c .top, .c .top, .c .top, .c .top, .c .top, .c .top, .c .top, .c .top, .c .top, .c .top, .c .top, .c .top, .c .top, .c .top, .c .top, .c .top, .c .top, .c .top, .c .top, .c .top, .c .top, .c .top] ∧ s = [] ∧ i + d = ns.length ∧ n ≤ 3000 * (102 - d0) ∧ (n < 1000 → Wt (ns.take i) n)) [true, true, false, false, false, true, true] ns.length [] (by decide) (pinned_zero _) ⟨0, 0, by simp only [yE, Nat.reduceEqDiff, Nat.reduceAdd, reduceCtorEq]; rfl, rfl, by omega, by omega, by simpa using Wt.nil⟩ ?_
  rintro d e s ⟨i, n, rfl, rfl, hd, hn1, hwt⟩
  by_cases hi : i < ns.length
  · obtain ⟨x, hx⟩ := get_lt hi
    have hxr := hr x (List.mem_of_getElem? hx)
    obtain ⟨k0, h0, t0, ks0, o0, s0, m0, a0, l0⟩ := x
    obtain ⟨hh, ht, hks⟩ := hxr
    have t1 : leI (ns.length : Nat) (i : Nat) = false := leI_false (by omega)
    by_cases hn : n < 1000
    · have t2 : leI 1000 (n : Nat) = false := leI_false (by omega)
      have w1 : wrapK .i64 ((i : Int) + 1) = ((i + 1 : Nat) : Int) := wrap_suc (by omega)
      have wd : wrapK .i64 ((d0 : Int) + 1) = ((d0 + 1 : Nat) : Int) := wrap_suc (by omega)
      have hg := get_map (f := Nd.pc) hx
      rw [pc_mk] at hg
      simp -implicitDefEqProofs only [↓yP, yT, Nat.reduceAdd, Nat.reduceMul, Nat.reduceSub, Nat.reduceLeDiff, Nat.reduceEqDiff, reduceCtorEq, Nat.reduceBEq, t1, t2, hg]
      refine Rcall_pure (few_spec h0 hh) (by rfl) fun y hy => ?_
      obtain ⟨b, rfl, hb⟩ := hy
      cases b with
      | false =>
        simp -implicitDefEqProofs only [↓yP, yT, Nat.reduceAdd, Nat.reduceMul, Nat.reduceSub, Nat.reduceLeDiff, Nat.reduceEqDiff, reduceCtorEq, Nat.reduceBEq]
        exact ⟨1000, rfl, by omega, fun h => by omega⟩
      | true =>
        have hb := hb rfl
        simp -implicitDefEqProofs only [↓yP, yT, Nat.reduceAdd, Nat.reduceMul, Nat.reduceSub, Nat.reduceLeDiff, Nat.reduceEqDiff, reduceCtorEq, Nat.reduceBEq, hg]
        refine Rcall_pure (few_spec t0 ht) (by rfl) fun y hy => ?_
        obtain ⟨b, rfl, hb2⟩ := hy
        cases b with
        | false =>
          simp -implicitDefEqProofs only [↓yP, yT, Nat.reduceAdd, Nat.reduceMul, Nat.reduceSub, Nat.reduceLeDiff, Nat.reduceEqDiff, reduceCtorEq, Nat.reduceBEq]
          exact ⟨1000, rfl, by omega, fun h => by omega⟩
        | true =>
          have hb2 := hb2 rfl
          have w2 : wrapK .i64 ((n : Int) + 1) = ((n + 1 : Nat) : Int) := wrap_suc (by omega)
          have w3 : wrapK .i64 (((n + 1 : Nat) : Int) + (h0.length : Nat)) = ((n + 1 + h0.length : Nat) : Int) := by
            rw [show ((n + 1 : Nat) : Int) + (h0.length : Nat) = ((n + 1 + h0.length : Nat) : Int) by omega]; exact wrap_nat (by omega)
          have w4 : wrapK .i64 (((n + 1 + h0.length : Nat) : Int) + (t0.length : Nat)) = ((n + 1 + h0.length + t0.length : Nat) : Int) := by
            rw [show ((n + 1 + h0.length : Nat) : Int) + (t0.length : Nat) = ((n + 1 + h0.length + t0.length : Nat) : Int) by omega]; exact wrap_nat (by omega)
          simp -implicitDefEqProofs only [↓yP, yT, Nat.reduceAdd, Nat.reduceMul, Nat.reduceSub, Nat.reduceLeDiff, Nat.reduceEqDiff, reduceCtorEq, Nat.reduceBEq]
          refine Rd_calm (by rw [C1_P]; kernel_rfl) ?_
          simp -implicitDefEqProofs only [↓yP, yT, Nat.reduceAdd, Nat.reduceMul, Nat.reduceSub, Nat.reduceLeDiff, Nat.reduceEqDiff, reduceCtorEq, Nat.reduceBEq, hg, w1, w2, w3, w4, wd]
          refine Rcall_pure (hks (d0 + 1) (by omega)) (by rfl) fun y hy => ?_
          obtain ⟨v, rfl, hv1, hv2⟩ := hy
          have w5 : wrapK .i64 (((n + 1 + h0.length + t0.length : Nat) : Int) + (v : Nat)) = ((n + 1 + h0.length + t0.length + v : Nat) : Int) := by
            rw [show ((n + 1 + h0.length + t0.length : Nat) : Int) + (v : Nat) = ((n + 1 + h0.length + t0.length + v : Nat) : Int) by omega]; exact wrap_nat (by omega)
          simp -implicitDefEqProofs only [↓yP, yT, Nat.reduceAdd, Nat.reduceMul, Nat.reduceSub, Nat.reduceLeDiff, Nat.reduceEqDiff, reduceCtorEq, Nat.reduceBEq, w1, w5]
          by_cases hv : v < 1000
          · refine ⟨d - 1, [], by omega, by decide, pinned_zero _, i + 1, n + 1 + h0.length + t0.length + v, ?_, rfl, by omega, by omega, ?_⟩
            · simp only [yE, Nat.reduceEqDiff, Nat.reduceAdd, reduceCtorEq]
            · rw [List.take_add_one, hx]; exact fun _ => Wt.snoc (hwt hn) (hv2 hv)
          · refine ⟨d - 1, [], by omega, by decide, pinned_zero _, i + 1, n + 1 + h0.length + t0.length + v, ?_, rfl, by omega, by omega, fun h => by omega⟩
            simp only [yE, Nat.reduceEqDiff, Nat.reduceAdd, reduceCtorEq]
    · have t2 : leI 1000 (n : Nat) = true := leI_true (by omega)
      simp -implicitDefEqProofs only [↓yP, yT, Nat.reduceAdd, Nat.reduceMul, Nat.reduceSub, Nat.reduceLeDiff, Nat.reduceEqDiff, reduceCtorEq, Nat.reduceBEq, t1, t2]
      exact ⟨n, rfl, hn1, fun h => by omega⟩
  · have t1 : leI (ns.length : Nat) (i : Nat) = true := leI_true (by omega)
    have : i = ns.length := by omega
    subst this
    rw [List.take_length] at hwt
    simp -implicitDefEqProofs only [↓yP, yT, Nat.reduceAdd, Nat.reduceMul, Nat.reduceSub, Nat.reduceLeDiff, Nat.reduceEqDiff, reduceCtorEq, Nat.reduceBEq, t1]
    exact ⟨n, rfl, hn1, hwt⟩
end Go.Vx.Seat
end
/- Few nodes: the ring of size round a law's trees; tokens of nodes, whole. -/
section
open Go Go.Vx Go.Proofs
set_option linter.unusedSimpArgs false
set_option linter.unusedVariables false
set_option maxRecDepth 10000
set_option maxHeartbeats 8000000
namespace Go.Vx.Seat
attribute [local congr] Rg_at Rt_at Ro_at Ri_at Rc_at Rto_at Rtk_at Rtf_at Rti_at
attribute [local irreducible] Rg Rt Ro Ri Rc Rto Rtk Rtf Rti Rw Rl Rd Rcall Rtcall kf
theorem Wt.small {ns : List Nd} {n : Nat} (hw : Wt ns n) : ns.length ≤ n ∧ (toksOf ns).length ≤ 5 * n := by
  induction hw with
  | nil => simp [toksOf]
  | @snoc ns n w k h t ks o s m a l h1 h2 ih1 ih2 =>
    refine ⟨by simp; omega, ?_⟩
    rw [toksOf_snoc, List.length_append, Nd.toks]
    have e1 : (if k = 2 then mkTok 16 a :: t else []).length ≤ t.length + 1 := by split <;> simp
    have e2 : (if k = 1 then (if o then [mkTok 19 a] else []) ++ toksOf ks ++ (if s then [mkTok 20 l] else []) else []).length ≤ (toksOf ks).length + 2 := by
      split
      · cases o <;> cases s <;> simp
      · simp
    have e3 : (if m then [mkTok 17 l] else []).length ≤ 1 := by split <;> simp
    simp only [List.length_append] at e2 ⊢
    omega
theorem Wt.toks {ns : List Nd} {n : Nat} (hw : Wt ns n) : n ≤ 1000 → ∀ x, x ∈ ns → TokSpec x ∧ TokSpecP x := by
  induction hw with
  | nil => intro _ x hx; simp at hx
  | @snoc ns n w k h t ks o s m a l h1 h2 ih1 ih2 =>
    intro hn x hx
    rcases List.mem_append.mp hx with hx | hx
    · exact ih1 (by omega) x hx
    · obtain rfl := List.mem_singleton.mp hx
      have hs := h2.small
      have ih := ih2 (by omega)
      exact ⟨fun hb => toksD_list ks (by omega) (fun y hy => (ih y hy).1) hb, fun out hb => toksP_list ks (by omega) (fun y hy => (ih y hy).2) out hb⟩
theorem tokensD_spec {ns : List Nd} {n : Nat} (hw : Wt ns n) (hn : n ≤ 1000) : PCall C1 16 [.c (.p (rN ns))] fun y => y = .c (.p (rT (toksOf ns))) :=
  have hs := hw.small
  toksD_list ns (by omega) (fun x hx => (hw.toks hn x hx).1) (by omega)
theorem tokensP_spec {ns : List Nd} {n : Nat} (hw : Wt ns n) (hn : n ≤ 1000) : PCall C1 15 [.c (.p (rN ns))] fun y => y = .c (.p (rT (toksOf ns))) := by
  have hs := hw.small
  have hc := toksP_list ns (by omega) (fun x hx => (hw.toks hn x hx).2) [] (by simp; omega)
  rw [List.nil_append] at hc
  refine Pf (by rfl) (by rfl) fn15 (by rfl) ?_
  simp only [Try.f15, List.length_cons, List.length_nil, List.replicate, List.cons_append, List.nil_append]
  simp -implicitDefEqProofs only [↓yP, yT, Nat.reduceAdd, Nat.reduceMul, Nat.reduceSub, Nat.reduceLeDiff, Nat.reduceEqDiff, reduceCtorEq, Nat.reduceBEq]
  refine Rcall_own_nil (by decide) (by rfl) hc ?_
  simp -implicitDefEqProofs only [↓yP, yT, Nat.reduceAdd, Nat.reduceMul, Nat.reduceSub, Nat.reduceLeDiff, Nat.reduceEqDiff, reduceCtorEq, Nat.reduceBEq]
theorem size_of_max {x : Nd} (hx : NdMax x) : SizeSpec x := by
  induction hx with
  | mk h1 h2 h3 h4 ih => exact ⟨h1, h2, fun d hd => size_list _ h3 ih d hd⟩
theorem fewN_spec (ns : List Nd) (hl : ns.length ≤ maxL) (hx : ∀ x, x ∈ ns → NdMax x) : PCall C1 10 [.c (.p (rN ns))] fun y => ∃ b : Bool, y = yd (.bool b) ∧ (b = true → ∃ n, n ≤ 200 ∧ Wt ns n) := by
  refine Pf (by rfl) (by rfl) fn10 (by rfl) ?_
  simp only [Try.f10, List.length_cons, List.length_nil, List.replicate, List.cons_append, List.nil_append]
  simp -implicitDefEqProofs only [↓yP, yT, Nat.reduceAdd, Nat.reduceMul, Nat.reduceSub, Nat.reduceLeDiff, Nat.reduceEqDiff, reduceCtorEq, Nat.reduceBEq]
  refine Rcall_pure (size_list ns hl (fun x h => size_of_max (hx x h)) 0 (by omega)) (by rfl) fun y hy => ?_
  obtain ⟨v, rfl, hv1, hv2⟩ := hy
  by_cases hv : v ≤ 200
  · have t1 : leI (v : Nat) 200 = true := leI_true (by omega)
    simp -implicitDefEqProofs only [↓yP, yT, Nat.reduceAdd, Nat.reduceMul, Nat.reduceSub, Nat.reduceLeDiff, Nat.reduceEqDiff, reduceCtorEq, Nat.reduceBEq, t1]
    exact ⟨true, rfl, fun _ => ⟨v, hv, hv2 (by omega)⟩⟩
  · have t1 : leI (v : Nat) 200 = false := leI_false (by omega)
    simp -implicitDefEqProofs only [↓yP, yT, Nat.reduceAdd, Nat.reduceMul, Nat.reduceSub, Nat.reduceLeDiff, Nat.reduceEqDiff, reduceCtorEq, Nat.reduceBEq, t1]
    exact ⟨false, rfl, fun h => by cases h⟩
end Go.Vx.Seat
end
/- What Parse gives is not too much. -/
section
open Go Go.Vx Go.Proofs
set_option linter.unusedSimpArgs false
set_option linter.unusedVariables false
namespace Go.Vx.Seat
theorem nodesP_few (ts : List Tok) (cols : List Int) : ∀ n i depth, (nodesP ts cols n i depth).1.length ≤ n
  | 0, i, depth => by simp [nodesP]
  | n + 1, i, depth => by
    unfold nodesP
    split
    · have := nodesP_few ts cols n (nodeP ts cols (nodesP ts cols n) i depth).2 depth
      simp only [List.length_cons]
      omega
    · simp
theorem slice_le {ts : List Tok} (a b : Nat) (hl : ts.length ≤ 1000000) : (slice ts a b).length ≤ 1000000 := slice_len ts a _ hl
theorem nodesP_ok {ts : List Tok} {cols : List Int} (hl : ts.length ≤ 1000000) : ∀ n, n ≤ 1000000 → ∀ i depth x, x ∈ (nodesP ts cols n i depth).1 → NdOk x
  | 0, _, i, depth, x, hx => by simp [nodesP] at hx
  | n + 1, hn, i, depth, x, hx => by
    have ih := nodesP_ok (cols := cols) hl n (by omega)
    unfold nodesP at hx
    split at hx
    · rcases List.mem_cons.mp hx with hx | hx
      · subst hx
        unfold nodeP
        simp only
        split
        · unfold ruleP
          simp only
          refine .mk (slice_le _ _ hl) (by simp) ?_ (ih _ _)
          have := nodesP_few ts cols n (scanP ts depth (ts.length - i) i + 1) (depth + 1)
          omega
        · unfold leafP
          simp only
          split
          · exact .mk (slice_le _ _ hl) (slice_le _ _ hl) (by simp) (by simp)
          · exact .mk (slice_le _ _ hl) (by simp) (by simp) (by simp)
      · exact ih _ _ x hx
    · simp at hx
theorem parse_refl (ts : List Tok) (hl : ts.length ≤ 1000000) : PCall C1 11 [.c (.p (rN (parseP ts))), .c (.p (rN (parseD ts)))] fun y => y = yd (.bool true) := by
  rw [← parse_same]
  refine sameNodes_refl (parseP ts) ?_ (nodesP_ok hl _ hl 0 0)
  exact Nat.le_trans (nodesP_few ts _ _ 0 0) hl
end Go.Vx.Seat
end
/- The tokens of the nodes of tokens are these: plain law. -/
section
open Go Go.Vx Go.Proofs
set_option linter.unusedSimpArgs false
set_option linter.unusedVariables false
namespace Go.Vx.Seat
/-- A sign is just that. -/
def Signs (ts : List Tok) : Prop := ∀ t, t ∈ ts → 16 ≤ t.kind → t.kind ≤ 24 → t = mkTok t.kind t.start
theorem slice_add {ts : List Tok} {a b c : Nat} (h1 : a ≤ b) (h2 : b ≤ c) : slice ts a b ++ slice ts b c = slice ts a c := by
  unfold slice
  rw [show c - a = (b - a) + (c - b) by omega, List.take_add, List.drop_drop, show a + (b - a) = b by omega]
theorem slice_one {ts : List Tok} {k : Nat} {t : Tok} (h : ts[k]? = some t) : slice ts k (k + 1) = [t] := by
  have hk := (List.getElem?_eq_some_iff.mp h).1
  unfold slice
  rw [show k + 1 - k = 1 by omega, List.drop_eq_getElem_cons hk, List.take_succ_cons, List.take_zero]
  rw [List.getElem?_eq_getElem hk] at h
  rw [Option.some.inj h]
theorem slice_self (ts : List Tok) (k : Nat) : slice ts k k = [] := by simp [slice]
theorem slice_len2 {ts : List Tok} {a b : Nat} (h : b ≤ ts.length) : (slice ts a b).length = b - a := by simp [slice]; omega
theorem slice_sign {ts : List Tok} (hs : Signs ts) {k : Nat} (hk : k < ts.length) {n : Int} (hn : kindAt ts k = n) (h1 : 16 ≤ n) (h2 : n ≤ 24) : slice ts k (k + 1) = [mkTok n (startAt ts k)] := by
  have ht : ts[k]? = some ts[k] := List.getElem?_eq_getElem hk
  rw [slice_one ht]
  have hkk := kindAt_some ht
  rw [hkk] at hn
  rw [startAt_some ht]
  have := hs _ (List.getElem_mem hk) (by omega) (by omega)
  rw [hn] at this
  rw [← this]
theorem Wt.cons {k : Int} {h t : List Tok} {ks : List Nd} {o s m : Bool} {a l : Int} {w : Nat} (hw : Wt ks w) {ns : List Nd} {n : Nat} (hn : Wt ns n) : Wt (.mk k h t ks o s m a l :: ns) (1 + h.length + t.length + w + n) := by
  induction hn with
  | nil =>
    have := Wt.snoc (k := k) (h := h) (t := t) (o := o) (s := s) (m := m) (a := a) (l := l) Wt.nil hw
    simpa [Nat.add_assoc] using this
  | @snoc ns n w' k' h' t' ks' o' s' m' a' l' h1 h2 ih1 ih2 =>
    have := Wt.snoc (k := k') (h := h') (t := t') (o := o') (s := s') (m := m') (a := a') (l := l') ih1 h2
    rw [show 1 + h.length + t.length + w + n + 1 + h'.length + t'.length + w' = 1 + h.length + t.length + w + (n + 1 + h'.length + t'.length + w') by omega] at this
    exact this
/-- What nodes come from, and how much they weigh. -/
def BackOk (ts : List Tok) (cols : List Int) (n : Nat) : Prop := ∀ i deep, i ≤ ts.length → ts.length - i ≤ n → (i < ts.length → openAt ts i = reps deep) →
  (Signs ts → toksOf (nodesD ts cols n i deep).1 = slice ts i (nodesD ts cols n i deep).2) ∧ ∃ w, Wt (nodesD ts cols n i deep).1 w ∧ w ≤ 2 * ((nodesD ts cols n i deep).2 - i)
theorem node_back {ts : List Tok} {n i deep : Nat} (hb : BackOk ts (colonsTo ts ts.length) n) (hi : i < ts.length) (ho : openAt ts i = reps deep) (hs : shutD ts deep i = false) (hf : ts.length - (i + 1) ≤ n) :
    (Signs ts → (nodeD ts (colonsTo ts ts.length) (nodesD ts (colonsTo ts ts.length) n) i deep).1.toks = slice ts i (nodeD ts (colonsTo ts ts.length) (nodesD ts (colonsTo ts ts.length) n) i deep).2) ∧
    ∃ (k : Int) (h t : List Tok) (ks : List Nd) (o s m : Bool) (a l : Int) (w : Nat), (nodeD ts (colonsTo ts ts.length) (nodesD ts (colonsTo ts ts.length) n) i deep).1 = .mk k h t ks o s m a l ∧ Wt ks w ∧
      1 + h.length + t.length + w ≤ 2 * ((nodeD ts (colonsTo ts ts.length) (nodesD ts (colonsTo ts ts.length) n) i deep).2 - i) := by
  obtain ⟨e1, ha, hstop⟩ := scan_same ts deep (ts.length - i) i (by omega) (.same ho)
  have hle := endD_le ts deep (ts.length - i) i
  have hr := nodes_same ts n
  obtain ⟨_, hprog, hlast, _⟩ := node_same hr hi ho hs hf
  unfold nodeD at hprog hlast ⊢
  simp only at hprog hlast ⊢
  generalize endD ts deep (ts.length - i) i = k at ha hstop hle hprog hlast ⊢
  have leaf : ∀ (c : Option Nat) (semi : Bool), (∀ c', c = some c' → i ≤ c' ∧ c' < k ∧ kindAt ts c' = 16) → (semi = true → k < ts.length ∧ kindAt ts k = 17) → i < (leafD ts c i k semi).2 →
      (Signs ts → (leafD ts c i k semi).1.toks = slice ts i (leafD ts c i k semi).2) ∧ ∃ (k' : Int) (h t : List Tok) (ks : List Nd) (o s m : Bool) (a l : Int) (w : Nat), (leafD ts c i k semi).1 = .mk k' h t ks o s m a l ∧ Wt ks w ∧ 1 + h.length + t.length + w ≤ 2 * ((leafD ts c i k semi).2 - i) := by
    intro c semi hc hsemi hpr
    have hkl : k ≤ ts.length := by omega
    cases c with
    | none =>
      unfold leafD at hpr ⊢
      simp only at hpr ⊢
      refine ⟨fun hsg => ?_, _, _, _, _, _, _, _, _, _, 0, rfl, Wt.nil, ?_⟩
      · cases semi with
        | false => simp [Nd.toks]
        | true =>
          obtain ⟨g1, g2⟩ := hsemi rfl
          simp only [Nd.toks, if_true, ← slice_sign hsg g1 g2 (by decide) (by decide)]
          rw [if_neg (by decide), if_neg (by decide), List.append_nil, List.append_nil]
          exact slice_add (by omega) (by omega)
      · rw [slice_len2 hkl]
        cases semi <;> simp at hpr ⊢ <;> omega
    | some c =>
      obtain ⟨c1, c2, c3⟩ := hc c rfl
      unfold leafD at hpr ⊢
      simp only at hpr ⊢
      refine ⟨fun hsg => ?_, _, _, _, _, _, _, _, _, _, 0, rfl, Wt.nil, ?_⟩
      · have hcs := slice_sign hsg (k := c) (by omega) c3 (by decide) (by decide)
        have e1 : slice ts i c ++ (mkTok 16 (startAt ts c) :: slice ts (c + 1) k) = slice ts i k := by
          rw [← List.singleton_append, ← hcs, slice_add (by omega) (by omega), slice_add (by omega) (by omega)]
        cases semi with
        | false => simp [Nd.toks, e1]
        | true =>
          obtain ⟨g1, g2⟩ := hsemi rfl
          simp only [Nd.toks, if_true, ← slice_sign hsg g1 g2 (by decide) (by decide)]
          rw [if_neg (by decide), List.append_nil, e1]
          exact slice_add (by omega) (by omega)
      · rw [slice_len2 (by omega), slice_len2 hkl]
        cases semi <;> simp at hpr ⊢ <;> omega
  have hcol : ∀ m c', colD ts (colonsTo ts ts.length) deep i m = some c' → i ≤ c' ∧ c' < i + m ∧ kindAt ts c' = 16 := by
    intro m c' h
    have h1 := colD_le h
    have h2 := colD_some h
    have h3 := (contains_colons ts ts.length c').mp h2.2
    exact ⟨h1.1, h1.2, (docColon_facts h3.2).1⟩
  by_cases hk : k < ts.length
  · obtain ⟨hab, hlk, hkind⟩ := hstop hk
    have hok := hab.eq (by rw [reps_len]; exact hlk)
    by_cases h19 : kindAt ts k = 19
    · rw [if_pos ⟨hk, h19⟩] at hprog hlast ⊢
      obtain ⟨g1, g2, g3, g4⟩ := hr (k + 1) (deep + 1) (by omega) (by omega) fun _ => reps_block hk hok h19
      obtain ⟨b1, w, b2, b3⟩ := hb (k + 1) (deep + 1) (by omega) (by omega) fun _ => reps_block hk hok h19
      unfold ruleP at hprog hlast ⊢
      simp only at hprog hlast ⊢
      generalize nodesD ts (colonsTo ts ts.length) n (k + 1) (deep + 1) = r at g1 g2 g3 g4 b1 b2 b3 hprog hlast ⊢
      refine ⟨fun hsg => ?_, _, _, _, _, _, _, _, _, _, w, rfl, b2, ?_⟩
      · have hks := slice_sign hsg hk h19 (by decide) (by decide)
        have e1 : slice ts i k ++ ([mkTok 19 (startAt ts k)] ++ toksOf r.1) = slice ts i r.2 := by
          rw [← hks, b1 hsg, slice_add (by omega) g2, slice_add (by omega) (by omega)]
        by_cases hj : r.2 < ts.length
        · obtain ⟨g5, g6⟩ := g4 hj
          have h20 : kindAt ts r.2 = 20 := by simp [shutD] at g6; exact g6.1
          have hjs := slice_sign hsg hj h20 (by decide) (by decide)
          simp only [Nd.toks, hj, decide_true, if_true]
          rw [if_neg (by decide), List.append_nil, ← hjs]
          simp only [Bool.false_eq_true, if_false, List.append_nil]
          rw [← List.append_assoc, e1]
          exact slice_add (by omega) (by omega)
        · simp only [Nd.toks, hj, decide_false, if_true, if_false]
          rw [if_neg (by decide), List.append_nil]
          simp only [Bool.false_eq_true, if_false, List.append_nil]
          exact e1
      · rw [slice_len2 (by omega)]
        by_cases hj : r.2 < ts.length
        · simp only [hj, if_true, List.length_nil]; omega
        · simp only [hj, if_false, List.length_nil]; omega
    · rw [if_neg (fun h => h19 h.2), if_pos hk] at hprog hlast ⊢
      refine leaf _ _ (fun c' hc => ?_) (fun h => ⟨hk, by simpa using h⟩) hprog
      obtain ⟨q1, q2, q3⟩ := hcol _ _ hc
      refine ⟨q1, ?_, q3⟩
      have hne : c' ≠ k := fun e => by
        subst e
        rcases hkind with h | h | h
        · omega
        · exact h19 h
        · omega
      omega
  · rw [if_neg (fun h => hk h.1), if_neg hk] at hprog hlast ⊢
    refine leaf _ _ (fun c' hc => ?_) (fun h => by cases h) hprog
    obtain ⟨q1, q2, q3⟩ := hcol _ _ hc
    exact ⟨q1, by omega, q3⟩
theorem nodes_back (ts : List Tok) : ∀ n, BackOk ts (colonsTo ts ts.length) n
  | 0 => fun i deep h1 h2 h3 => ⟨fun _ => by simp [nodesD, toksOf, slice_self], 0, by simp only [nodesD]; exact Wt.nil, by omega⟩
  | n + 1 => fun i deep h1 h2 h3 => by
    have ih := nodes_back ts n
    have hr := nodes_same ts n
    unfold nodesD
    by_cases hi : i < ts.length
    · have ho := h3 hi
      cases hs : shutD ts deep i with
      | true =>
        rw [if_neg (by simp)]
        exact ⟨fun _ => by simp [toksOf, slice_self], 0, Wt.nil, by omega⟩
      | false =>
        rw [if_pos ⟨hi, rfl⟩]
        simp only
        obtain ⟨_, g2, g3, g4⟩ := node_same hr hi ho hs (by omega)
        obtain ⟨b1, k, h, t, ks, o, s, m, a, l, w, e, hw, hwl⟩ := node_back ih hi ho hs (by omega)
        obtain ⟨c1, w2, c2, c3⟩ := ih (nodeD ts (colonsTo ts ts.length) (nodesD ts (colonsTo ts ts.length) n) i deep).2 deep g3 (by omega) g4
        obtain ⟨_, k2, k3, _⟩ := hr (nodeD ts (colonsTo ts ts.length) (nodesD ts (colonsTo ts ts.length) n) i deep).2 deep g3 (by omega) g4
        refine ⟨fun hsg => ?_, _, by rw [e]; exact Wt.cons hw c2, by omega⟩
        rw [toksOf, b1 hsg, c1 hsg]
        exact slice_add (by omega) k2
    · rw [if_neg (fun h => hi h.1)]
      exact ⟨fun _ => by simp [toksOf, slice_self], 0, Wt.nil, by omega⟩
theorem parse_end (ts : List Tok) : (nodesD ts (colonsTo ts ts.length) ts.length 0 0).2 = ts.length := by
  obtain ⟨_, h1, h2, h3⟩ := nodes_same ts ts.length 0 0 (by omega) (by omega) fun _ => by simp [openAt, reps]
  rcases Nat.lt_or_ge (nodesD ts (colonsTo ts ts.length) ts.length 0 0).2 ts.length with g | g
  · have := (h3 g).2
    simp [shutD] at this
  · omega
theorem parse_back {ts : List Tok} (hs : Signs ts) : toksOf (parseD ts) = ts := by
  have := (nodes_back ts ts.length 0 0 (by omega) (by omega) fun _ => by simp [openAt, reps]).1 hs
  rw [parse_end] at this
  rw [parseD, this]
  simp [slice]
theorem parse_wt (ts : List Tok) : ∃ w, Wt (parseD ts) w ∧ w ≤ 2 * ts.length := by
  obtain ⟨w, h1, h2⟩ := (nodes_back ts ts.length 0 0 (by omega) (by omega) fun _ => by simp [openAt, reps]).2
  rw [parse_end] at h2
  exact ⟨w, h1, h2⟩
end Go.Vx.Seat
end
/- A style sheet's tokens; CtreeBack: the walk. -/
section
open Go Go.Vx Go.Proofs
set_option linter.unusedSimpArgs false
set_option linter.unusedVariables false
set_option maxRecDepth 20000
set_option maxHeartbeats 4000000
namespace Go.Vx.Seat
attribute [local congr] Rg_at Rt_at Ro_at Ri_at Rc_at Rto_at Rtk_at Rtf_at Rti_at
attribute [local irreducible] Rg Rt Ro Ri Rc Rto Rtk Rtf Rti Rw Rl Rd Rcall Rtcall kf
theorem fn4 : nth C1.P.funcs.toList 4 = some Try.f4 := by kernel_rfl
theorem back_spec (bs : List Int) : PCall C1 4 [.c (.p (rB bs))] fun y => y = yd (.bool true) := by
  refine Pf (by rfl) (by rfl) fn4 (by rfl) ?_
  simp only [Try.f4, List.length_cons, List.length_nil, List.replicate, List.cons_append, List.nil_append]
  simp -implicitDefEqProofs only [↓yP, yT, Nat.reduceAdd, Nat.reduceMul, Nat.reduceSub, Nat.reduceLeDiff, Nat.reduceEqDiff, reduceCtorEq, Nat.reduceBEq]
  refine Rcall_pure live_spec (by rfl) fun y hy => ?_
  subst hy
  by_cases hl : bs.length ≤ 300
  · have t1 : leI (bs.length : Nat) 300 = true := leI_true (by omega)
    simp -implicitDefEqProofs only [↓yP, yT, Nat.reduceAdd, Nat.reduceMul, Nat.reduceSub, Nat.reduceLeDiff, Nat.reduceEqDiff, reduceCtorEq, Nat.reduceBEq, t1]
    refine Rcall_pure (css_spec bs (by omega)) (by rfl) fun y hy => ?_
    obtain ⟨out, rfl, hc⟩ := hy
    have hol := hc.len
    obtain ⟨w, hw1, hw2⟩ := parse_wt out
    simp -implicitDefEqProofs only [↓yP, yT, Nat.reduceAdd, Nat.reduceMul, Nat.reduceSub, Nat.reduceLeDiff, Nat.reduceEqDiff, reduceCtorEq, Nat.reduceBEq]
    refine Rcall_pure (parseP_spec out (by omega)) (by rfl) fun y hy => ?_
    subst hy
    rw [parse_same]
    simp -implicitDefEqProofs only [↓yP, yT, Nat.reduceAdd, Nat.reduceMul, Nat.reduceSub, Nat.reduceLeDiff, Nat.reduceEqDiff, reduceCtorEq, Nat.reduceBEq]
    refine Rcall_pure (tokensP_spec hw1 (by omega)) (by rfl) fun y hy => ?_
    subst hy
    rw [parse_back hc.signs]
    simp -implicitDefEqProofs only [↓yP, yT, Nat.reduceAdd, Nat.reduceMul, Nat.reduceSub, Nat.reduceLeDiff, Nat.reduceEqDiff, reduceCtorEq, Nat.reduceBEq]
    refine Rcall_pure (sameTok_refl out (by omega)) (by rfl) fun y hy => ?_
    subst hy
    simp -implicitDefEqProofs only [↓yP, yT, Nat.reduceAdd, Nat.reduceMul, Nat.reduceSub, Nat.reduceLeDiff, Nat.reduceEqDiff, reduceCtorEq, Nat.reduceBEq]
  · have t1 : leI (bs.length : Nat) 300 = false := leI_false (by omega)
    simp -implicitDefEqProofs only [↓yP, yT, Nat.reduceAdd, Nat.reduceMul, Nat.reduceSub, Nat.reduceLeDiff, Nat.reduceEqDiff, reduceCtorEq, Nat.reduceBEq, t1]
end Go.Vx.Seat
end
