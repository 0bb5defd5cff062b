/- Texts joined: VzG1 VzI1 VzV1 VzV2 VzW1 VyF1 VzX3 VzH1. -/
import Derived.Test.YtmbonddknackiaaVm37
import Derived.Test.YtmbonddknackiaaVyOwn
import Derived.Test.YtmbonddknackiaaVyNbox
import Derived.Test.YtmbonddknackiaaVyCut
import Derived.Test.YtmbonddknackiaaVyGive
import Derived.Test.YtmbonddknackiaaVyLay
import Derived.OpenShut
import Derived.Shelf.Vars
/- Does a blank go beside a token? The program's question. -/
section
open Go Go.Vx Go.Proofs
set_option linter.unusedSimpArgs false
set_option linter.unusedVariables false
set_option maxRecDepth 10000
set_option maxHeartbeats 4000000
namespace Go.Vx.Seat
attribute [local congr] Rg_at Rt_at Ro_at Ri_at Rc_at Rto_at Rtk_at Rtf_at Rti_at
attribute [local irreducible] Rg Rt Ro Ri Rc Rto Rtk Rtf Rti Rw Rl Rd Rcall Rtcall kf
theorem fn62 : nth C1.P.funcs.toList 62 = some Try.f62 := by kernel_rfl
def rb (ts : List Tok) (cols : List Int) (out : PC) : List PC := [rT ts, rI cols, out]
theorem goes_out (ts : List Tok) (cols kinds : List Int) (out : PC) (i : Int) (h : i < 0 ∨ (ts.length : Int) ≤ i) : PCall C1 62 [.c (.rp (rb ts cols out)), yd (.int .i64 i), .c (.p (rI kinds))] fun y => y = yd (.bool true) := by
  refine Pf (by rfl) (by rfl) fn62 (by rfl) ?_
  simp only [Try.f62, List.length_cons, List.length_nil, List.replicate, List.cons_append, List.nil_append]
  unfold rb
  by_cases h0 : i < 0
  · have t0 : leI 0 i = false := leI_false (by omega)
    simp -implicitDefEqProofs only [↓yP, yT, Nat.reduceAdd, Nat.reduceMul, Nat.reduceSub, Nat.reduceLeDiff, Nat.reduceEqDiff, reduceCtorEq, Nat.reduceBEq, t0]
  · have t0 : leI 0 i = true := leI_true (by omega)
    have t1 : leI (ts.length : Nat) i = true := leI_true (by omega)
    simp -implicitDefEqProofs only [↓yP, yT, Nat.reduceAdd, Nat.reduceMul, Nat.reduceSub, Nat.reduceLeDiff, Nat.reduceEqDiff, reduceCtorEq, Nat.reduceBEq, t0, t1]
theorem goes_in (ts : List Tok) (cols kinds : List Int) (out : PC) (n : Nat) (t : Tok) (ht : ts[n]? = some t) (hl : ts.length ≤ 1000000) (hc : cols.length ≤ 1000000) (hr : Rising cols) (hk : kinds.length ≤ 1000000) :
    PCall C1 62 [.c (.rp (rb ts cols out)), yd (.int .i64 (n : Nat)), .c (.p (rI kinds))] fun y => y = yd (.bool (cols.contains ((n : Nat) : Int) || kinds.contains t.kind)) := by
  have hn : n < ts.length := (List.getElem?_eq_some_iff.mp ht).1
  have t0 : leI 0 (n : Nat) = true := leI_true (by omega)
  have t1 : leI (ts.length : Nat) (n : Nat) = false := leI_false (by omega)
  refine Pf (by rfl) (by rfl) fn62 (by rfl) ?_
  simp only [Try.f62, List.length_cons, List.length_nil, List.replicate, List.cons_append, List.nil_append]
  unfold rb
  simp -implicitDefEqProofs only [↓yP, yT, Nat.reduceAdd, Nat.reduceMul, Nat.reduceSub, Nat.reduceLeDiff, Nat.reduceEqDiff, reduceCtorEq, Nat.reduceBEq, t0, t1]
  refine Rcall_pure (search_spec cols n hc hr) (by rfl) fun y hy => ?_
  obtain ⟨k, b, rfl, hs, hb⟩ := hy
  have hbc : cols.contains ((n : Nat) : Int) = b := by
    rw [Bool.eq_iff_iff, List.contains_iff_mem]
    constructor
    · intro hm
      obtain ⟨j, hj⟩ := List.getElem?_of_mem hm
      rcases Nat.lt_or_ge j k with h | h
      · have := hs.2.1 j _ h hj; omega
      · rcases Nat.eq_or_lt_of_le h with e | h2
        · rw [← e] at hj; exact hb.mpr hj
        · obtain ⟨a, ha⟩ := get_lt (l := cols) (i := k) (by have := (List.getElem?_eq_some_iff.mp hj).1; omega)
          have h3 := hs.2.2 k a (Nat.le_refl _) ha
          have h4 := hr k j a _ h2 ha hj
          omega
    · intro h; exact List.mem_of_getElem? (hb.mp h)
  cases b with
  | true =>
    simp -implicitDefEqProofs only [↓yP, yT, Nat.reduceAdd, Nat.reduceMul, Nat.reduceSub, Nat.reduceLeDiff, Nat.reduceEqDiff, reduceCtorEq, Nat.reduceBEq]
    rw [hbc]; rfl
  | false =>
    simp -implicitDefEqProofs only [↓yP, yT, Nat.reduceAdd, Nat.reduceMul, Nat.reduceSub, Nat.reduceLeDiff, Nat.reduceEqDiff, reduceCtorEq, Nat.reduceBEq, get_map ht, Tok.pc]
    refine Rcall_pure (sContains_spec kinds t.kind hk) (by rfl) fun y hy => ?_
    subst hy
    simp -implicitDefEqProofs only [↓yP, yT, Nat.reduceAdd, Nat.reduceMul, Nat.reduceSub, Nat.reduceLeDiff, Nat.reduceEqDiff, reduceCtorEq, Nat.reduceBEq]
    rw [hbc]; rfl
end Go.Vx.Seat
end
/- slices.Insert of one token ahead of others, among values. -/
section
open Go Go.Vx Go.Proofs
set_option linter.unusedVariables false
namespace Go.Vx.Seat
theorem told61 : C1.told 61 = some insG := rfl
theorem insert_nil {x : List PC} {id : Nat} {s : Sto} {K : YV → Sto → Prop} (hid : s[id]? = some (.row 13 [x])) (hK : K (.c (.own s.length 13 0 1)) (s ++ [.row 13 [x]])) :
    YC C1 false 61 [.c (.p (.d (.slice none 0 0))), yd (.int .i64 0), .c (.own id 13 0 1)] s K := by
  intro lo m R h vals hs ha
  match vals, ha.1, ha with
  | [v0, v1, v2], _, ha =>
    obtain ⟨rfl, _⟩ := VRep.dv (ha.2 0 _ _ rfl rfl) (show dv (.c (.p (.d (.slice none 0 0)))) = some (.slice none 0 0) from rfl)
    obtain ⟨rfl, _⟩ := VRep.dv (ha.2 1 _ _ rfl rfl) (show dv (yd (.int .i64 0)) = some (.int .i64 0) from rfl)
    have h2 : VRep m R h (.c (.own id 13 0 1)) v2 := ha.2 2 _ _ rfl rfl
    have hy : yAppend Try.prog 22 22 (.c (.p (.d (.slice none 0 0)))) (.c (.own id 13 0 1)) s = some (.val (.c (.own s.length 13 0 1)), s ++ [.row 13 [x]]) := by
      have e1 : tyElem Try.prog 22 = some 38 := by kernel_rfl
      have e2 : yzero Try.prog 38 = some (clist ztv) := by unfold yzero; rw [ztI]; rfl
      have e6 : (clist ztv).length = 13 := rfl
      have e3 : tySz Try.prog 38 = 13 := by kernel_rfl
      have e4 : tyBytes Try.prog 38 = 128 := by kernel_rfl
      have e5 : tyIntOrNone Try.prog 22 = false := by kernel_rfl
      have e7 : nth s id = some (.row 13 [x]) := by rw [nth_eq]; exact hid
      unfold yAppend
      simp only [e1, e2, e3, e4, e5, e6]
      simp [ySource, yrow, e7, yNew]
    obtain ⟨y, v', h', e, hx, hd⟩ := yAppend_sound (lo := lo) hs (ha.2 0 _ _ rfl rfl) h2 hy
    cases e
    obtain ⟨m', k1, k2, k3, k4⟩ := hd
    have hv2 : ∃ ax sx, v2 = .slice (some ax) 1 sx := by
      obtain ⟨_, ⟨_, _, h5⟩ | ⟨b, _, h5⟩⟩ := h2
      · cases h5
      · exact ⟨_, _, h5⟩
    obtain ⟨ax, sx, rfl⟩ := hv2
    have hx' : xappend Try.prog lo 22 22 (.slice none 0 0) (.slice (some ax) 1 sx) h = some (v', h') := by
      revert hx
      unfold opRes2
      split
      · intro hx; cases hx; assumption
      · intro hx; cases hx
    refine WCall_told told61 (v := v') (h' := h') (by simp only [insG, if_true]; exact hx') ⟨m', R, _, _, hK, k1, k2, k3, k4, fun hd => by cases hd⟩
theorem insert_own {x : List PC} {els : List (List PC)} {k id : Nat} {s : Sto} {K : YV → Sto → Prop} (hk : s[k]? = some (.row 13 els)) (hne : 0 < els.length) (hle : els.length ≤ 1000000) (hid : s[id]? = some (.row 13 [x])) (hik : id ≠ k)
    (hK : K (.c (.own s.length 13 0 (els.length + 1))) (s.set k .dead ++ [.row 13 (x :: els)])) :
    YC C1 false 61 [.c (.own k 13 0 els.length), yd (.int .i64 0), .c (.own id 13 0 1)] s K := by
  intro lo m R h vals hs ha
  match vals, ha.1, ha with
  | [v0, v1, v2], _, ha =>
    obtain ⟨rfl, _⟩ := VRep.dv (ha.2 1 _ _ rfl rfl) (show dv (yd (.int .i64 0)) = some (.int .i64 0) from rfl)
    have h0 : CRep m R h (.own k 13 0 els.length) v0 := ha.2 0 _ _ rfl rfl
    have h2 : CRep m R h (.own id 13 0 1) v2 := ha.2 2 _ _ rfl rfl
    obtain ⟨_, ⟨_, _, hc⟩ | ⟨b, hm, rfl⟩⟩ := h0
    · omega
    obtain ⟨_, ⟨_, _, hc⟩ | ⟨bx, hmx, rfl⟩⟩ := h2
    · cases hc
    rcases hs.ent _ _ _ hk hm with ⟨e1, _⟩ | ⟨b', vs, e1, e2, e3, e4⟩
    · cases e1
    cases e1
    rcases hs.ent _ _ _ hid hmx with ⟨e1, _⟩ | ⟨bx', vx, e1, f2, f3, f4⟩
    · cases e1
    cases e1
    have hbx : bx ≠ b := fun e => by
      subst e
      exact hik (hs.inj id k _ _ bx hid hk (by simp) (by simp) hmx hm)
    have b1 := e4.bound
    have b2 := f4.bound
    simp only [List.length_singleton] at b2
    have hg : insG lo [.slice (some ⟨b, 0 * 13, none⟩) els.length 13, .int .i64 0, .slice (some ⟨bx, 0 * 13, none⟩) 1 13] h =
        some (.slice (some ⟨h.n, 0, none⟩) (els.length + 1) 13, (h.put b none).push ⟨true, vx.take 13 ++ vs.take (els.length * 13)⟩) := by
      simp only [insG, H.getK_eq, e3, f3]
      rw [if_pos ⟨trivial, hne, hle, trivial, trivial, trivial, e2, trivial, hbx, by omega, by omega⟩]
      simp
    obtain ⟨g1, g2⟩ := hs.set (e' := .dead) (x := none) hk (by simp) hm trivial
    have hRk : ∀ c, R c → (h.put b none).get c = h.get c := fun c hc => H.get_put_ne _ (H.get_lt e3) fun he' => by
      subst he'; exact hs.own c ⟨_, _, hk, by simp, hm⟩ hc
    have l1 := (e4.mono (fun _ h => h) hRk).sub (a := 0) (n := els.length) (by omega)
    have l2 := (f4.mono (fun _ h => h) hRk).sub (a := 0) (n := 1) (by simp)
    simp only [List.drop_zero, List.take_length, Nat.zero_mul, Nat.add_zero] at l1 l2
    have hat : L2 (PRep R (h.put b none)) (x :: els).flatten (vx.take 13 ++ vs.take (els.length * 13)) := by
      have a1 := l2.at_
      have a2 := l1.at_
      simp only [List.take_succ_cons, List.take_zero, List.length_singleton, Nat.one_mul, List.drop_zero] at a1 a2
      have := a1.append a2
      simpa using this
    obtain ⟨m', p1, p2, p3, p4⟩ := made_row g1 (sz := 13) (by decide) (els := x :: els) (fun cs hc => by
      rcases List.mem_cons.mp hc with rfl | hc
      · exact f4.each _ (by simp)
      · exact e4.each _ hc) hat
    rw [show (s.set k Ent.dead).length = s.length by simp] at p2
    refine WCall_told told61 (v := .slice (some ⟨h.n, 0, none⟩) (els.length + 1) 13) (h' := (h.put b none).push ⟨true, vx.take 13 ++ vs.take (els.length * 13)⟩) hg ⟨m', R, _, _, hK, ?_, ?_, ?_, p4, fun hd => by cases hd⟩
    · exact p1
    · exact p2
    · exact g2.trans p3
section
variable {pin : Nat} {e : List YV} {fs : List Fr} {Q : Post} {gs : List (Option Nat)} {rest : List Oper} {d : Option Nat}
theorem Rcall_ins_nil {x : List PC} {id : Nat} {s : Sto} (hid : s[id]? = some (.row 13 [x])) (hK : Rg C1 pin false gs rest fs Q (yput e d (.c (.own s.length 13 0 1))) (s ++ [.row 13 [x]])) :
    Rcall C1 pin false gs d rest fs Q e 61 [.c (.p (.d (.slice none 0 0))), yd (.int .i64 0), .c (.own id 13 0 1)] s := insert_nil (K := fun v s => Rg C1 pin false gs rest fs Q (yput e d v) s) hid hK
theorem Rcall_ins_own {x : List PC} {els : List (List PC)} {k id n : Nat} {s : Sto} (hn : els.length = n) (hk : s[k]? = some (.row 13 els)) (hne : 0 < n) (hle : n ≤ 1000000) (hid : s[id]? = some (.row 13 [x])) (hik : id ≠ k)
    (hK : Rg C1 pin false gs rest fs Q (yput e d (.c (.own s.length 13 0 (n + 1)))) (s.set k .dead ++ [.row 13 (x :: els)])) :
    Rcall C1 pin false gs d rest fs Q e 61 [.c (.own k 13 0 n), yd (.int .i64 0), .c (.own id 13 0 1)] s := by
  subst hn
  exact insert_own (K := fun v s => Rg C1 pin false gs rest fs Q (yput e d v) s) hk hne hle hid hik hK
end
end Go.Vx.Seat
end
/- A run of what is passed over: the program's. -/
section
open Go Go.Vx Go.Proofs
set_option linter.unusedSimpArgs false
set_option linter.unusedVariables false
set_option maxRecDepth 10000
set_option maxHeartbeats 4000000
namespace Go.Vx.Seat
attribute [local congr] Rg_at Rt_at Ro_at Ri_at Rc_at Rto_at Rtk_at Rtf_at Rti_at
attribute [local irreducible] Rg Rt Ro Ri Rc Rto Rtk Rtf Rti Rw Rl Rd Rcall Rtcall kf
theorem fn40 : nth C1.P.funcs.toList 40 = some Try.f40 := by kernel_rfl
/-- What the program reads, and what it has so far. -/
def rdC (ts : List Tok) (cols : List Int) (id n : Nat) : List Ce := [.p (rT ts), .p (rI cols), .own id 13 0 n]
def kV : List Tok → YV
  | [] => .c (.p (.d (.slice none 0 0)))
  | t :: l => .c (.own 2 13 0 (l.length + 1))
def kE : List Tok → Ent
  | [] => .dead
  | t :: l => .row 13 ((t :: l).map Tok.pc)
theorem contains7 (cs : List Int) (n k : Int) : (cs.contains n || [19, 20, 21, 2, 23, 18, 17].contains k) = (opens7 k || cs.contains n) := by
  rw [Bool.or_comm]; congr 1; rw [Bool.eq_iff_iff]; simp [opens7, eqI_eq]
theorem contains6 (cs : List Int) (n k : Int) : (cs.contains n || [19, 20, 22, 24, 18, 17].contains k) = (shuts6 k || cs.contains n) := by
  rw [Bool.or_comm]; congr 1; rw [Bool.eq_iff_iff]; simp [shuts6, eqI_eq]
theorem bor3 {ts out : List Tok} {cols kinds : List Int} {s : Sto} {id k : Nat} {x : Int} (h0 : nth s 0 = some (.box [.p (rT ts), .p (rI cols), .own 1 13 0 out.length])) (h1 : nth s 1 = some (.row 13 (out.map Tok.pc)))
    (h2 : nth s id = some (.row 1 (kinds.map ei))) (hk : kinds.length = k) : List.map (borV s) [.c (.ptr 0 0 0 0), yd (.int .i64 x), .c (.own id 1 0 k)] = [.c (.rp (rb ts cols (rT out))), yd (.int .i64 x), .c (.p (rI kinds))] := by
  subst hk
  simp [borV, borC, ycells, yrow, h0, h1, h2, pcs, rb, List.take_of_length_le]
theorem runC_spec (ts : List Tok) (cols : List Int) (out : List Tok) (i kk : Nat) (hik : i ≤ kk) (hk : kk ≤ ts.length) (hl : ts.length ≤ 1000000) (hc : cols.length ≤ 1000000) (hr : Rising cols) (ho : out.length ≤ 1000000) (htx : ∀ t, t ∈ ts → (strOf t.text).length ≤ 100000000) :
    YC C1 false 40 [.c (.ptr 0 0 0 0), yd (.int .i64 i), yd (.int .i64 kk)] [.box (rdC ts cols 1 out.length), .row 13 (out.map Tok.pc)] fun y s =>
      s = [.box (rdC ts cols 2 (out ++ runOut ts cols i kk).length), .dead, .row 13 ((out ++ runOut ts cols i kk).map Tok.pc)] := by
  refine Yf0 [] (by rfl) (by rfl) fn40 (by rfl) ?_
  simp only [Try.f40, List.length_cons, List.length_nil, List.replicate, List.cons_append, List.nil_append]
  unfold rdC
  simp -implicitDefEqProofs only [↓yP, yT, Nat.reduceAdd, Nat.reduceMul, Nat.reduceSub, Nat.reduceLeDiff, Nat.reduceEqDiff, reduceCtorEq, Nat.reduceBEq]
  refine Rl_inv (fun d e s => ∃ (m : Nat), e = ([.c (.ptr 0 0 0 0), yd (.int .i64 i), yd (.int .i64 kk), .c .top, .c .top, .c .top, kV (keptN ts i m), yd (.int .i64 (encS (spaceN ts i m))), yd (.int .i64 ((i + m : Nat) : Int)), .c .top, .c .top, .c .top, .c .top, .c .top, .c .top, .c .top, .c .top, .c .top, .c .top, .c .top, .c .top, .c .top, .c .top, .c .top, .c .top, .c .top, .c .top, .c .top, .c .top, .c .top, .c .top, .c .top, .c .top, .c .top, .c .top, .c .top, .c .top, .c .top, .c .top, .c .top, .c .top, .c .top, .c .top, .c .top, .c .top, .c .top, .c .top, .c .top, .c .top, .c .top, .c .top, .c .top, .c .top, .c .top, .c .top, .c .top, .c .top, .c .top, .c .top, .c .top, .c .top, .c .top, .c .top, .c .top, .c .top, .c .top, .c .top, .c .top, .c .top, .c .top, .c .top, .c .top, .c .top, .c .top, .c .top, .c .top, .c .top, .c .top, .c .top, .c .top, .c .top, .c .top, .c .top, .c .top, .c .top, .c .top, .c .top, .c .top, .c .top, .c .top, .c .top, .c .top, .c .top, .c .top, .c .top, .c .top, .c .top, .c .top, .c .top, .c .top, .c .top, .c .top, .c .top, .c .top, .c .top, .c .top, .c .top]) ∧ s = [.box (rdC ts cols 1 out.length), .row 13 (out.map Tok.pc), kE (keptN ts i m)] ∧ m + d = kk - i)
    [true, true, true, false, false, false, true, true, true] (kk - i) [0, 1, 2] (by decide) (pinned_two _) ⟨0, by (simp only [yE, Nat.reduceEqDiff, Nat.reduceAdd, reduceCtorEq]; try rfl), by (simp only [yE, Nat.reduceEqDiff, Nat.reduceAdd, reduceCtorEq]; try rfl), by omega⟩ ?_
  rintro d e s ⟨m, rfl, rfl, hd⟩
  unfold rdC
  cases hkn : keptN ts i m with
  | nil =>
    simp only [kV, kE]
    by_cases hk : m < kk - i
    · obtain ⟨t, ht⟩ := get_lt (l := ts) (i := i + m) (by omega)
      have t1 : leI (kk : Nat) ((i + m : Nat) : Int) = false := leI_false (by omega)
      have w1 : wrapK .i64 (((i + m : Nat) : Int) + 1) = ((i + m + 1 : Nat) : Int) := wrap_succ (by omega)
      have hks1 : keptN ts i (m + 1) = keptN ts i m ++ (if kp t then [t] else []) := by rw [keptN, ht]
      have hsp1 : spaceN ts i (m + 1) = (match spaceN ts i m with | some k => some k | none => if eqI t.kind 13 then some (i + m) else none) := by rw [spaceN, ht]; cases spaceN ts i m <;> rfl
      simp -implicitDefEqProofs only [↓yP, yT, Nat.reduceAdd, Nat.reduceMul, Nat.reduceSub, Nat.reduceLeDiff, Nat.reduceEqDiff, reduceCtorEq, Nat.reduceBEq, t1, get_map ht, Tok.pc]
      cases q1 : eqI t.kind 13 with
      | true =>
        have q2 : eqI t.kind 25 = false := eqI_false (by have : t.kind = 13 := by rw [eqI_eq, decide_eq_true_eq] at q1; exact q1
                                                         omega)
        have hkp : kp t = false := by rw [kp, q2]; rfl
        rw [hkp] at hks1
        rw [q1] at hsp1
        simp only [Bool.false_eq_true, if_false, List.append_nil] at hks1
        cases hsn : spaceN ts i m with
        | none =>
          rw [hsn] at hsp1
          have s0 : leI 0 (-1) = false := rfl
          simp only [encS]
          simp -implicitDefEqProofs only [↓yP, yT, Nat.reduceAdd, Nat.reduceMul, Nat.reduceSub, Nat.reduceLeDiff, Nat.reduceEqDiff, reduceCtorEq, Nat.reduceBEq, q1, q2, s0, w1]
          refine ⟨d - 1, [0, 1, 2], by omega, by decide, pinned_two _, m + 1, ?_, ?_, by omega⟩
          · simp only [hks1, hsp1, hkn, encS, if_true]; (simp only [yE, Nat.reduceEqDiff, Nat.reduceAdd, reduceCtorEq]; try rfl)
          · simp only [hks1, hkn, kE]; (simp only [yE, Nat.reduceEqDiff, Nat.reduceAdd, reduceCtorEq]; try rfl)
        | some n =>
          rw [hsn] at hsp1
          have s0 : leI 0 ((n : Nat) : Int) = true := leI_true (by omega)
          simp only [encS]
          simp -implicitDefEqProofs only [↓yP, yT, Nat.reduceAdd, Nat.reduceMul, Nat.reduceSub, Nat.reduceLeDiff, Nat.reduceEqDiff, reduceCtorEq, Nat.reduceBEq, q1, q2, s0, w1]
          refine ⟨d - 1, [0, 1, 2], by omega, by decide, pinned_two _, m + 1, ?_, ?_, by omega⟩
          · simp only [hks1, hsp1, hkn, encS]; (simp only [yE, Nat.reduceEqDiff, Nat.reduceAdd, reduceCtorEq]; try rfl)
          · simp only [hks1, hkn, kE]; (simp only [yE, Nat.reduceEqDiff, Nat.reduceAdd, reduceCtorEq]; try rfl)
      | false =>
        rw [q1] at hsp1
        have hsp2 : spaceN ts i (m + 1) = spaceN ts i m := by rw [hsp1]; cases spaceN ts i m <;> rfl
        cases q2 : eqI t.kind 25 with
        | true =>
          simp -implicitDefEqProofs only [↓yP, yT, Nat.reduceAdd, Nat.reduceMul, Nat.reduceSub, Nat.reduceLeDiff, Nat.reduceEqDiff, reduceCtorEq, Nat.reduceBEq, q1, q2]
          refine Rcall_pure (keepsC_spec t.text (htx t (List.mem_of_getElem? ht))) (by rfl) fun y hy => ?_
          subst hy
          cases hkb : keepB t.text with
          | true =>
            have hkp : kp t = true := by rw [kp, q2, hkb]; rfl
            rw [hkp] at hks1
            simp only [if_true] at hks1
            simp -implicitDefEqProofs only [↓yP, yT, Nat.reduceAdd, Nat.reduceMul, Nat.reduceSub, Nat.reduceLeDiff, Nat.reduceEqDiff, reduceCtorEq, Nat.reduceBEq, w1, Nat.reduceLeDiff]
            refine ⟨d - 1, [0, 1, 5], by omega, by decide, pinned_two _, m + 1, ?_, ?_, by omega⟩
            · simp only [hks1, hsp2, hkn, kV, List.nil_append, List.length_cons, List.cons_append, List.length_append, List.length_nil]; (simp only [yE, Nat.reduceEqDiff, Nat.reduceAdd, reduceCtorEq]; try rfl)
            · simp only [hks1, hkn, kE, List.nil_append, List.map_append, List.map_cons, List.map_nil, List.cons_append]; (simp only [yE, Nat.reduceEqDiff, Nat.reduceAdd, reduceCtorEq]; try rfl)
          | false =>
            have hkp : kp t = false := by rw [kp, q2, hkb]; rfl
            rw [hkp] at hks1
            simp only [Bool.false_eq_true, if_false, List.append_nil] at hks1
            simp -implicitDefEqProofs only [↓yP, yT, Nat.reduceAdd, Nat.reduceMul, Nat.reduceSub, Nat.reduceLeDiff, Nat.reduceEqDiff, reduceCtorEq, Nat.reduceBEq, w1]
            refine ⟨d - 1, [0, 1, 2], by omega, by decide, pinned_two _, m + 1, ?_, ?_, by omega⟩
            · simp only [hks1, hsp2, hkn]; (simp only [yE, Nat.reduceEqDiff, Nat.reduceAdd, reduceCtorEq]; try rfl)
            · simp only [hks1, hkn, kE]; (simp only [yE, Nat.reduceEqDiff, Nat.reduceAdd, reduceCtorEq]; try rfl)
        | false =>
          have hkp : kp t = false := by rw [kp, q2]; rfl
          rw [hkp] at hks1
          simp only [Bool.false_eq_true, if_false, List.append_nil] at hks1
          simp -implicitDefEqProofs only [↓yP, yT, Nat.reduceAdd, Nat.reduceMul, Nat.reduceSub, Nat.reduceLeDiff, Nat.reduceEqDiff, reduceCtorEq, Nat.reduceBEq, q1, q2, w1]
          refine ⟨d - 1, [0, 1, 2], by omega, by decide, pinned_two _, m + 1, ?_, ?_, by omega⟩
          · simp only [hks1, hsp2, hkn]; (simp only [yE, Nat.reduceEqDiff, Nat.reduceAdd, reduceCtorEq]; try rfl)
          · simp only [hks1, hkn, kE]; (simp only [yE, Nat.reduceEqDiff, Nat.reduceAdd, reduceCtorEq]; try rfl)
    · have hm : m = kk - i := by omega
      subst hm
      have t1 : leI (kk : Nat) ((i + (kk - i) : Nat) : Int) = true := leI_true (by omega)
      have hkn2 : 0 ≤ 1000000 := by
        have hkl := kept_le ts i (kk - i)
        rw [hkn] at hkl
        simp only [List.length_cons, List.length_nil] at hkl
        omega
      have b0 : out.length * 128 ≤ 70368744177664 := bytes_le out.length 0 (by omega) (by omega)
      have b3 : (out.length + (0)) * 128 ≤ 70368744177664 := bytes_le _ _ (by omega) (by omega)
      have b4 : (out.length + (0 + 1)) * 128 ≤ 70368744177664 := bytes_le _ _ (by omega) (by omega)
      have b5 : (0 + 1) * 128 ≤ 70368744177664 := bytes_le _ _ (by omega) (by omega)
      cases hsn : spaceN ts i (kk - i) with
      | none =>
        have s0 : leI 0 (-1) = false := rfl
        have hro : runOut ts cols i kk = [] := by rw [runOut, hsn, hkn]
        simp only [encS]
        simp -implicitDefEqProofs only [↓yP, yT, Nat.reduceAdd, Nat.reduceMul, Nat.reduceSub, Nat.reduceLeDiff, Nat.reduceEqDiff, reduceCtorEq, Nat.reduceBEq, t1, s0, b0, b3]
        refine ⟨.inl trivial, [0, 1, 4], by decide, pinned_two _, ?_⟩
        simp only [hro, rdC, List.map_append, List.map_cons, List.map_nil, List.length_append, List.length_cons, List.length_nil, List.append_nil, List.append_assoc, List.cons_append, List.nil_append, Nat.add_zero, Nat.zero_add]
        (simp only [yE, Nat.reduceEqDiff, Nat.reduceAdd, reduceCtorEq]; try rfl)
      | some n =>
        obtain ⟨n1, n2, n3, n4⟩ := space_lt hsn
        obtain ⟨tn, htn⟩ := get_lt n3
        have hfr : fromAt ts n = tn.start := by rw [fromAt, htn]
        have s0 : leI 0 ((n : Nat) : Int) = true := leI_true (by omega)
        simp only [encS]
        simp -implicitDefEqProofs only [↓yP, yT, Nat.reduceAdd, Nat.reduceMul, Nat.reduceSub, Nat.reduceLeDiff, Nat.reduceEqDiff, reduceCtorEq, Nat.reduceBEq, t1, s0, get_map htn, Tok.pc]
        cases i with
        | zero =>
          have z0 : leI ((0 : Nat) : Int) 0 = true := rfl
          have w0 : wrapK .i64 (((0 : Nat) : Int) - 1) = -1 := by rw [show (((0 : Nat) : Int) - 1) = -1 from rfl]; exact wrap_int (by decide) (by decide)
          simp -implicitDefEqProofs only [↓yP, yT, Nat.reduceAdd, Nat.reduceMul, Nat.reduceSub, Nat.reduceLeDiff, Nat.reduceEqDiff, reduceCtorEq, Nat.reduceBEq, z0, w0, Nat.reduceLT]
          refine Rcall_lend (bor3 (kinds := [19, 20, 21, 2, 23, 18, 17]) (by rfl) (by rfl) (by rfl) (by rfl)) (goes_out ts cols _ _ (-1) (.inl (by decide))) (by rfl) fun y hy => ⟨by rw [hy]; rfl, ?_⟩
          subst hy
          have hro : runOut ts cols 0 kk = [] := by rw [runOut, hsn, hkn]; rfl
          simp -implicitDefEqProofs only [↓yP, yT, Nat.reduceAdd, Nat.reduceMul, Nat.reduceSub, Nat.reduceLeDiff, Nat.reduceEqDiff, reduceCtorEq, Nat.reduceBEq, b0, b3]
          refine ⟨.inl trivial, [0, 1, 5], by decide, pinned_two _, ?_⟩
          simp only [hro, rdC, List.map_append, List.map_cons, List.map_nil, List.length_append, List.length_cons, List.length_nil, List.append_nil, List.append_assoc, List.cons_append, List.nil_append, Nat.add_zero, Nat.zero_add]
          (simp only [yE, Nat.reduceEqDiff, Nat.reduceAdd, reduceCtorEq]; try rfl)
        | succ j =>
          have z0 : leI ((j + 1 : Nat) : Int) 0 = false := leI_false (by omega)
          have w0 : wrapK .i64 (((j + 1 : Nat) : Int) - 1) = ((j : Nat) : Int) := wrap_pred (i := j + 1) (by omega) (by omega)
          obtain ⟨tj, htj⟩ := get_lt (l := ts) (i := j) (by omega)
          simp -implicitDefEqProofs only [↓yP, yT, Nat.reduceAdd, Nat.reduceMul, Nat.reduceSub, Nat.reduceLeDiff, Nat.reduceEqDiff, reduceCtorEq, Nat.reduceBEq, z0, w0, get_map htj, Tok.pc]
          refine Rcall_pure (must_spec tj) (by rfl) fun y hy => ?_
          subst hy
          cases hlb : lineB tj with
          | true =>
            have hro : runOut ts cols (j + 1) kk = blankTok ⟨#[10]⟩ tn.start :: [] := by rw [runOut, hsn]; simp only [lineAt, htj, hlb, if_true, hkn, hfr]
            simp -implicitDefEqProofs only [↓yP, yT, Nat.reduceAdd, Nat.reduceMul, Nat.reduceSub, Nat.reduceLeDiff, Nat.reduceEqDiff, reduceCtorEq, Nat.reduceBEq]
            refine Rcall_ins_nil rfl ?_
            simp -implicitDefEqProofs only [↓yP, yT, Nat.reduceAdd, Nat.reduceMul, Nat.reduceSub, Nat.reduceLeDiff, Nat.reduceEqDiff, reduceCtorEq, Nat.reduceBEq, b4]
            refine ⟨.inl trivial, [0, 1, 6], by decide, pinned_two _, ?_⟩
            simp only [hro, rdC, List.map_append, List.map_cons, List.map_nil, List.length_append, List.length_cons, List.length_nil, List.append_nil, List.append_assoc, List.cons_append, List.nil_append, Nat.add_zero, Nat.zero_add]
            (simp only [yE, Nat.reduceEqDiff, Nat.reduceAdd, reduceCtorEq]; try rfl)
          | false =>
            have hln : lineAt ts (j + 1) = false := by simp only [lineAt, htj, hlb]
            have hgb : (cols.contains ((j : Nat) : Int) || [19, 20, 21, 2, 23, 18, 17].contains tj.kind) = goBef ts cols (j + 1) := by rw [goBef, befB, htj, contains7]
            simp -implicitDefEqProofs only [↓yP, yT, Nat.reduceAdd, Nat.reduceMul, Nat.reduceSub, Nat.reduceLeDiff, Nat.reduceEqDiff, reduceCtorEq, Nat.reduceBEq, w0, Nat.reduceLT]
            refine Rcall_lend (bor3 (kinds := [19, 20, 21, 2, 23, 18, 17]) (by rfl) (by rfl) (by rfl) (by rfl)) (goes_in ts cols _ _ j tj htj hl hc hr (by decide)) (by rfl) fun y hy => ⟨by rw [hy]; rfl, ?_⟩
            subst hy
            rw [hgb]
            cases hg1 : goBef ts cols (j + 1) with
            | true =>
              have hro : runOut ts cols (j + 1) kk = [] := by rw [runOut, hsn]; simp only [hln, hg1, Bool.true_or, if_true, hkn, Bool.false_eq_true, if_false]
              simp -implicitDefEqProofs only [↓yP, yT, Nat.reduceAdd, Nat.reduceMul, Nat.reduceSub, Nat.reduceLeDiff, Nat.reduceEqDiff, reduceCtorEq, Nat.reduceBEq, b0, b3]
              refine ⟨.inl trivial, [0, 1, 5], by decide, pinned_two _, ?_⟩
              simp only [hro, rdC, List.map_append, List.map_cons, List.map_nil, List.length_append, List.length_cons, List.length_nil, List.append_nil, List.append_assoc, List.cons_append, List.nil_append, Nat.add_zero, Nat.zero_add]
              (simp only [yE, Nat.reduceEqDiff, Nat.reduceAdd, reduceCtorEq]; try rfl)
            | false =>
              simp -implicitDefEqProofs only [↓yP, yT, Nat.reduceAdd, Nat.reduceMul, Nat.reduceSub, Nat.reduceLeDiff, Nat.reduceEqDiff, reduceCtorEq, Nat.reduceBEq, Nat.reduceLT]
              by_cases hke : kk = ts.length
              · refine Rcall_lend (bor3 (kinds := [19, 20, 22, 24, 18, 17]) (by rfl) (by rfl) (by rfl) (by rfl)) (goes_out ts cols _ _ ((kk : Nat) : Int) (.inr (by omega))) (by rfl) fun y hy => ⟨by rw [hy]; rfl, ?_⟩
                subst hy
                have hga : aftB ts cols kk = true := by rw [aftB, List.getElem?_eq_none (by omega)]
                have hro : runOut ts cols (j + 1) kk = [] := by rw [runOut, hsn]; simp only [hln, hg1, hga, Bool.or_true, if_true, hkn, Bool.false_eq_true, if_false]
                simp -implicitDefEqProofs only [↓yP, yT, Nat.reduceAdd, Nat.reduceMul, Nat.reduceSub, Nat.reduceLeDiff, Nat.reduceEqDiff, reduceCtorEq, Nat.reduceBEq, b0, b3]
                refine ⟨.inl trivial, [0, 1, 6], by decide, pinned_two _, ?_⟩
                simp only [hro, rdC, List.map_append, List.map_cons, List.map_nil, List.length_append, List.length_cons, List.length_nil, List.append_nil, List.append_assoc, List.cons_append, List.nil_append, Nat.add_zero, Nat.zero_add]
                (simp only [yE, Nat.reduceEqDiff, Nat.reduceAdd, reduceCtorEq]; try rfl)
              · obtain ⟨tk, htk⟩ := get_lt (l := ts) (i := kk) (by omega)
                have hgb2 : (cols.contains ((kk : Nat) : Int) || [19, 20, 22, 24, 18, 17].contains tk.kind) = aftB ts cols kk := by rw [aftB, htk, contains6]
                refine Rcall_lend (bor3 (kinds := [19, 20, 22, 24, 18, 17]) (by rfl) (by rfl) (by rfl) (by rfl)) (goes_in ts cols _ _ kk tk htk hl hc hr (by decide)) (by rfl) fun y hy => ⟨by rw [hy]; rfl, ?_⟩
                subst hy
                rw [hgb2]
                cases hga : aftB ts cols kk with
                | true =>
                  have hro : runOut ts cols (j + 1) kk = [] := by rw [runOut, hsn]; simp only [hln, hg1, hga, Bool.or_true, if_true, hkn, Bool.false_eq_true, if_false]
                  simp -implicitDefEqProofs only [↓yP, yT, Nat.reduceAdd, Nat.reduceMul, Nat.reduceSub, Nat.reduceLeDiff, Nat.reduceEqDiff, reduceCtorEq, Nat.reduceBEq, b0, b3]
                  refine ⟨.inl trivial, [0, 1, 6], by decide, pinned_two _, ?_⟩
                  simp only [hro, rdC, List.map_append, List.map_cons, List.map_nil, List.length_append, List.length_cons, List.length_nil, List.append_nil, List.append_assoc, List.cons_append, List.nil_append, Nat.add_zero, Nat.zero_add]
                  (simp only [yE, Nat.reduceEqDiff, Nat.reduceAdd, reduceCtorEq]; try rfl)
                | false =>
                  have hro : runOut ts cols (j + 1) kk = [] ++ [blankTok ⟨#[32]⟩ tn.start] := by rw [runOut, hsn]; simp only [hln, hg1, hga, Bool.or_self, hkn, hfr, Bool.false_eq_true, if_false]
                  simp -implicitDefEqProofs only [↓yP, yT, Nat.reduceAdd, Nat.reduceMul, Nat.reduceSub, Nat.reduceLeDiff, Nat.reduceEqDiff, reduceCtorEq, Nat.reduceBEq, b5, b4]
                  refine ⟨.inl trivial, [0, 1, 8], by decide, pinned_two _, ?_⟩
                  simp only [hro, rdC, List.map_append, List.map_cons, List.map_nil, List.length_append, List.length_cons, List.length_nil, List.append_nil, List.append_assoc, List.cons_append, List.nil_append, Nat.add_zero, Nat.zero_add]
                  (simp only [yE, Nat.reduceEqDiff, Nat.reduceAdd, reduceCtorEq]; try rfl)
  | cons u l =>
    have hkl := kept_le ts i m
    rw [hkn] at hkl
    simp only [List.length_cons] at hkl
    have b1 : (l.length + 1 + 1) * 128 ≤ 70368744177664 := bytes_le _ 1 (by omega) (by omega)
    simp only [kV, kE]
    by_cases hk : m < kk - i
    · obtain ⟨t, ht⟩ := get_lt (l := ts) (i := i + m) (by omega)
      have t1 : leI (kk : Nat) ((i + m : Nat) : Int) = false := leI_false (by omega)
      have w1 : wrapK .i64 (((i + m : Nat) : Int) + 1) = ((i + m + 1 : Nat) : Int) := wrap_succ (by omega)
      have hks1 : keptN ts i (m + 1) = keptN ts i m ++ (if kp t then [t] else []) := by rw [keptN, ht]
      have hsp1 : spaceN ts i (m + 1) = (match spaceN ts i m with | some k => some k | none => if eqI t.kind 13 then some (i + m) else none) := by rw [spaceN, ht]; cases spaceN ts i m <;> rfl
      simp -implicitDefEqProofs only [↓yP, yT, Nat.reduceAdd, Nat.reduceMul, Nat.reduceSub, Nat.reduceLeDiff, Nat.reduceEqDiff, reduceCtorEq, Nat.reduceBEq, t1, get_map ht, Tok.pc]
      cases q1 : eqI t.kind 13 with
      | true =>
        have q2 : eqI t.kind 25 = false := eqI_false (by have : t.kind = 13 := by rw [eqI_eq, decide_eq_true_eq] at q1; exact q1
                                                         omega)
        have hkp : kp t = false := by rw [kp, q2]; rfl
        rw [hkp] at hks1
        rw [q1] at hsp1
        simp only [Bool.false_eq_true, if_false, List.append_nil] at hks1
        cases hsn : spaceN ts i m with
        | none =>
          rw [hsn] at hsp1
          have s0 : leI 0 (-1) = false := rfl
          simp only [encS]
          simp -implicitDefEqProofs only [↓yP, yT, Nat.reduceAdd, Nat.reduceMul, Nat.reduceSub, Nat.reduceLeDiff, Nat.reduceEqDiff, reduceCtorEq, Nat.reduceBEq, q1, q2, s0, w1]
          refine ⟨d - 1, [0, 1, 2], by omega, by decide, pinned_two _, m + 1, ?_, ?_, by omega⟩
          · simp only [hks1, hsp1, hkn, encS, if_true]; (simp only [yE, Nat.reduceEqDiff, Nat.reduceAdd, reduceCtorEq]; try rfl)
          · simp only [hks1, hkn, kE]; (simp only [yE, Nat.reduceEqDiff, Nat.reduceAdd, reduceCtorEq]; try rfl)
        | some n =>
          rw [hsn] at hsp1
          have s0 : leI 0 ((n : Nat) : Int) = true := leI_true (by omega)
          simp only [encS]
          simp -implicitDefEqProofs only [↓yP, yT, Nat.reduceAdd, Nat.reduceMul, Nat.reduceSub, Nat.reduceLeDiff, Nat.reduceEqDiff, reduceCtorEq, Nat.reduceBEq, q1, q2, s0, w1]
          refine ⟨d - 1, [0, 1, 2], by omega, by decide, pinned_two _, m + 1, ?_, ?_, by omega⟩
          · simp only [hks1, hsp1, hkn, encS]; (simp only [yE, Nat.reduceEqDiff, Nat.reduceAdd, reduceCtorEq]; try rfl)
          · simp only [hks1, hkn, kE]; (simp only [yE, Nat.reduceEqDiff, Nat.reduceAdd, reduceCtorEq]; try rfl)
      | false =>
        rw [q1] at hsp1
        have hsp2 : spaceN ts i (m + 1) = spaceN ts i m := by rw [hsp1]; cases spaceN ts i m <;> rfl
        cases q2 : eqI t.kind 25 with
        | true =>
          simp -implicitDefEqProofs only [↓yP, yT, Nat.reduceAdd, Nat.reduceMul, Nat.reduceSub, Nat.reduceLeDiff, Nat.reduceEqDiff, reduceCtorEq, Nat.reduceBEq, q1, q2]
          refine Rcall_pure (keepsC_spec t.text (htx t (List.mem_of_getElem? ht))) (by rfl) fun y hy => ?_
          subst hy
          cases hkb : keepB t.text with
          | true =>
            have hkp : kp t = true := by rw [kp, q2, hkb]; rfl
            rw [hkp] at hks1
            simp only [if_true] at hks1
            simp -implicitDefEqProofs only [↓yP, yT, Nat.reduceAdd, Nat.reduceMul, Nat.reduceSub, Nat.reduceLeDiff, Nat.reduceEqDiff, reduceCtorEq, Nat.reduceBEq, w1, b1]
            refine ⟨d - 1, [0, 1, 5], by omega, by decide, pinned_two _, m + 1, ?_, ?_, by omega⟩
            · simp only [hks1, hsp2, hkn, kV, List.nil_append, List.length_cons, List.cons_append, List.length_append, List.length_nil]; (simp only [yE, Nat.reduceEqDiff, Nat.reduceAdd, reduceCtorEq]; try rfl)
            · simp only [hks1, hkn, kE, List.nil_append, List.map_append, List.map_cons, List.map_nil, List.cons_append]; (simp only [yE, Nat.reduceEqDiff, Nat.reduceAdd, reduceCtorEq]; try rfl)
          | false =>
            have hkp : kp t = false := by rw [kp, q2, hkb]; rfl
            rw [hkp] at hks1
            simp only [Bool.false_eq_true, if_false, List.append_nil] at hks1
            simp -implicitDefEqProofs only [↓yP, yT, Nat.reduceAdd, Nat.reduceMul, Nat.reduceSub, Nat.reduceLeDiff, Nat.reduceEqDiff, reduceCtorEq, Nat.reduceBEq, w1]
            refine ⟨d - 1, [0, 1, 2], by omega, by decide, pinned_two _, m + 1, ?_, ?_, by omega⟩
            · simp only [hks1, hsp2, hkn]; (simp only [yE, Nat.reduceEqDiff, Nat.reduceAdd, reduceCtorEq]; try rfl)
            · simp only [hks1, hkn, kE]; (simp only [yE, Nat.reduceEqDiff, Nat.reduceAdd, reduceCtorEq]; try rfl)
        | false =>
          have hkp : kp t = false := by rw [kp, q2]; rfl
          rw [hkp] at hks1
          simp only [Bool.false_eq_true, if_false, List.append_nil] at hks1
          simp -implicitDefEqProofs only [↓yP, yT, Nat.reduceAdd, Nat.reduceMul, Nat.reduceSub, Nat.reduceLeDiff, Nat.reduceEqDiff, reduceCtorEq, Nat.reduceBEq, q1, q2, w1]
          refine ⟨d - 1, [0, 1, 2], by omega, by decide, pinned_two _, m + 1, ?_, ?_, by omega⟩
          · simp only [hks1, hsp2, hkn]; (simp only [yE, Nat.reduceEqDiff, Nat.reduceAdd, reduceCtorEq]; try rfl)
          · simp only [hks1, hkn, kE]; (simp only [yE, Nat.reduceEqDiff, Nat.reduceAdd, reduceCtorEq]; try rfl)
    · have hm : m = kk - i := by omega
      subst hm
      have t1 : leI (kk : Nat) ((i + (kk - i) : Nat) : Int) = true := leI_true (by omega)
      have hkn2 : (l.length + 1) ≤ 1000000 := by
        have hkl := kept_le ts i (kk - i)
        rw [hkn] at hkl
        simp only [List.length_cons, List.length_nil] at hkl
        omega
      have b0 : out.length * 128 ≤ 70368744177664 := bytes_le out.length 0 (by omega) (by omega)
      have b3 : (out.length + ((l.length + 1))) * 128 ≤ 70368744177664 := bytes_le _ _ (by omega) (by omega)
      have b4 : (out.length + ((l.length + 1) + 1)) * 128 ≤ 70368744177664 := bytes_le _ _ (by omega) (by omega)
      have b5 : ((l.length + 1) + 1) * 128 ≤ 70368744177664 := bytes_le _ _ (by omega) (by omega)
      cases hsn : spaceN ts i (kk - i) with
      | none =>
        have s0 : leI 0 (-1) = false := rfl
        have hro : runOut ts cols i kk = (u :: l) := by rw [runOut, hsn, hkn]
        simp only [encS]
        simp -implicitDefEqProofs only [↓yP, yT, Nat.reduceAdd, Nat.reduceMul, Nat.reduceSub, Nat.reduceLeDiff, Nat.reduceEqDiff, reduceCtorEq, Nat.reduceBEq, t1, s0, b0, b3]
        refine ⟨.inl trivial, [0, 1, 4], by decide, pinned_two _, ?_⟩
        simp only [hro, rdC, List.map_append, List.map_cons, List.map_nil, List.length_append, List.length_cons, List.length_nil, List.append_nil, List.append_assoc, List.cons_append, List.nil_append, Nat.add_zero, Nat.zero_add]
        (simp only [yE, Nat.reduceEqDiff, Nat.reduceAdd, reduceCtorEq]; try rfl)
      | some n =>
        obtain ⟨n1, n2, n3, n4⟩ := space_lt hsn
        obtain ⟨tn, htn⟩ := get_lt n3
        have hfr : fromAt ts n = tn.start := by rw [fromAt, htn]
        have s0 : leI 0 ((n : Nat) : Int) = true := leI_true (by omega)
        simp only [encS]
        simp -implicitDefEqProofs only [↓yP, yT, Nat.reduceAdd, Nat.reduceMul, Nat.reduceSub, Nat.reduceLeDiff, Nat.reduceEqDiff, reduceCtorEq, Nat.reduceBEq, t1, s0, get_map htn, Tok.pc]
        cases i with
        | zero =>
          have z0 : leI ((0 : Nat) : Int) 0 = true := rfl
          have w0 : wrapK .i64 (((0 : Nat) : Int) - 1) = -1 := by rw [show (((0 : Nat) : Int) - 1) = -1 from rfl]; exact wrap_int (by decide) (by decide)
          simp -implicitDefEqProofs only [↓yP, yT, Nat.reduceAdd, Nat.reduceMul, Nat.reduceSub, Nat.reduceLeDiff, Nat.reduceEqDiff, reduceCtorEq, Nat.reduceBEq, z0, w0, Nat.reduceLT]
          refine Rcall_lend (bor3 (kinds := [19, 20, 21, 2, 23, 18, 17]) (by rfl) (by rfl) (by rfl) (by rfl)) (goes_out ts cols _ _ (-1) (.inl (by decide))) (by rfl) fun y hy => ⟨by rw [hy]; rfl, ?_⟩
          subst hy
          have hro : runOut ts cols 0 kk = (u :: l) := by rw [runOut, hsn, hkn]; rfl
          simp -implicitDefEqProofs only [↓yP, yT, Nat.reduceAdd, Nat.reduceMul, Nat.reduceSub, Nat.reduceLeDiff, Nat.reduceEqDiff, reduceCtorEq, Nat.reduceBEq, b0, b3]
          refine ⟨.inl trivial, [0, 1, 5], by decide, pinned_two _, ?_⟩
          simp only [hro, rdC, List.map_append, List.map_cons, List.map_nil, List.length_append, List.length_cons, List.length_nil, List.append_nil, List.append_assoc, List.cons_append, List.nil_append, Nat.add_zero, Nat.zero_add]
          (simp only [yE, Nat.reduceEqDiff, Nat.reduceAdd, reduceCtorEq]; try rfl)
        | succ j =>
          have z0 : leI ((j + 1 : Nat) : Int) 0 = false := leI_false (by omega)
          have w0 : wrapK .i64 (((j + 1 : Nat) : Int) - 1) = ((j : Nat) : Int) := wrap_pred (i := j + 1) (by omega) (by omega)
          obtain ⟨tj, htj⟩ := get_lt (l := ts) (i := j) (by omega)
          simp -implicitDefEqProofs only [↓yP, yT, Nat.reduceAdd, Nat.reduceMul, Nat.reduceSub, Nat.reduceLeDiff, Nat.reduceEqDiff, reduceCtorEq, Nat.reduceBEq, z0, w0, get_map htj, Tok.pc]
          refine Rcall_pure (must_spec tj) (by rfl) fun y hy => ?_
          subst hy
          cases hlb : lineB tj with
          | true =>
            have hro : runOut ts cols (j + 1) kk = blankTok ⟨#[10]⟩ tn.start :: (u :: l) := by rw [runOut, hsn]; simp only [lineAt, htj, hlb, if_true, hkn, hfr]
            simp -implicitDefEqProofs only [↓yP, yT, Nat.reduceAdd, Nat.reduceMul, Nat.reduceSub, Nat.reduceLeDiff, Nat.reduceEqDiff, reduceCtorEq, Nat.reduceBEq]
            refine Rcall_ins_own (by simp) rfl (by omega) (by omega) rfl (by decide) ?_
            simp -implicitDefEqProofs only [↓yP, yT, Nat.reduceAdd, Nat.reduceMul, Nat.reduceSub, Nat.reduceLeDiff, Nat.reduceEqDiff, reduceCtorEq, Nat.reduceBEq, b4]
            refine ⟨.inl trivial, [0, 1, 6], by decide, pinned_two _, ?_⟩
            simp only [hro, rdC, List.map_append, List.map_cons, List.map_nil, List.length_append, List.length_cons, List.length_nil, List.append_nil, List.append_assoc, List.cons_append, List.nil_append, Nat.add_zero, Nat.zero_add]
            (simp only [yE, Nat.reduceEqDiff, Nat.reduceAdd, reduceCtorEq]; try rfl)
          | false =>
            have hln : lineAt ts (j + 1) = false := by simp only [lineAt, htj, hlb]
            have hgb : (cols.contains ((j : Nat) : Int) || [19, 20, 21, 2, 23, 18, 17].contains tj.kind) = goBef ts cols (j + 1) := by rw [goBef, befB, htj, contains7]
            simp -implicitDefEqProofs only [↓yP, yT, Nat.reduceAdd, Nat.reduceMul, Nat.reduceSub, Nat.reduceLeDiff, Nat.reduceEqDiff, reduceCtorEq, Nat.reduceBEq, w0, Nat.reduceLT]
            refine Rcall_lend (bor3 (kinds := [19, 20, 21, 2, 23, 18, 17]) (by rfl) (by rfl) (by rfl) (by rfl)) (goes_in ts cols _ _ j tj htj hl hc hr (by decide)) (by rfl) fun y hy => ⟨by rw [hy]; rfl, ?_⟩
            subst hy
            rw [hgb]
            cases hg1 : goBef ts cols (j + 1) with
            | true =>
              have hro : runOut ts cols (j + 1) kk = (u :: l) := by rw [runOut, hsn]; simp only [hln, hg1, Bool.true_or, if_true, hkn, Bool.false_eq_true, if_false]
              simp -implicitDefEqProofs only [↓yP, yT, Nat.reduceAdd, Nat.reduceMul, Nat.reduceSub, Nat.reduceLeDiff, Nat.reduceEqDiff, reduceCtorEq, Nat.reduceBEq, b0, b3]
              refine ⟨.inl trivial, [0, 1, 5], by decide, pinned_two _, ?_⟩
              simp only [hro, rdC, List.map_append, List.map_cons, List.map_nil, List.length_append, List.length_cons, List.length_nil, List.append_nil, List.append_assoc, List.cons_append, List.nil_append, Nat.add_zero, Nat.zero_add]
              (simp only [yE, Nat.reduceEqDiff, Nat.reduceAdd, reduceCtorEq]; try rfl)
            | false =>
              simp -implicitDefEqProofs only [↓yP, yT, Nat.reduceAdd, Nat.reduceMul, Nat.reduceSub, Nat.reduceLeDiff, Nat.reduceEqDiff, reduceCtorEq, Nat.reduceBEq, Nat.reduceLT]
              by_cases hke : kk = ts.length
              · refine Rcall_lend (bor3 (kinds := [19, 20, 22, 24, 18, 17]) (by rfl) (by rfl) (by rfl) (by rfl)) (goes_out ts cols _ _ ((kk : Nat) : Int) (.inr (by omega))) (by rfl) fun y hy => ⟨by rw [hy]; rfl, ?_⟩
                subst hy
                have hga : aftB ts cols kk = true := by rw [aftB, List.getElem?_eq_none (by omega)]
                have hro : runOut ts cols (j + 1) kk = (u :: l) := by rw [runOut, hsn]; simp only [hln, hg1, hga, Bool.or_true, if_true, hkn, Bool.false_eq_true, if_false]
                simp -implicitDefEqProofs only [↓yP, yT, Nat.reduceAdd, Nat.reduceMul, Nat.reduceSub, Nat.reduceLeDiff, Nat.reduceEqDiff, reduceCtorEq, Nat.reduceBEq, b0, b3]
                refine ⟨.inl trivial, [0, 1, 6], by decide, pinned_two _, ?_⟩
                simp only [hro, rdC, List.map_append, List.map_cons, List.map_nil, List.length_append, List.length_cons, List.length_nil, List.append_nil, List.append_assoc, List.cons_append, List.nil_append, Nat.add_zero, Nat.zero_add]
                (simp only [yE, Nat.reduceEqDiff, Nat.reduceAdd, reduceCtorEq]; try rfl)
              · obtain ⟨tk, htk⟩ := get_lt (l := ts) (i := kk) (by omega)
                have hgb2 : (cols.contains ((kk : Nat) : Int) || [19, 20, 22, 24, 18, 17].contains tk.kind) = aftB ts cols kk := by rw [aftB, htk, contains6]
                refine Rcall_lend (bor3 (kinds := [19, 20, 22, 24, 18, 17]) (by rfl) (by rfl) (by rfl) (by rfl)) (goes_in ts cols _ _ kk tk htk hl hc hr (by decide)) (by rfl) fun y hy => ⟨by rw [hy]; rfl, ?_⟩
                subst hy
                rw [hgb2]
                cases hga : aftB ts cols kk with
                | true =>
                  have hro : runOut ts cols (j + 1) kk = (u :: l) := by rw [runOut, hsn]; simp only [hln, hg1, hga, Bool.or_true, if_true, hkn, Bool.false_eq_true, if_false]
                  simp -implicitDefEqProofs only [↓yP, yT, Nat.reduceAdd, Nat.reduceMul, Nat.reduceSub, Nat.reduceLeDiff, Nat.reduceEqDiff, reduceCtorEq, Nat.reduceBEq, b0, b3]
                  refine ⟨.inl trivial, [0, 1, 6], by decide, pinned_two _, ?_⟩
                  simp only [hro, rdC, List.map_append, List.map_cons, List.map_nil, List.length_append, List.length_cons, List.length_nil, List.append_nil, List.append_assoc, List.cons_append, List.nil_append, Nat.add_zero, Nat.zero_add]
                  (simp only [yE, Nat.reduceEqDiff, Nat.reduceAdd, reduceCtorEq]; try rfl)
                | false =>
                  have hro : runOut ts cols (j + 1) kk = (u :: l) ++ [blankTok ⟨#[32]⟩ tn.start] := by rw [runOut, hsn]; simp only [hln, hg1, hga, Bool.or_self, hkn, hfr, Bool.false_eq_true, if_false]
                  simp -implicitDefEqProofs only [↓yP, yT, Nat.reduceAdd, Nat.reduceMul, Nat.reduceSub, Nat.reduceLeDiff, Nat.reduceEqDiff, reduceCtorEq, Nat.reduceBEq, b5, b4]
                  refine ⟨.inl trivial, [0, 1, 8], by decide, pinned_two _, ?_⟩
                  simp only [hro, rdC, List.map_append, List.map_cons, List.map_nil, List.length_append, List.length_cons, List.length_nil, List.append_nil, List.append_assoc, List.cons_append, List.nil_append, Nat.add_zero, Nat.zero_add]
                  (simp only [yE, Nat.reduceEqDiff, Nat.reduceAdd, reduceCtorEq]; try rfl)
end Go.Vx.Seat
end
/- Of: what the program makes of tokens. -/
section
open Go Go.Vx Go.Proofs
set_option linter.unusedSimpArgs false
set_option linter.unusedVariables false
set_option maxRecDepth 10000
set_option maxHeartbeats 4000000
namespace Go.Vx.Seat
attribute [local congr] Rg_at Rt_at Ro_at Ri_at Rc_at Rto_at Rtk_at Rtf_at Rti_at
attribute [local irreducible] Rg Rt Ro Ri Rc Rto Rtk Rtf Rti Rw Rl Rd Rcall Rtcall kf
theorem fn17 : nth C1.P.funcs.toList 17 = some Try.f17 := by kernel_rfl
theorem filterUp (p : Nat → Bool) (n : Nat) : Rising (((List.range n).filter p).map fun i : Nat => (i : Int)) := by
  have hpw : ((List.range n).filter p).Pairwise (· < ·) := List.Pairwise.filter _ List.pairwise_lt_range
  intro i j a b hij ha hb
  rw [List.getElem?_map] at ha hb
  cases h1 : ((List.range n).filter p)[i]? with
  | none => rw [h1] at ha; cases ha
  | some x =>
    cases h2 : ((List.range n).filter p)[j]? with
    | none => rw [h2] at hb; cases hb
    | some y =>
      rw [h1] at ha; rw [h2] at hb
      cases ha; cases hb
      have li := lt_of_some h1
      have lj := lt_of_some h2
      have := List.pairwise_iff_getElem.mp hpw i j li lj hij
      rw [List.getElem?_eq_getElem li] at h1
      rw [List.getElem?_eq_getElem lj] at h2
      rw [Option.some.inj h1, Option.some.inj h2] at this
      show (x : Int) < (y : Int)
      omega
def ofP (ts : List Tok) : List Tok := valF ts (colonsP ts ts.length) 0
theorem runOut_length (ts : List Tok) (cols : List Int) (i m : Nat) : (runOut ts cols i (i + m)).length ≤ m := by
  have h := kept_length ts i m
  unfold runOut
  rw [Nat.add_sub_cancel_left]
  cases hs : spaceN ts i m with
  | none => rw [hs] at h; simpa using h
  | some n =>
    rw [hs] at h
    simp only at h ⊢
    split
    · simp; exact h
    · split
      · omega
      · simp; exact h
theorem of_spec (ts : List Tok) (hl : ts.length ≤ 900000) (htx : ∀ t, t ∈ ts → (strOf t.text).length ≤ 100000000) : PCall C1 17 [.c (.p (rT ts))] fun y => y = .c (.p (rT (ofP ts))) := by
  have hcl := colonsP_length ts ts.length
  have hrs : Rising (colonsP ts ts.length) := filterUp _ _
  unfold ofP
  generalize hcols : colonsP ts ts.length = cols at hcl hrs
  refine Pf (by rfl) (by rfl) fn17 (by rfl) ?_
  simp only [Try.f17, List.length_cons, List.length_nil, List.replicate, List.cons_append, List.nil_append]
  simp -implicitDefEqProofs only [↓yP, yT, Nat.reduceAdd, Nat.reduceMul, Nat.reduceSub, Nat.reduceLeDiff, Nat.reduceEqDiff, reduceCtorEq, Nat.reduceBEq]
  refine Rcall_pure (colonsP_spec ts (by omega)) (by rfl) fun y hy => ?_
  subst hy
  rw [hcols]
  simp -implicitDefEqProofs only [↓yP, yT, Nat.reduceAdd, Nat.reduceMul, Nat.reduceSub, Nat.reduceLeDiff, Nat.reduceEqDiff, reduceCtorEq, Nat.reduceBEq]
  refine Rl_nilbox 0 2 13 (by decide) rfl rfl ?_
  refine Rl_inv (fun d e s => ∃ (i : Nat) (out : List Tok), e = ([.c (.p (rT ts)), .c .top, .c .top, .c (.ptr 0 0 0 0), yd (.int .i64 (i : Nat)), .c .top, .c .top, .c .top, .c .top, .c .top, .c .top, .c .top, .c .top, .c .top, .c .top, .c .top, .c .top, .c .top, .c .top, .c .top, .c .top, .c .top, .c .top, .c .top, .c .top, .c .top, .c .top, .c .top, .c .top, .c .top, .c .top, .c .top, .c .top, .c .top, .c .top, .c .top, .c .top, .c .top, .c .top, .c .top, .c .top, .c .top, .c .top, .c .top, .c .top, .c .top, .c .top, .c .top, .c .top, .c .top, .c .top, .c .top, .c .top, .c .top, .c .top]) ∧ s = [.box (rdC ts cols 1 out.length), .row 13 (out.map Tok.pc)] ∧ i + d = ts.length ∧ out.length ≤ i ∧ out ++ valF ts cols i = valF ts cols 0)
    [true, false, false, true, true] ts.length [0, 1] (by decide) (pinned_zero _) ⟨0, [], by (simp only [yE, Nat.reduceEqDiff, Nat.reduceAdd, reduceCtorEq]; try rfl), by simp only [rdC]; (simp only [yE, Nat.reduceEqDiff, Nat.reduceAdd, reduceCtorEq]; try rfl), by omega, by simp, by simp⟩ ?_
  rintro d e s ⟨i, out, rfl, rfl, hd, hol, hout⟩
  unfold rdC
  by_cases hi : i < ts.length
  · obtain ⟨t, ht⟩ := get_lt hi
    have t1 : leI (ts.length : Nat) (i : Nat) = false := leI_false (by omega)
    simp -implicitDefEqProofs only [↓yP, yT, Nat.reduceAdd, Nat.reduceMul, Nat.reduceSub, Nat.reduceLeDiff, Nat.reduceEqDiff, reduceCtorEq, Nat.reduceBEq, t1]
    refine Rl_inv (fun d' e s => ∃ (m : Nat), e = ([.c (.p (rT ts)), .c .top, .c .top, .c (.ptr 0 0 0 0), yd (.int .i64 ((i + m : Nat) : Int)), yd (.int .i64 (i : Nat)), .c .top, .c .top, .c .top, .c .top, .c .top, .c .top, .c .top, .c .top, .c .top, .c .top, .c .top, .c .top, .c .top, .c .top, .c .top, .c .top, .c .top, .c .top, .c .top, .c .top, .c .top, .c .top, .c .top, .c .top, .c .top, .c .top, .c .top, .c .top, .c .top, .c .top, .c .top, .c .top, .c .top, .c .top, .c .top, .c .top, .c .top, .c .top, .c .top, .c .top, .c .top, .c .top, .c .top, .c .top, .c .top, .c .top, .c .top, .c .top, .c .top]) ∧ s = [.box (rdC ts cols 1 out.length), .row 13 (out.map Tok.pc)] ∧ i + m + d' = ts.length ∧ ∀ j, j < m → quiet (kindAt ts (i + j)) = true)
      [true, false, false, true, true, true] (ts.length - i) [0, 1] (by decide) (pinned_zero _) ⟨0, by (simp only [yE, Nat.reduceEqDiff, Nat.reduceAdd, reduceCtorEq]; try rfl), by simp only [rdC]; (simp only [yE, Nat.reduceEqDiff, Nat.reduceAdd, reduceCtorEq]; try rfl), by omega, fun j hj => absurd hj (Nat.not_lt_zero j)⟩ ?_
    rintro d' e s ⟨m, rfl, rfl, hd', hq⟩
    unfold rdC
    by_cases hk : i + m < ts.length
    · obtain ⟨u, hu⟩ := get_lt hk
      have t2 : leI (ts.length : Nat) ((i + m : Nat) : Int) = false := leI_false (by omega)
      have w1 : wrapK .i64 (((i + m : Nat) : Int) + 1) = ((i + m + 1 : Nat) : Int) := wrap_succ (by omega)
      simp -implicitDefEqProofs only [↓yP, yT, Nat.reduceAdd, Nat.reduceMul, Nat.reduceSub, Nat.reduceLeDiff, Nat.reduceEqDiff, reduceCtorEq, Nat.reduceBEq, t2, get_map hu, Tok.pc]
      refine Rcall_pure (blank_spec u) (by rfl) fun y hy => ?_
      subst hy
      cases hqu : quiet u.kind with
      | true =>
        simp -implicitDefEqProofs only [↓yP, yT, Nat.reduceAdd, Nat.reduceMul, Nat.reduceSub, Nat.reduceLeDiff, Nat.reduceEqDiff, reduceCtorEq, Nat.reduceBEq, w1]
        refine ⟨d' - 1, [0, 1], by omega, by decide, pinned_zero _, m + 1, by (simp only [yE, Nat.reduceEqDiff, Nat.reduceAdd, reduceCtorEq]; try rfl), by (simp only [yE, Nat.reduceEqDiff, Nat.reduceAdd, reduceCtorEq]; try rfl), by omega, fun j hj => ?_⟩
        by_cases e : j = m
        · subst e; rw [kindAt_some hu]; exact hqu
        · exact hq j (by omega)
      | false =>
        cases m with
        | zero =>
          have hut : u = t := by rw [Nat.add_zero] at hu; rw [ht] at hu; exact (Option.some.inj hu).symm
          subst hut
          have t3 : leI ((i : Nat) : Int) (i : Nat) = true := leI_true (by omega)
          have w2 : wrapK .i64 ((i : Int) + 1) = ((i + 1 : Nat) : Int) := wrap_succ (by omega)
          have b1 : (out.length + 1) * 128 ≤ 70368744177664 := bytes_le _ 1 (by omega) (by omega)
          rw [valF_one ht hqu] at hout
          simp -implicitDefEqProofs only [↓yP, yT, Nat.reduceAdd, Nat.reduceMul, Nat.reduceSub, Nat.reduceLeDiff, Nat.reduceEqDiff, reduceCtorEq, Nat.reduceBEq, t3]
          refine Rd_calm (by rw [C1_P]; kernel_rfl) ?_
          simp -implicitDefEqProofs only [↓yP, yT, Nat.reduceAdd, Nat.reduceMul, Nat.reduceSub, Nat.reduceLeDiff, Nat.reduceEqDiff, reduceCtorEq, Nat.reduceBEq, rdOf, tgOf, get_map ht, Tok.pc, b1, w2]
          refine ⟨d - 1, [0, 3], by omega, by decide, pinned_zero _, i + 1, out ++ [u], by (simp only [yE, Nat.reduceEqDiff, Nat.reduceAdd, reduceCtorEq]; try rfl), ?_, by omega, by simp; omega, by rw [List.append_assoc]; exact hout⟩
          simp only [List.map_append, List.length_append, List.map_cons, List.map_nil, List.length_cons, List.length_nil]
          (simp only [yE, Nat.reduceEqDiff, Nat.reduceAdd, reduceCtorEq]; try rfl)
        | succ m =>
          have t3 : leI ((i + (m + 1) : Nat) : Int) (i : Nat) = false := leI_false (by omega)
          have hrun := valF_run (cols := cols) (ts := ts) (i := i) (m := m + 1) (by omega) (by omega) hq (.inr (by rw [kindAt_some hu]; exact hqu))
          simp -implicitDefEqProofs only [↓yP, yT, Nat.reduceAdd, Nat.reduceMul, Nat.reduceSub, Nat.reduceLeDiff, Nat.reduceEqDiff, reduceCtorEq, Nat.reduceBEq, t3]
          refine Rcall_run (runC_spec ts cols out i (i + (m + 1)) (by omega) (by omega) (by omega) (by omega) hrs (by omega) htx) fun y => ?_
          unfold rdC
          simp -implicitDefEqProofs only [↓yP, yT, Nat.reduceAdd, Nat.reduceMul, Nat.reduceSub, Nat.reduceLeDiff, Nat.reduceEqDiff, reduceCtorEq, Nat.reduceBEq]
          have hro := runOut_length ts cols i (m + 1)
          refine ⟨ts.length - (i + (m + 1)), [0, 2], by omega, by decide, pinned_zero _, i + (m + 1), out ++ runOut ts cols i (i + (m + 1)), by (simp only [yE, Nat.reduceEqDiff, Nat.reduceAdd, reduceCtorEq]; try rfl), by (simp only [yE, Nat.reduceEqDiff, Nat.reduceAdd, reduceCtorEq]; try rfl), by omega, by simp; omega, ?_⟩
          rw [List.append_assoc, ← hrun]; exact hout
    · have t2 : leI (ts.length : Nat) ((i + m : Nat) : Int) = true := leI_true (by omega)
      have hm0 : 0 < m := by omega
      have t3 : leI ((i + m : Nat) : Int) (i : Nat) = false := leI_false (by omega)
      have hrun := valF_run (cols := cols) (ts := ts) (i := i) (m := m) (by omega) (by omega) hq (.inl (by omega))
      simp -implicitDefEqProofs only [↓yP, yT, Nat.reduceAdd, Nat.reduceMul, Nat.reduceSub, Nat.reduceLeDiff, Nat.reduceEqDiff, reduceCtorEq, Nat.reduceBEq, t2, t3]
      refine Rcall_run (runC_spec ts cols out i (i + (m)) (by omega) (by omega) (by omega) (by omega) hrs (by omega) htx) fun y => ?_
      unfold rdC
      simp -implicitDefEqProofs only [↓yP, yT, Nat.reduceAdd, Nat.reduceMul, Nat.reduceSub, Nat.reduceLeDiff, Nat.reduceEqDiff, reduceCtorEq, Nat.reduceBEq]
      have hro := runOut_length ts cols i (m)
      refine ⟨ts.length - (i + (m)), [0, 2], by omega, by decide, pinned_zero _, i + (m), out ++ runOut ts cols i (i + (m)), by (simp only [yE, Nat.reduceEqDiff, Nat.reduceAdd, reduceCtorEq]; try rfl), by (simp only [yE, Nat.reduceEqDiff, Nat.reduceAdd, reduceCtorEq]; try rfl), by omega, by simp; omega, ?_⟩
      rw [List.append_assoc, ← hrun]; exact hout
  · have t1 : leI (ts.length : Nat) (i : Nat) = true := leI_true (by omega)
    rw [valF_end (by omega), List.append_nil] at hout
    subst hout
    simp -implicitDefEqProofs only [↓yP, yT, Nat.reduceAdd, Nat.reduceMul, Nat.reduceSub, Nat.reduceLeDiff, Nat.reduceEqDiff, reduceCtorEq, Nat.reduceBEq, t1]
end Go.Vx.Seat
end
/- What tokens come to: the document's. -/
section
open Go Go.Vx Go.Proofs
set_option linter.unusedSimpArgs false
set_option linter.unusedVariables false
set_option maxRecDepth 10000
set_option maxHeartbeats 4000000
namespace Go.Vx.Seat
attribute [local congr] Rg_at Rt_at Ro_at Ri_at Rc_at Rto_at Rtk_at Rtf_at Rti_at
attribute [local irreducible] Rg Rt Ro Ri Rc Rto Rtk Rtf Rti Rw Rl Rd Rcall Rtcall kf
theorem fn18 : nth C1.P.funcs.toList 18 = some Try.f18 := by kernel_rfl
theorem beforeN_spec (l : List Tok) (cs : List Int) : PCall C1 42 [.c (.p (rT l)), .c (.p (rI cs)), yd (.int .i64 (-1))] fun y => y = yd (.bool true) := by
  have t0 : leI 0 (-1) = false := rfl
  refine Pf (by rfl) (by rfl) fn42 (by rfl) ?_
  simp only [Try.f42, List.length_cons, List.length_nil, List.replicate, List.cons_append, List.nil_append]
  simp -implicitDefEqProofs only [↓yP, yT, Nat.reduceAdd, Nat.reduceMul, Nat.reduceSub, Nat.reduceLeDiff, Nat.reduceEqDiff, reduceCtorEq, Nat.reduceBEq, t0]
def valueD (ts : List Tok) : List Tok := valF ts (colonsTo ts ts.length) 0
theorem valueX_spec (l : List Tok) (hl : l.length ≤ 900000) (htx : ∀ t, t ∈ l → (strOf t.text).length ≤ 100000000) : PCall C1 18 [.c (.p (rT l))] fun y => y = .c (.p (rT (valueD l))) := by
  have hcl := colonsTo_length l l.length
  unfold valueD
  generalize hcols : colonsTo l l.length = cols at hcl
  refine Pf (by rfl) (by rfl) fn18 (by rfl) ?_
  simp only [Try.f18, List.length_cons, List.length_nil, List.replicate, List.cons_append, List.nil_append]
  simp -implicitDefEqProofs only [↓yP, yT, Nat.reduceAdd, Nat.reduceMul, Nat.reduceSub, Nat.reduceLeDiff, Nat.reduceEqDiff, reduceCtorEq, Nat.reduceBEq]
  refine Rcall_pure (colons_spec l (by omega)) (by rfl) fun y hy => ?_
  subst hy
  rw [hcols]
  simp -implicitDefEqProofs only [↓yP, yT, Nat.reduceAdd, Nat.reduceMul, Nat.reduceSub, Nat.reduceLeDiff, Nat.reduceEqDiff, reduceCtorEq, Nat.reduceBEq]
  refine Rl_nil 4 13 (by decide) rfl ?_
  refine Rl_inv (fun d e s => ∃ (i : Nat) (out : List Tok) (la : Int), e = ([.c (.p (rT l)), .c .top, .c .top, .c (.p (rI cols)), .c (.own 0 13 0 out.length), yd (.int .i64 la), yd (.int .i64 (i : Nat)), .c .top, .c .top, .c .top, .c .top, .c .top, .c .top, .c .top, .c .top, .c .top, .c .top, .c .top, .c .top, .c .top, .c .top, .c .top, .c .top, .c .top, .c .top, .c .top, .c .top, .c .top, .c .top, .c .top, .c .top, .c .top, .c .top, .c .top, .c .top, .c .top, .c .top, .c .top, .c .top, .c .top, .c .top, .c .top, .c .top, .c .top, .c .top, .c .top, .c .top, .c .top, .c .top, .c .top, .c .top, .c .top, .c .top, .c .top, .c .top, .c .top, .c .top, .c .top, .c .top, .c .top, .c .top, .c .top, .c .top, .c .top, .c .top, .c .top, .c .top, .c .top, .c .top, .c .top, .c .top, .c .top, .c .top, .c .top, .c .top, .c .top, .c .top, .c .top, .c .top, .c .top, .c .top, .c .top, .c .top, .c .top, .c .top, .c .top, .c .top, .c .top, .c .top, .c .top, .c .top, .c .top, .c .top, .c .top, .c .top, .c .top, .c .top, .c .top, .c .top, .c .top, .c .top, .c .top, .c .top, .c .top, .c .top, .c .top, .c .top, .c .top, .c .top, .c .top, .c .top, .c .top, .c .top, .c .top, .c .top, .c .top, .c .top, .c .top, .c .top, .c .top, .c .top, .c .top, .c .top, .c .top, .c .top, .c .top, .c .top, .c .top, .c .top, .c .top, .c .top, .c .top, .c .top, .c .top, .c .top, .c .top, .c .top]) ∧ s = [.row 13 (out.map Tok.pc)] ∧ i + d = l.length ∧ (la = (i : Int) - 1 ∨ ∀ t, l[i]? = some t → quiet t.kind = false) ∧ i ≤ l.length ∧ out.length ≤ i ∧ out ++ valF l cols i = valF l cols 0)
    [true, false, false, true, true, true, true] l.length [0] (by decide) (pinned_zero _) ⟨0, [], -1, by (simp only [yE, Nat.reduceEqDiff, Nat.reduceAdd, reduceCtorEq]; try rfl), by (simp only [yE, Nat.reduceEqDiff, Nat.reduceAdd, reduceCtorEq]; try rfl), by omega, .inl (by omega), by omega, by simp, by simp⟩ ?_
  rintro d e s ⟨i, out, la, rfl, rfl, hd, hla, hil, hol, hval⟩
  by_cases hi : i < l.length
  · obtain ⟨t, ht⟩ := get_lt hi
    have t1 : leI (l.length : Nat) (i : Nat) = false := leI_false (by omega)
    have w1 : wrapK .i64 ((i : Int) + 1) = ((i + 1 : Nat) : Int) := wrap_succ (by omega)
    have b1 : (out.length + 1) * 128 ≤ 70368744177664 := bytes_le _ 1 (by omega) (by omega)
    simp -implicitDefEqProofs only [↓yP, yT, Nat.reduceAdd, Nat.reduceMul, Nat.reduceSub, Nat.reduceLeDiff, Nat.reduceEqDiff, reduceCtorEq, Nat.reduceBEq, t1, get_map ht, Tok.pc]
    refine Rcall_pure (quiet_spec t) (by rfl) fun y hy => ?_
    subst hy
    cases hqt : quiet t.kind with
    | false =>
      rw [valF_one ht hqt] at hval
      simp -implicitDefEqProofs only [↓yP, yT, Nat.reduceAdd, Nat.reduceMul, Nat.reduceSub, Nat.reduceLeDiff, Nat.reduceEqDiff, reduceCtorEq, Nat.reduceBEq, get_map ht, Tok.pc, b1, w1]
      refine ⟨d - 1, [2], by omega, by decide, pinned_zero _, i + 1, out ++ [t], (i : Nat), by (simp only [yE, Nat.reduceEqDiff, Nat.reduceAdd, reduceCtorEq]; try rfl), ?_, by omega, .inl (by omega), by omega, by simp; omega, by rw [List.append_assoc]; exact hval⟩
      simp only [yE, Nat.reduceEqDiff, Nat.reduceAdd, reduceCtorEq, List.map_append]; rfl
    | true =>
      have hla : la = (i : Int) - 1 := by
        rcases hla with h | h
        · exact h
        · rw [h t ht] at hqt; cases hqt
      simp -implicitDefEqProofs only [↓yP, yT, Nat.reduceAdd, Nat.reduceMul, Nat.reduceSub, Nat.reduceLeDiff, Nat.reduceEqDiff, reduceCtorEq, Nat.reduceBEq]
      refine Rl_nil 9 13 (by decide) rfl ?_
      refine Rl_inv (fun d' e s => ∃ (m : Nat), e = ([.c (.p (rT l)), .c .top, .c .top, .c (.p (rI cols)), .c (.own 0 13 0 out.length), yd (.int .i64 la), .c .top, yd (.int .i64 ((i + m : Nat) : Int)), yd (.int .i64 (encS (spaceN l i m))), .c (.own 1 13 0 (keptN l i m).length), .c .top, .c .top, .c .top, .c .top, .c .top, .c .top, .c .top, .c .top, .c .top, .c .top, .c .top, .c .top, .c .top, .c .top, .c .top, .c .top, .c .top, .c .top, .c .top, .c .top, .c .top, .c .top, .c .top, .c .top, .c .top, .c .top, .c .top, .c .top, .c .top, .c .top, .c .top, .c .top, .c .top, .c .top, .c .top, .c .top, .c .top, .c .top, .c .top, .c .top, .c .top, .c .top, .c .top, .c .top, .c .top, .c .top, .c .top, .c .top, .c .top, .c .top, .c .top, .c .top, .c .top, .c .top, .c .top, .c .top, .c .top, .c .top, .c .top, .c .top, .c .top, .c .top, .c .top, .c .top, .c .top, .c .top, .c .top, .c .top, .c .top, .c .top, .c .top, .c .top, .c .top, .c .top, .c .top, .c .top, .c .top, .c .top, .c .top, .c .top, .c .top, .c .top, .c .top, .c .top, .c .top, .c .top, .c .top, .c .top, .c .top, .c .top, .c .top, .c .top, .c .top, .c .top, .c .top, .c .top, .c .top, .c .top, .c .top, .c .top, .c .top, .c .top, .c .top, .c .top, .c .top, .c .top, .c .top, .c .top, .c .top, .c .top, .c .top, .c .top, .c .top, .c .top, .c .top, .c .top, .c .top, .c .top, .c .top, .c .top, .c .top, .c .top, .c .top, .c .top, .c .top, .c .top, .c .top]) ∧ s = [.row 13 (out.map Tok.pc), .row 13 ((keptN l i m).map Tok.pc)] ∧ i + m + d' = l.length ∧ ∀ j, j < m → quiet (kindAt l (i + j)) = true)
        [true, false, false, true, true, true, false, true, true, true] (l.length - i) [0, 1] (by decide) (pinned_zero _) ⟨0, by (simp only [yE, Nat.reduceEqDiff, Nat.reduceAdd, reduceCtorEq]; try rfl), by (simp only [yE, Nat.reduceEqDiff, Nat.reduceAdd, reduceCtorEq]; try rfl), by omega, fun j hj => absurd hj (Nat.not_lt_zero j)⟩ ?_
      rintro d' e s ⟨m, rfl, rfl, hd', hq⟩
      by_cases hk : i + m < l.length
      · obtain ⟨u, hu⟩ := get_lt hk
        have hks1 : keptN l i (m + 1) = keptN l i m ++ (if kp u then [u] else []) := by rw [keptN, hu]
        have hsp1 : spaceN l i (m + 1) = (match spaceN l i m with | some k => some k | none => if eqI u.kind 13 then some (i + m) else none) := by rw [spaceN, hu]; cases spaceN l i m <;> rfl
        have t2 : leI (l.length : Nat) ((i + m : Nat) : Int) = false := leI_false (by omega)
        have v1 : wrapK .i64 (((i + m : Nat) : Int) + 1) = ((i + m + 1 : Nat) : Int) := wrap_succ (by omega)
        have hkl1 := kept_le l i m
        have kb1 : ((keptN l i m).length + 1) * 128 ≤ 70368744177664 := bytes_le _ 1 (by omega) (by omega)
        simp -implicitDefEqProofs only [↓yP, yT, Nat.reduceAdd, Nat.reduceMul, Nat.reduceSub, Nat.reduceLeDiff, Nat.reduceEqDiff, reduceCtorEq, Nat.reduceBEq, t2, get_map hu, Tok.pc]
        refine Rcall_pure (quiet_spec u) (by rfl) fun y hy => ?_
        subst hy
        cases hqu : quiet u.kind with
        | true =>
          have hqn : ∀ j, j < m + 1 → quiet (kindAt l (i + j)) = true := fun j hj => by
            by_cases e : j = m
            · subst e; rw [kindAt_some hu]; exact hqu
            · exact hq j (by omega)
          cases q1 : eqI u.kind 13 with
          | true =>
            have q2 : eqI u.kind 25 = false := eqI_false (by have : u.kind = 13 := by rw [eqI_eq, decide_eq_true_eq] at q1; exact q1
                                                             omega)
            have hkp : kp u = false := by rw [kp, q2]; rfl
            rw [hkp] at hks1
            rw [q1] at hsp1
            simp only [Bool.false_eq_true, if_false, List.append_nil] at hks1
            cases hsn : spaceN l i m with
            | none =>
              rw [hsn] at hsp1
              have s0 : leI 0 (-1) = false := rfl
              simp only [encS]
              simp -implicitDefEqProofs only [↓yP, yT, Nat.reduceAdd, Nat.reduceMul, Nat.reduceSub, Nat.reduceLeDiff, Nat.reduceEqDiff, reduceCtorEq, Nat.reduceBEq, get_map hu, Tok.pc, q1, q2, s0, v1]
              refine ⟨d' - 1, [0, 1], by omega, by decide, pinned_zero _, m + 1, ?_, ?_, by omega, hqn⟩
              · simp only [hks1, hsp1, encS, if_true]; (simp only [yE, Nat.reduceEqDiff, Nat.reduceAdd, reduceCtorEq]; try rfl)
              · simp only [hks1]; (simp only [yE, Nat.reduceEqDiff, Nat.reduceAdd, reduceCtorEq]; try rfl)
            | some n =>
              rw [hsn] at hsp1
              have s0 : leI 0 ((n : Nat) : Int) = true := leI_true (by omega)
              simp only [encS]
              simp -implicitDefEqProofs only [↓yP, yT, Nat.reduceAdd, Nat.reduceMul, Nat.reduceSub, Nat.reduceLeDiff, Nat.reduceEqDiff, reduceCtorEq, Nat.reduceBEq, get_map hu, Tok.pc, q1, q2, s0, v1]
              refine ⟨d' - 1, [0, 1], by omega, by decide, pinned_zero _, m + 1, ?_, ?_, by omega, hqn⟩
              · simp only [hks1, hsp1, encS]; (simp only [yE, Nat.reduceEqDiff, Nat.reduceAdd, reduceCtorEq]; try rfl)
              · simp only [hks1]; (simp only [yE, Nat.reduceEqDiff, Nat.reduceAdd, reduceCtorEq]; try rfl)
          | false =>
            rw [q1] at hsp1
            have hsp2 : spaceN l i (m + 1) = spaceN l i m := by rw [hsp1]; cases spaceN l i m <;> rfl
            cases q2 : eqI u.kind 25 with
            | true =>
              simp -implicitDefEqProofs only [↓yP, yT, Nat.reduceAdd, Nat.reduceMul, Nat.reduceSub, Nat.reduceLeDiff, Nat.reduceEqDiff, reduceCtorEq, Nat.reduceBEq, get_map hu, Tok.pc, q1, q2]
              refine Rcall_pure (keepsR_spec u.text (htx u (List.mem_of_getElem? hu))) (by rfl) fun y hy => ?_
              subst hy
              cases hkb : keepB u.text with
              | true =>
                have hkp : kp u = true := by rw [kp, q2, hkb]; rfl
                rw [hkp] at hks1
                simp only [if_true] at hks1
                simp -implicitDefEqProofs only [↓yP, yT, Nat.reduceAdd, Nat.reduceMul, Nat.reduceSub, Nat.reduceLeDiff, Nat.reduceEqDiff, reduceCtorEq, Nat.reduceBEq, get_map hu, Tok.pc, kb1, v1]
                refine ⟨d' - 1, [0, 3], by omega, by decide, pinned_zero _, m + 1, ?_, ?_, by omega, hqn⟩
                · simp only [hks1, hsp2, List.length_append, List.length_cons, List.length_nil]; (simp only [yE, Nat.reduceEqDiff, Nat.reduceAdd, reduceCtorEq]; try rfl)
                · simp only [hks1, List.map_append, List.map_cons, List.map_nil]; (simp only [yE, Nat.reduceEqDiff, Nat.reduceAdd, reduceCtorEq]; try rfl)
              | false =>
                have hkp : kp u = false := by rw [kp, q2, hkb]; rfl
                rw [hkp] at hks1
                simp only [Bool.false_eq_true, if_false, List.append_nil] at hks1
                simp -implicitDefEqProofs only [↓yP, yT, Nat.reduceAdd, Nat.reduceMul, Nat.reduceSub, Nat.reduceLeDiff, Nat.reduceEqDiff, reduceCtorEq, Nat.reduceBEq, v1]
                refine ⟨d' - 1, [0, 1], by omega, by decide, pinned_zero _, m + 1, ?_, ?_, by omega, hqn⟩
                · simp only [hks1, hsp2]; (simp only [yE, Nat.reduceEqDiff, Nat.reduceAdd, reduceCtorEq]; try rfl)
                · simp only [hks1]; (simp only [yE, Nat.reduceEqDiff, Nat.reduceAdd, reduceCtorEq]; try rfl)
            | false =>
              have hkp : kp u = false := by rw [kp, q2]; rfl
              rw [hkp] at hks1
              simp only [Bool.false_eq_true, if_false, List.append_nil] at hks1
              simp -implicitDefEqProofs only [↓yP, yT, Nat.reduceAdd, Nat.reduceMul, Nat.reduceSub, Nat.reduceLeDiff, Nat.reduceEqDiff, reduceCtorEq, Nat.reduceBEq, get_map hu, Tok.pc, q1, q2, v1]
              refine ⟨d' - 1, [0, 1], by omega, by decide, pinned_zero _, m + 1, ?_, ?_, by omega, hqn⟩
              · simp only [hks1, hsp2]; (simp only [yE, Nat.reduceEqDiff, Nat.reduceAdd, reduceCtorEq]; try rfl)
              · simp only [hks1]; (simp only [yE, Nat.reduceEqDiff, Nat.reduceAdd, reduceCtorEq]; try rfl)
        | false =>
          have hm0 : 0 < m := by
            rcases Nat.eq_zero_or_pos m with h | h
            · subst h; rw [Nat.add_zero] at hu; rw [ht] at hu; cases hu; rw [hqt] at hqu; cases hqu
            · exact h
          have hend : i + m = l.length ∨ quiet (kindAt l (i + m)) = false := .inr (by rw [kindAt_some hu]; exact hqu)
          simp -implicitDefEqProofs only [↓yP, yT, Nat.reduceAdd, Nat.reduceMul, Nat.reduceSub, Nat.reduceLeDiff, Nat.reduceEqDiff, reduceCtorEq, Nat.reduceBEq]
          have hrun := valF_run (cols := cols) (ts := l) (i := i) (m := m) hm0 (by omega) hq hend
          have hkl := kept_length l i m
          have hkl1 := kept_le l i m
          have hlaN : la = ((i + m : Nat) : Int) - 1 ∨ ∀ t, l[i + m]? = some t → quiet t.kind = false := .inr fun u hu => by
            rcases hend with h | h
            · rw [List.getElem?_eq_none (by omega)] at hu; cases hu
            · rw [kindAt_some hu] at h; exact h
          have vb1 : (out.length + (keptN l i m).length) * 128 ≤ 70368744177664 := bytes_le _ _ (by omega) (by omega)
          cases hsn : spaceN l i m with
          | none =>
            rw [hsn] at hkl
            simp only at hkl
            have hro : runOut l cols i (i + m) = keptN l i m := by rw [runOut, Nat.add_sub_cancel_left, hsn]
            have s0 : leI 0 (-1) = false := rfl
            simp only [encS]
            simp -implicitDefEqProofs only [↓yP, yT, Nat.reduceAdd, Nat.reduceMul, Nat.reduceSub, Nat.reduceLeDiff, Nat.reduceEqDiff, reduceCtorEq, Nat.reduceBEq, s0, vb1, Nat.reduceLT]
            refine ⟨l.length - (i + m), [3], by omega, by decide, pinned_zero _, i + m, out ++ keptN l (i) m, la, by (simp only [yE, Nat.reduceEqDiff, Nat.reduceAdd, reduceCtorEq]; try rfl), ?_, by omega, hlaN, by omega, by simp; omega, ?_⟩
            · simp only [yE, Nat.reduceEqDiff, Nat.reduceAdd, reduceCtorEq, List.map_append]; try rfl
            · rw [List.append_assoc, ← hro, ← hrun]; exact hval
          | some n =>
            rw [hsn] at hkl
            simp only at hkl
            obtain ⟨n1, n2, n3, n4⟩ := space_lt hsn
            have s0 : leI 0 ((n : Nat) : Int) = true := leI_true (by omega)
            obtain ⟨tn, htn⟩ := get_lt n3
            have hfr : fromAt l n = tn.start := by rw [fromAt, htn]
            have vb2 : (out.length + 1) * 128 ≤ 70368744177664 := bytes_le _ 1 (by omega) (by omega)
            have vb3 : (out.length + 1 + (keptN l i m).length) * 128 ≤ 70368744177664 := bytes_le _ _ (by omega) (by omega)
            have vb4 : (out.length + (keptN l i m).length + 1) * 128 ≤ 70368744177664 := bytes_le _ 1 (by omega) (by omega)
            simp only [encS]
            cases i with
            | zero =>
              obtain rfl : la = -1 := by rw [hla]; rfl
              have s1 : leI 0 (-1) = false := rfl
              have hro : runOut l cols 0 (0 + m) = keptN l 0 m := by rw [runOut, Nat.add_sub_cancel_left, hsn]; rfl
              simp -implicitDefEqProofs only [↓yP, yT, Nat.reduceAdd, Nat.reduceMul, Nat.reduceSub, Nat.reduceLeDiff, Nat.reduceEqDiff, reduceCtorEq, Nat.reduceBEq, s0, s1, get_map htn, Tok.pc, Nat.reduceLT]
              refine Rcall_pure (beforeN_spec l cols) (by rfl) fun y hy => ?_
              subst hy
              simp -implicitDefEqProofs only [↓yP, yT, Nat.reduceAdd, Nat.reduceMul, Nat.reduceSub, Nat.reduceLeDiff, Nat.reduceEqDiff, reduceCtorEq, Nat.reduceBEq, vb1, Nat.reduceLT]
              refine ⟨l.length - (0 + m), [3], by omega, by decide, pinned_zero _, 0 + m, out ++ keptN l (0) m, -1, by (simp only [yE, Nat.reduceEqDiff, Nat.reduceAdd, reduceCtorEq]; try rfl), ?_, by omega, hlaN, by omega, by simp; omega, ?_⟩
              · simp only [yE, Nat.reduceEqDiff, Nat.reduceAdd, reduceCtorEq, List.map_append]; try rfl
              · rw [List.append_assoc, ← hro, ← hrun]; exact hval
            | succ j =>
              obtain rfl : la = ((j : Nat) : Int) := by rw [hla]; omega
              have s1 : leI 0 ((j : Nat) : Int) = true := leI_true (by omega)
              obtain ⟨tj, htj⟩ := get_lt (l := l) (i := j) (by omega)
              simp -implicitDefEqProofs only [↓yP, yT, Nat.reduceAdd, Nat.reduceMul, Nat.reduceSub, Nat.reduceLeDiff, Nat.reduceEqDiff, reduceCtorEq, Nat.reduceBEq, s0, s1, get_map htn, get_map htj, Tok.pc, Nat.reduceLT]
              refine Rcall_pure (lineX_spec tj) (by rfl) fun y hy => ?_
              subst hy
              cases hlb : lineB tj with
              | true =>
                have hro : runOut l cols (j + 1) (j + 1 + m) = blankTok ⟨#[10]⟩ tn.start :: keptN l (j + 1) m := by rw [runOut, Nat.add_sub_cancel_left, hsn]; simp only [lineAt, htj, hlb, if_true, hfr]
                simp -implicitDefEqProofs only [↓yP, yT, Nat.reduceAdd, Nat.reduceMul, Nat.reduceSub, Nat.reduceLeDiff, Nat.reduceEqDiff, reduceCtorEq, Nat.reduceBEq, vb1, vb2, vb3, Nat.reduceLT]
                refine ⟨l.length - (j + 1 + m), [5], by omega, by decide, pinned_zero _, j + 1 + m, out ++ [blankTok ⟨#[10]⟩ tn.start] ++ keptN l (j + 1) m, ((j : Nat) : Int), by (simp only [yE, Nat.reduceEqDiff, Nat.reduceAdd, reduceCtorEq]; try rfl), ?_, by omega, hlaN, by omega, by simp; omega, ?_⟩
                · simp only [yE, Nat.reduceEqDiff, Nat.reduceAdd, reduceCtorEq, List.map_append, List.map_cons, List.append_assoc, List.cons_append, List.nil_append]; try rfl
                · rw [show out ++ [blankTok ⟨#[10]⟩ tn.start] ++ keptN l (j + 1) m = out ++ (blankTok ⟨#[10]⟩ tn.start :: keptN l (j + 1) m) by simp, List.append_assoc, ← hro, ← hrun]; exact hval
              | false =>
                have hln : lineAt l (j + 1) = false := by simp only [lineAt, htj, hlb]
                simp -implicitDefEqProofs only [↓yP, yT, Nat.reduceAdd, Nat.reduceMul, Nat.reduceSub, Nat.reduceLeDiff, Nat.reduceEqDiff, reduceCtorEq, Nat.reduceBEq, s0]
                refine Rcall_pure (beforeX_spec l cols j (by omega) (by omega)) (by rfl) fun y hy => ?_
                subst hy
                cases hg1 : befB l cols j with
                | true =>
                  have hro : runOut l cols (j + 1) (j + 1 + m) = keptN l (j + 1) m := by rw [runOut, Nat.add_sub_cancel_left, hsn]; simp only [hln, goBef, hg1, Bool.true_or, if_true, Bool.false_eq_true, if_false]
                  simp -implicitDefEqProofs only [↓yP, yT, Nat.reduceAdd, Nat.reduceMul, Nat.reduceSub, Nat.reduceLeDiff, Nat.reduceEqDiff, reduceCtorEq, Nat.reduceBEq, vb1, Nat.reduceLT]
                  refine ⟨l.length - (j + 1 + m), [3], by omega, by decide, pinned_zero _, j + 1 + m, out ++ keptN l (j + 1) m, ((j : Nat) : Int), by (simp only [yE, Nat.reduceEqDiff, Nat.reduceAdd, reduceCtorEq]; try rfl), ?_, by omega, hlaN, by omega, by simp; omega, ?_⟩
                  · simp only [yE, Nat.reduceEqDiff, Nat.reduceAdd, reduceCtorEq, List.map_append]; try rfl
                  · rw [List.append_assoc, ← hro, ← hrun]; exact hval
                | false =>
                  simp -implicitDefEqProofs only [↓yP, yT, Nat.reduceAdd, Nat.reduceMul, Nat.reduceSub, Nat.reduceLeDiff, Nat.reduceEqDiff, reduceCtorEq, Nat.reduceBEq]
                  refine Rcall_pure (afterX_spec l cols (j + 1 + m) (by omega)) (by rfl) fun y hy => ?_
                  subst hy
                  cases hga : aftB l cols (j + 1 + m) with
                  | true =>
                    have hro : runOut l cols (j + 1) (j + 1 + m) = keptN l (j + 1) m := by rw [runOut, Nat.add_sub_cancel_left, hsn]; simp only [hln, goBef, hg1, hga, Bool.or_true, if_true, Bool.false_eq_true, if_false]
                    simp -implicitDefEqProofs only [↓yP, yT, Nat.reduceAdd, Nat.reduceMul, Nat.reduceSub, Nat.reduceLeDiff, Nat.reduceEqDiff, reduceCtorEq, Nat.reduceBEq, vb1, Nat.reduceLT]
                    refine ⟨l.length - (j + 1 + m), [3], by omega, by decide, pinned_zero _, j + 1 + m, out ++ keptN l (j + 1) m, ((j : Nat) : Int), by (simp only [yE, Nat.reduceEqDiff, Nat.reduceAdd, reduceCtorEq]; try rfl), ?_, by omega, hlaN, by omega, by simp; omega, ?_⟩
                    · simp only [yE, Nat.reduceEqDiff, Nat.reduceAdd, reduceCtorEq, List.map_append]; try rfl
                    · rw [List.append_assoc, ← hro, ← hrun]; exact hval
                  | false =>
                    have hro : runOut l cols (j + 1) (j + 1 + m) = keptN l (j + 1) m ++ [blankTok ⟨#[32]⟩ tn.start] := by rw [runOut, Nat.add_sub_cancel_left, hsn]; simp only [hln, goBef, hg1, hga, Bool.or_self, hfr, Bool.false_eq_true, if_false]
                    simp -implicitDefEqProofs only [↓yP, yT, Nat.reduceAdd, Nat.reduceMul, Nat.reduceSub, Nat.reduceLeDiff, Nat.reduceEqDiff, reduceCtorEq, Nat.reduceBEq]
                    refine Rd_trace ?_
                    have tk1 : (out.map Tok.pc ++ (keptN l (j + 1) m).map Tok.pc).length = out.length + (keptN l (j + 1) m).length := by simp
                    have tk2 : (out.map Tok.pc ++ (keptN l (j + 1) m).map Tok.pc).take (out.length + (keptN l (j + 1) m).length) = out.map Tok.pc ++ (keptN l (j + 1) m).map Tok.pc := List.take_of_length_le (by simp)
                    simp -implicitDefEqProofs only [↓yP, yT, Nat.reduceAdd, Nat.reduceMul, Nat.reduceSub, Nat.reduceLeDiff, Nat.reduceEqDiff, reduceCtorEq, Nat.reduceBEq, rdOf, tgOf, vb1, vb4, tk1, tk2, Nat.reduceLT]
                    refine ⟨l.length - (j + 1 + m), [5], by omega, by decide, pinned_zero _, j + 1 + m, out ++ (keptN l (j + 1) m ++ [blankTok ⟨#[32]⟩ tn.start]), ((j : Nat) : Int), by (simp only [yE, Nat.reduceEqDiff, Nat.reduceAdd, reduceCtorEq]; try rfl), ?_, by omega, hlaN, by omega, by simp; omega, ?_⟩
                    · simp only [yE, Nat.reduceEqDiff, Nat.reduceAdd, reduceCtorEq, List.map_append, List.map_cons, List.map_nil, List.append_assoc, List.cons_append, List.nil_append]; try rfl
                    · rw [List.append_assoc, ← hro, ← hrun]; exact hval
      · have t2 : leI (l.length : Nat) ((i + m : Nat) : Int) = true := leI_true (by omega)
        have hm0 : 0 < m := by omega
        have hend : i + m = l.length ∨ quiet (kindAt l (i + m)) = false := .inl (by omega)
        simp -implicitDefEqProofs only [↓yP, yT, Nat.reduceAdd, Nat.reduceMul, Nat.reduceSub, Nat.reduceLeDiff, Nat.reduceEqDiff, reduceCtorEq, Nat.reduceBEq, t2]
        have hrun := valF_run (cols := cols) (ts := l) (i := i) (m := m) hm0 (by omega) hq hend
        have hkl := kept_length l i m
        have hkl1 := kept_le l i m
        have hlaN : la = ((i + m : Nat) : Int) - 1 ∨ ∀ t, l[i + m]? = some t → quiet t.kind = false := .inr fun u hu => by
          rcases hend with h | h
          · rw [List.getElem?_eq_none (by omega)] at hu; cases hu
          · rw [kindAt_some hu] at h; exact h
        have vb1 : (out.length + (keptN l i m).length) * 128 ≤ 70368744177664 := bytes_le _ _ (by omega) (by omega)
        cases hsn : spaceN l i m with
        | none =>
          rw [hsn] at hkl
          simp only at hkl
          have hro : runOut l cols i (i + m) = keptN l i m := by rw [runOut, Nat.add_sub_cancel_left, hsn]
          have s0 : leI 0 (-1) = false := rfl
          simp only [encS]
          simp -implicitDefEqProofs only [↓yP, yT, Nat.reduceAdd, Nat.reduceMul, Nat.reduceSub, Nat.reduceLeDiff, Nat.reduceEqDiff, reduceCtorEq, Nat.reduceBEq, s0, vb1, Nat.reduceLT]
          refine ⟨l.length - (i + m), [3], by omega, by decide, pinned_zero _, i + m, out ++ keptN l (i) m, la, by (simp only [yE, Nat.reduceEqDiff, Nat.reduceAdd, reduceCtorEq]; try rfl), ?_, by omega, hlaN, by omega, by simp; omega, ?_⟩
          · simp only [yE, Nat.reduceEqDiff, Nat.reduceAdd, reduceCtorEq, List.map_append]; try rfl
          · rw [List.append_assoc, ← hro, ← hrun]; exact hval
        | some n =>
          rw [hsn] at hkl
          simp only at hkl
          obtain ⟨n1, n2, n3, n4⟩ := space_lt hsn
          have s0 : leI 0 ((n : Nat) : Int) = true := leI_true (by omega)
          obtain ⟨tn, htn⟩ := get_lt n3
          have hfr : fromAt l n = tn.start := by rw [fromAt, htn]
          have vb2 : (out.length + 1) * 128 ≤ 70368744177664 := bytes_le _ 1 (by omega) (by omega)
          have vb3 : (out.length + 1 + (keptN l i m).length) * 128 ≤ 70368744177664 := bytes_le _ _ (by omega) (by omega)
          have vb4 : (out.length + (keptN l i m).length + 1) * 128 ≤ 70368744177664 := bytes_le _ 1 (by omega) (by omega)
          simp only [encS]
          cases i with
          | zero =>
            obtain rfl : la = -1 := by rw [hla]; rfl
            have s1 : leI 0 (-1) = false := rfl
            have hro : runOut l cols 0 (0 + m) = keptN l 0 m := by rw [runOut, Nat.add_sub_cancel_left, hsn]; rfl
            simp -implicitDefEqProofs only [↓yP, yT, Nat.reduceAdd, Nat.reduceMul, Nat.reduceSub, Nat.reduceLeDiff, Nat.reduceEqDiff, reduceCtorEq, Nat.reduceBEq, s0, s1, get_map htn, Tok.pc, Nat.reduceLT]
            refine Rcall_pure (beforeN_spec l cols) (by rfl) fun y hy => ?_
            subst hy
            simp -implicitDefEqProofs only [↓yP, yT, Nat.reduceAdd, Nat.reduceMul, Nat.reduceSub, Nat.reduceLeDiff, Nat.reduceEqDiff, reduceCtorEq, Nat.reduceBEq, vb1, Nat.reduceLT]
            refine ⟨l.length - (0 + m), [3], by omega, by decide, pinned_zero _, 0 + m, out ++ keptN l (0) m, -1, by (simp only [yE, Nat.reduceEqDiff, Nat.reduceAdd, reduceCtorEq]; try rfl), ?_, by omega, hlaN, by omega, by simp; omega, ?_⟩
            · simp only [yE, Nat.reduceEqDiff, Nat.reduceAdd, reduceCtorEq, List.map_append]; try rfl
            · rw [List.append_assoc, ← hro, ← hrun]; exact hval
          | succ j =>
            obtain rfl : la = ((j : Nat) : Int) := by rw [hla]; omega
            have s1 : leI 0 ((j : Nat) : Int) = true := leI_true (by omega)
            obtain ⟨tj, htj⟩ := get_lt (l := l) (i := j) (by omega)
            simp -implicitDefEqProofs only [↓yP, yT, Nat.reduceAdd, Nat.reduceMul, Nat.reduceSub, Nat.reduceLeDiff, Nat.reduceEqDiff, reduceCtorEq, Nat.reduceBEq, s0, s1, get_map htn, get_map htj, Tok.pc, Nat.reduceLT]
            refine Rcall_pure (lineX_spec tj) (by rfl) fun y hy => ?_
            subst hy
            cases hlb : lineB tj with
            | true =>
              have hro : runOut l cols (j + 1) (j + 1 + m) = blankTok ⟨#[10]⟩ tn.start :: keptN l (j + 1) m := by rw [runOut, Nat.add_sub_cancel_left, hsn]; simp only [lineAt, htj, hlb, if_true, hfr]
              simp -implicitDefEqProofs only [↓yP, yT, Nat.reduceAdd, Nat.reduceMul, Nat.reduceSub, Nat.reduceLeDiff, Nat.reduceEqDiff, reduceCtorEq, Nat.reduceBEq, vb1, vb2, vb3, Nat.reduceLT]
              refine ⟨l.length - (j + 1 + m), [5], by omega, by decide, pinned_zero _, j + 1 + m, out ++ [blankTok ⟨#[10]⟩ tn.start] ++ keptN l (j + 1) m, ((j : Nat) : Int), by (simp only [yE, Nat.reduceEqDiff, Nat.reduceAdd, reduceCtorEq]; try rfl), ?_, by omega, hlaN, by omega, by simp; omega, ?_⟩
              · simp only [yE, Nat.reduceEqDiff, Nat.reduceAdd, reduceCtorEq, List.map_append, List.map_cons, List.append_assoc, List.cons_append, List.nil_append]; try rfl
              · rw [show out ++ [blankTok ⟨#[10]⟩ tn.start] ++ keptN l (j + 1) m = out ++ (blankTok ⟨#[10]⟩ tn.start :: keptN l (j + 1) m) by simp, List.append_assoc, ← hro, ← hrun]; exact hval
            | false =>
              have hln : lineAt l (j + 1) = false := by simp only [lineAt, htj, hlb]
              simp -implicitDefEqProofs only [↓yP, yT, Nat.reduceAdd, Nat.reduceMul, Nat.reduceSub, Nat.reduceLeDiff, Nat.reduceEqDiff, reduceCtorEq, Nat.reduceBEq, s0]
              refine Rcall_pure (beforeX_spec l cols j (by omega) (by omega)) (by rfl) fun y hy => ?_
              subst hy
              cases hg1 : befB l cols j with
              | true =>
                have hro : runOut l cols (j + 1) (j + 1 + m) = keptN l (j + 1) m := by rw [runOut, Nat.add_sub_cancel_left, hsn]; simp only [hln, goBef, hg1, Bool.true_or, if_true, Bool.false_eq_true, if_false]
                simp -implicitDefEqProofs only [↓yP, yT, Nat.reduceAdd, Nat.reduceMul, Nat.reduceSub, Nat.reduceLeDiff, Nat.reduceEqDiff, reduceCtorEq, Nat.reduceBEq, vb1, Nat.reduceLT]
                refine ⟨l.length - (j + 1 + m), [3], by omega, by decide, pinned_zero _, j + 1 + m, out ++ keptN l (j + 1) m, ((j : Nat) : Int), by (simp only [yE, Nat.reduceEqDiff, Nat.reduceAdd, reduceCtorEq]; try rfl), ?_, by omega, hlaN, by omega, by simp; omega, ?_⟩
                · simp only [yE, Nat.reduceEqDiff, Nat.reduceAdd, reduceCtorEq, List.map_append]; try rfl
                · rw [List.append_assoc, ← hro, ← hrun]; exact hval
              | false =>
                simp -implicitDefEqProofs only [↓yP, yT, Nat.reduceAdd, Nat.reduceMul, Nat.reduceSub, Nat.reduceLeDiff, Nat.reduceEqDiff, reduceCtorEq, Nat.reduceBEq]
                refine Rcall_pure (afterX_spec l cols (j + 1 + m) (by omega)) (by rfl) fun y hy => ?_
                subst hy
                cases hga : aftB l cols (j + 1 + m) with
                | true =>
                  have hro : runOut l cols (j + 1) (j + 1 + m) = keptN l (j + 1) m := by rw [runOut, Nat.add_sub_cancel_left, hsn]; simp only [hln, goBef, hg1, hga, Bool.or_true, if_true, Bool.false_eq_true, if_false]
                  simp -implicitDefEqProofs only [↓yP, yT, Nat.reduceAdd, Nat.reduceMul, Nat.reduceSub, Nat.reduceLeDiff, Nat.reduceEqDiff, reduceCtorEq, Nat.reduceBEq, vb1, Nat.reduceLT]
                  refine ⟨l.length - (j + 1 + m), [3], by omega, by decide, pinned_zero _, j + 1 + m, out ++ keptN l (j + 1) m, ((j : Nat) : Int), by (simp only [yE, Nat.reduceEqDiff, Nat.reduceAdd, reduceCtorEq]; try rfl), ?_, by omega, hlaN, by omega, by simp; omega, ?_⟩
                  · simp only [yE, Nat.reduceEqDiff, Nat.reduceAdd, reduceCtorEq, List.map_append]; try rfl
                  · rw [List.append_assoc, ← hro, ← hrun]; exact hval
                | false =>
                  have hro : runOut l cols (j + 1) (j + 1 + m) = keptN l (j + 1) m ++ [blankTok ⟨#[32]⟩ tn.start] := by rw [runOut, Nat.add_sub_cancel_left, hsn]; simp only [hln, goBef, hg1, hga, Bool.or_self, hfr, Bool.false_eq_true, if_false]
                  simp -implicitDefEqProofs only [↓yP, yT, Nat.reduceAdd, Nat.reduceMul, Nat.reduceSub, Nat.reduceLeDiff, Nat.reduceEqDiff, reduceCtorEq, Nat.reduceBEq]
                  refine Rd_trace ?_
                  have tk1 : (out.map Tok.pc ++ (keptN l (j + 1) m).map Tok.pc).length = out.length + (keptN l (j + 1) m).length := by simp
                  have tk2 : (out.map Tok.pc ++ (keptN l (j + 1) m).map Tok.pc).take (out.length + (keptN l (j + 1) m).length) = out.map Tok.pc ++ (keptN l (j + 1) m).map Tok.pc := List.take_of_length_le (by simp)
                  simp -implicitDefEqProofs only [↓yP, yT, Nat.reduceAdd, Nat.reduceMul, Nat.reduceSub, Nat.reduceLeDiff, Nat.reduceEqDiff, reduceCtorEq, Nat.reduceBEq, rdOf, tgOf, vb1, vb4, tk1, tk2, Nat.reduceLT]
                  refine ⟨l.length - (j + 1 + m), [5], by omega, by decide, pinned_zero _, j + 1 + m, out ++ (keptN l (j + 1) m ++ [blankTok ⟨#[32]⟩ tn.start]), ((j : Nat) : Int), by (simp only [yE, Nat.reduceEqDiff, Nat.reduceAdd, reduceCtorEq]; try rfl), ?_, by omega, hlaN, by omega, by simp; omega, ?_⟩
                  · simp only [yE, Nat.reduceEqDiff, Nat.reduceAdd, reduceCtorEq, List.map_append, List.map_cons, List.map_nil, List.append_assoc, List.cons_append, List.nil_append]; try rfl
                  · rw [List.append_assoc, ← hro, ← hrun]; exact hval
  · have t1 : leI (l.length : Nat) (i : Nat) = true := leI_true (by omega)
    rw [valF_end (by omega), List.append_nil] at hval
    subst hval
    simp -implicitDefEqProofs only [↓yP, yT, Nat.reduceAdd, Nat.reduceMul, Nat.reduceSub, Nat.reduceLeDiff, Nat.reduceEqDiff, reduceCtorEq, Nat.reduceBEq, t1]
end Go.Vx.Seat
end
/- The document's colons are the program's: plain law. -/
section
open Go Go.Vx Go.Proofs
set_option linter.unusedSimpArgs false
set_option linter.unusedVariables false
namespace Go.Vx.Seat
def Shuts (k : Int) : Prop := k = 22 ∨ k = 24 ∨ k = 20
theorem closes_shuts {k : Int} (h : closes k > 0) : Shuts (closes k) := by
  unfold closes at h ⊢
  unfold Shuts
  split
  · simp
  · split
    · simp
    · split
      · simp
      · simp_all
theorem closes_20 {k : Int} (h : closes k = 20) : k = 19 := by
  unfold closes at h
  split at h
  · omega
  · split at h
    · omega
    · split at h <;> omega
theorem openAt_shuts (ts : List Tok) : ∀ (i : Nat) (k : Int), k ∈ openAt ts i → Shuts k
  | 0, k, h => by simp [openAt] at h
  | i + 1, k, h => by
    have ih := openAt_shuts ts i k
    unfold openAt at h
    split at h
    · unfold nestStep at h
      split at h
      · exact ih ((List.dropLast_sublist _).subset h)
      · split at h
        · rename_i hc
          rcases List.mem_append.mp h with h | h
          · exact ih h
          · rw [List.mem_singleton.mp h]; exact closes_shuts hc
        · exact ih h
    · exact ih h
theorem last_shuts {ts : List Tok} {i : Nat} {k : Int} (h : (openAt ts i).getLast? = some k) : Shuts k := openAt_shuts ts i k (List.mem_of_getLast? h)
theorem blocks_mem {o : List Int} (h : allBlocks o = true) {k : Int} (hk : k ∈ o) : k = 20 := by
  have := List.all_eq_true.mp h k hk
  simpa using this
theorem blocks_last {o : List Int} (h : allBlocks o = true) (hn : 0 < o.length) : o.getLast? = some 20 := by
  cases hl : o.getLast? with
  | none => rw [List.getLast?_eq_none_iff.mp hl] at hn; simp at hn
  | some a => rw [blocks_mem h (List.mem_of_getLast? hl)]
/-- What is open there is what is open here and more, and not another block. -/
def Above (ts : List Tok) (o : List Int) (k : Nat) : Prop := ∃ rest, openAt ts k = o ++ rest ∧ rest.head? ≠ some 20
theorem Above.same {ts : List Tok} {o : List Int} {k : Nat} (h : openAt ts k = o) : Above ts o k := ⟨[], by simp [h], by simp⟩
theorem Above.len {ts : List Tok} {o : List Int} {k : Nat} (h : Above ts o k) : o.length ≤ (openAt ts k).length := by
  obtain ⟨r, h1, _⟩ := h; rw [h1]; simp
theorem Above.eq {ts : List Tok} {o : List Int} {k : Nat} (h : Above ts o k) (hl : (openAt ts k).length = o.length) : openAt ts k = o := by
  obtain ⟨r, h1, _⟩ := h
  rw [h1] at hl ⊢
  have : r = [] := by cases r with | nil => rfl | cons a r => simp at hl
  simp [this]
theorem Above.blocks {ts : List Tok} {o : List Int} {k : Nat} (h : Above ts o k) (hb : allBlocks (openAt ts k) = true) : openAt ts k = o := by
  obtain ⟨r, h1, h2⟩ := h
  cases r with
  | nil => simpa using h1
  | cons a r => exact absurd (by rw [List.head?_cons, blocks_mem hb (k := a) (by rw [h1]; simp)]) h2
/-- Does what is looked at stop there? -/
def stopD (ts : List Tok) (n k : Nat) : Prop := (openAt ts k).length = n ∧ (kindAt ts k = 19 ∨ (kindAt ts k = 20 ∧ 0 < n))
theorem getLast_app {o r : List Int} (h : r ≠ []) : (o ++ r).getLast? = r.getLast? := by
  rw [List.getLast?_append]; cases hr : r.getLast? with
  | none => exact absurd (List.getLast?_eq_none_iff.mp hr) h
  | some a => rfl
theorem Above.step {ts : List Tok} {o : List Int} {k : Nat} (h : Above ts o k) (hb : allBlocks o = true) (hk : k < ts.length) (hs : ¬ stopD ts o.length k) : Above ts o (k + 1) := by
  obtain ⟨r, h1, h2⟩ := h
  have ht : ts[k]? = some ts[k] := List.getElem?_eq_getElem hk
  have hkk := kindAt_some ht
  unfold stopD at hs
  rw [Above, openAt_succ ht, ← hkk]
  generalize kindAt ts k = K at hs
  rw [h1] at hs ⊢
  unfold nestStep
  cases r with
  | nil =>
    simp only [List.append_nil] at hs ⊢
    split
    · rename_i hl
      have hm := blocks_mem hb (List.mem_of_getLast? hl)
      have : 0 < o.length := List.length_pos_of_mem (List.mem_of_getLast? hl)
      exact absurd ⟨by simp, .inr ⟨hm, this⟩⟩ hs
    · split
      · refine ⟨[closes K], rfl, fun h => ?_⟩
        have : closes K = 20 := by simpa using h
        exact hs ⟨by simp, .inl (closes_20 this)⟩
      · exact ⟨[], by simp, by simp⟩
  | cons a r =>
    split
    · refine ⟨(a :: r).dropLast, by rw [List.dropLast_append_of_ne_nil (by simp)], ?_⟩
      cases r with
      | nil => simp
      | cons b r => simpa using h2
    · split
      · exact ⟨a :: r ++ [closes K], by simp, by simpa using h2⟩
      · exact ⟨a :: r, rfl, h2⟩
theorem pl_closes {ts : List Tok} {k : Nat} (h : (openAt ts k).getLast? = some (kindAt ts k)) : (pl ts k).1 = (openAt ts k).length - 1 := by
  simp [pl, plOf, h]
theorem pl_open {ts : List Tok} {k : Nat} (h : ¬ (openAt ts k).getLast? = some (kindAt ts k)) : pl ts k = ((openAt ts k).length, allBlocks (openAt ts k), false) := by
  simp [pl, plOf, h]
theorem Above.lt {ts : List Tok} {o : List Int} {k : Nat} (h : Above ts o k) (hb : allBlocks o = true) : (pl ts k).1 < o.length ↔ (openAt ts k).length = o.length ∧ kindAt ts k = 20 ∧ 0 < o.length := by
  have hl := h.len
  by_cases hc : (openAt ts k).getLast? = some (kindAt ts k)
  · rw [pl_closes hc]
    constructor
    · intro h1
      have h2 : (openAt ts k).length = o.length := by omega
      have h3 := h.eq h2
      rw [h3] at hc
      exact ⟨h2, blocks_mem hb (List.mem_of_getLast? hc), List.length_pos_of_mem (List.mem_of_getLast? hc)⟩
    · rintro ⟨h1, h2, h3⟩
      omega
  · rw [pl_open hc]
    constructor
    · intro h1; simp only at h1; omega
    · rintro ⟨h1, h2, h3⟩
      rw [h.eq h1, h2] at hc
      exact absurd (blocks_last hb h3) hc
theorem Above.part {ts : List Tok} {o : List Int} {k : Nat} (h : Above ts o k) (hb : allBlocks o = true) (hn : ¬ (pl ts k).1 < o.length) : ((pl ts k).1 = o.length ∧ partK (kindAt ts k) = true) ↔ ((openAt ts k).length = o.length ∧ partK (kindAt ts k) = true) := by
  by_cases hc : (openAt ts k).getLast? = some (kindAt ts k)
  · have hp := pl_closes hc
    obtain ⟨r, h1, h2⟩ := h
    have hsh := last_shuts hc
    have hlen : (openAt ts k).length = o.length + r.length := by rw [h1]; simp
    cases r with
    | nil =>
      exfalso
      have : 0 < (openAt ts k).length := List.length_pos_of_mem (List.mem_of_getLast? hc)
      simp at hlen
      omega
    | cons a r =>
      constructor
      · rintro ⟨h3, h4⟩
        exfalso
        have hr : r = [] := by
          cases r with
          | nil => rfl
          | cons b r => simp at hlen; omega
        subst hr
        rw [h1, getLast_app (by simp)] at hc
        simp at hc h2
        rcases hsh with h | h | h
        · rw [h] at h4; simp [partK] at h4
        · rw [h] at h4; simp [partK] at h4
        · rw [h] at hc; exact h2 hc
      · rintro ⟨h3, h4⟩
        simp at hlen; omega
  · rw [pl_open hc]
theorem not_last {ts : List Tok} {i : Nat} {k : Int} (h : ¬ Shuts k) : ¬ (openAt ts i).getLast? = some k := fun hl => h (last_shuts hl)
/-! ### The colons -/
theorem plain_behind {ts : List Tok} {i : Nat} (hb : allBlocks (openAt ts i) = true) (hp : (pl ts i).1 = (openAt ts i).length) : ∀ (d k : Nat), k + d = ts.length → Above ts (openAt ts i) k → plainFrom ts i d k = behind ts i d k
  | 0, k, _, _ => by rw [plainFrom, behind]
  | d + 1, k, hd, ha => by
    rw [plainFrom, behind, hp]
    by_cases h1 : (pl ts k).1 < (openAt ts i).length
    · obtain ⟨h2, h3, h4⟩ := (ha.lt hb).mp h1
      rw [if_pos h1, if_pos ⟨h2, by rw [h3]; rfl⟩, h3]; rfl
    · rw [if_neg h1]
      by_cases h2 : (openAt ts k).length = (openAt ts i).length ∧ partK (kindAt ts k) = true
      · rw [if_pos ((ha.part hb h1).mpr h2), if_pos h2]
      · rw [if_neg fun h => h2 ((ha.part hb h1).mp h), if_neg h2]
        refine plain_behind hb hp d (k + 1) (by omega) (ha.step hb (by omega) ?_)
        rintro ⟨h3, h4⟩
        refine h2 ⟨h3, ?_⟩
        rcases h4 with h4 | h4
        · rw [h4]; rfl
        · rw [h4.1]; rfl
theorem part_at (ts : List Tok) (i : Nat) : (partK (kindAt ts i) = true ∧ (pl ts i).2.1 = true) ↔ partAt ts i = true := by
  rw [partAt, Bool.and_eq_true]
  refine and_congr_right fun hp => ?_
  by_cases hc : (openAt ts i).getLast? = some (kindAt ts i)
  · have hsh := last_shuts hc
    have h20 : kindAt ts i = 20 := by
      rcases hsh with h | h | h
      · rw [h] at hp; simp [partK] at hp
      · rw [h] at hp; simp [partK] at hp
      · exact h
    rw [h20] at hc
    have hd : openAt ts i = (openAt ts i).dropLast ++ [20] := by
      obtain ⟨ys, hy⟩ := List.getLast?_eq_some_iff.mp hc
      rw [hy, List.dropLast_concat]
    simp only [pl, plOf, h20, hc, if_pos]
    conv => rhs; rw [hd]
    simp [allBlocks]
  · rw [pl_open hc]
theorem back_add (ts : List Tok) : ∀ (n a b : Nat), back ts n a b = (a + (back ts n 0 0).1, b + (back ts n 0 0).2)
  | 0, a, b => by simp [back]
  | n + 1, a, b => by
    unfold back
    split
    · simp
    · split
      · exact back_add ts n a b
      · split
        · rw [back_add ts n (a + 1) b, back_add ts n (0 + 1) 0]; simp; omega
        · rw [back_add ts n a (b + 1), back_add ts n 0 (0 + 1)]; simp; omega
theorem since_back (ts : List Tok) : ∀ n : Nat, (since ts n).1 = (back ts n 0 0).1 + (back ts n 0 0).2 ∧ ((since ts n).1 = 1 → ((since ts n).2 = true ↔ (back ts n 0 0).1 = 1))
  | 0 => by simp [since, back]
  | n + 1 => by
    obtain ⟨h1, h2⟩ := since_back ts n
    have hp := part_at ts n
    unfold since back
    by_cases hq : quiet (kindAt ts n) = true
    · have hno : ¬ partAt ts n = true := by
        rw [partAt, Bool.and_eq_true]
        rintro ⟨h3, _⟩
        simp [quiet] at hq
        rcases hq with h | h <;> rw [h] at h3 <;> simp [partK] at h3
      rw [if_pos hq, if_neg hno, if_pos hq]
      exact ⟨h1, h2⟩
    · rw [if_neg hq]
      by_cases hpa : partAt ts n = true
      · rw [if_pos (hp.mpr hpa), if_pos hpa]; simp
      · rw [if_neg fun h => hpa (hp.mp h), if_neg hpa, if_neg hq]
        by_cases h3 : kindAt ts n = 1
        · rw [if_pos h3, back_add]; simp [h3]; omega
        · rw [if_neg h3, back_add]; simp [h3]; omega
theorem colon_same (ts : List Tok) {i : Nat} (hi : i < ts.length) : isColon ts i = docColon ts i := by
  rw [Bool.eq_iff_iff, isColon, docColon]
  simp only [Bool.and_eq_true, decide_eq_true_eq]
  by_cases hk : kindAt ts i = 16
  · have hno : ¬ (openAt ts i).getLast? = some (kindAt ts i) := not_last (by rw [hk]; simp [Shuts])
    have hpl := pl_open hno
    obtain ⟨s1, s2⟩ := since_back ts i
    rw [hpl]
    simp only
    by_cases hb : allBlocks (openAt ts i) = true
    · have h1 : plainAt ts i = behind ts i (ts.length - (i + 1)) (i + 1) := by
        refine plain_behind hb (by rw [hpl]) _ _ (by omega) ((Above.same rfl).step hb hi ?_)
        rintro ⟨_, h⟩
        rw [hk] at h; simp at h
      rw [h1]
      constructor
      · rintro ⟨⟨⟨⟨⟨_, _⟩, h2⟩, h3⟩, h4⟩, h5⟩
        have h6 := (s2 h3).mp h4
        refine ⟨⟨⟨⟨hk, by omega⟩, hb⟩, ?_⟩, h5⟩
        exact Prod.ext h6 (by simp only; omega)
      · rintro ⟨⟨⟨⟨_, h2⟩, _⟩, h3⟩, h5⟩
        rw [h3] at s1 s2
        have h4 : (since ts i).1 = 1 := by simpa using s1
        exact ⟨⟨⟨⟨⟨hk, hb⟩, by omega⟩, h4⟩, (s2 h4).mpr rfl⟩, h5⟩
    · simp [hb]
  · simp [hk]
theorem colons_same (ts : List Tok) : colonsP ts ts.length = colonsTo ts ts.length := by
  rw [colonsP, colonsTo]
  congr 1
  refine List.filter_congr fun i hi => colon_same ts (by simpa using hi)
end Go.Vx.Seat
end
/- CvalueTells: the walk. -/
section
open Go Go.Vx Go.Proofs
set_option linter.unusedSimpArgs false
set_option linter.unusedVariables false
set_option maxRecDepth 10000
set_option maxHeartbeats 8000000
namespace Go.Vx.Seat
attribute [local congr] Rg_at Rt_at Ro_at Ri_at Rc_at Rto_at Rtk_at Rtf_at Rti_at
attribute [local irreducible] Rg Rt Ro Ri Rc Rto Rtk Rtf Rti Rw Rl Rd Rcall Rtcall kf
theorem fn3 : nth C1.P.funcs.toList 3 = some Try.f3 := by kernel_rfl
theorem valF_length (ts : List Tok) (cols : List Int) : ∀ (n i : Nat), ts.length - i ≤ n → (valF ts cols i).length ≤ ts.length - i
  | 0, i, h => by rw [valF_end (by omega)]; simp
  | n + 1, i, h => by
    rw [valF]
    split
    · rename_i hi
      split
      · have hq := qend_ge ts (ts.length - (i + 1)) (i + 1)
        generalize qend ts (ts.length - (i + 1)) (i + 1) = k at hq
        have h1 := runOut_length ts cols i (k - i)
        rw [show i + (k - i) = k by omega] at h1
        have h2 := valF_length ts cols n k (by omega)
        simp; omega
      · have h2 := valF_length ts cols n (i + 1) (by omega)
        simp; omega
    · simp
theorem value_length (ts : List Tok) : (valueD ts).length ≤ ts.length := valF_length ts _ ts.length 0 (by omega)
theorem of_value (ts : List Tok) : ofP ts = valueD ts := by rw [ofP, valueD, colons_same]
theorem giveT (ts : List Tok) : yfzC [.row 13 (ts.map Tok.pc)] (.own 0 13 0 ts.length) = some (.p (rT ts), [.dead]) := by
  have h : nth [Ent.row 13 (ts.map Tok.pc)] 0 = some (.row 13 (ts.map Tok.pc)) := rfl
  simp [yfzC, yrow, h, List.take_of_length_le]
theorem aliveC_spec : PCall C1 8 [] fun y => y = yd (.bool true) := PCall_told0 (by rfl) (by rfl)
theorem ubool : Try.prog.underlying 4 = some .bool := by kernel_rfl
theorem tellsC_spec (l m : List Tok) (s : ByteArray) (hl : l.length ≤ maxL) (hm : m.length ≤ maxL) : PCall C1 3 [.c (.p (rT l)), .c (.p (rT m)), yd (.string s)] fun y => y = yd (.bool true) := by
  refine Pf (by rfl) (by rfl) fn3 (by rfl) ?_
  simp only [Try.f3, List.length_cons, List.length_nil, List.replicate, List.cons_append, List.nil_append]
  simp -implicitDefEqProofs only [↓yP, yT, Nat.reduceAdd, Nat.reduceMul, Nat.reduceSub, Nat.reduceLeDiff, Nat.reduceEqDiff, reduceCtorEq, Nat.reduceBEq]
  refine Rcall_pure aliveC_spec (by rfl) fun y hy => ?_
  subst hy
  simp -implicitDefEqProofs only [↓yP, yT, Nat.reduceAdd, Nat.reduceMul, Nat.reduceSub, Nat.reduceLeDiff, Nat.reduceEqDiff, reduceCtorEq, Nat.reduceBEq]
  refine Rcall_pure (fewX_spec l hl) (by rfl) fun y hy => ?_
  obtain ⟨b, rfl, hb⟩ := hy
  cases b with
  | false =>
    simp -implicitDefEqProofs only [↓yP, yT, Nat.reduceAdd, Nat.reduceMul, Nat.reduceSub, Nat.reduceLeDiff, Nat.reduceEqDiff, reduceCtorEq, Nat.reduceBEq]
  | true =>
    obtain ⟨hl6, hlt⟩ := hb rfl
    simp -implicitDefEqProofs only [↓yP, yT, Nat.reduceAdd, Nat.reduceMul, Nat.reduceSub, Nat.reduceLeDiff, Nat.reduceEqDiff, reduceCtorEq, Nat.reduceBEq]
    refine Rcall_pure (fewX_spec m hm) (by rfl) fun y hy => ?_
    obtain ⟨b, rfl, hb⟩ := hy
    cases b with
    | false =>
      simp -implicitDefEqProofs only [↓yP, yT, Nat.reduceAdd, Nat.reduceMul, Nat.reduceSub, Nat.reduceLeDiff, Nat.reduceEqDiff, reduceCtorEq, Nat.reduceBEq]
    | true =>
      obtain ⟨hm6, hmt⟩ := hb rfl
      by_cases hs : (strOf s).length ≤ 200
      · have t1 : leI ((strOf s).length : Nat) 200 = true := leI_true (by omega)
        have hcl := colonsP_length l l.length
        simp -implicitDefEqProofs only [↓yP, yT, Nat.reduceAdd, Nat.reduceMul, Nat.reduceSub, Nat.reduceLeDiff, Nat.reduceEqDiff, reduceCtorEq, Nat.reduceBEq, opLen.eq_1, t1]
        refine Rcall_pure (colonsP_spec l (by omega)) (by rfl) fun y hy => ?_
        subst hy
        simp -implicitDefEqProofs only [↓yP, yT, Nat.reduceAdd, Nat.reduceMul, Nat.reduceSub, Nat.reduceLeDiff, Nat.reduceEqDiff, reduceCtorEq, Nat.reduceBEq]
        refine Rcall_pure (colons_spec l (by omega)) (by rfl) fun y hy => ?_
        subst hy
        rw [← colons_same]
        generalize colonsP l l.length = cols at hcl
        simp -implicitDefEqProofs only [↓yP, yT, Nat.reduceAdd, Nat.reduceMul, Nat.reduceSub, Nat.reduceLeDiff, Nat.reduceEqDiff, reduceCtorEq, Nat.reduceBEq, eqI_true]
        refine Rcall_pure (keepsC_spec s (by omega)) (by rfl) fun y hy => ?_
        subst hy
        simp -implicitDefEqProofs only [↓yP, yT, Nat.reduceAdd, Nat.reduceMul, Nat.reduceSub, Nat.reduceLeDiff, Nat.reduceEqDiff, reduceCtorEq, Nat.reduceBEq]
        refine Rcall_pure (keepsR_spec s (by omega)) (by rfl) fun y hy => ?_
        subst hy
        have hbb : (keepB s == keepB s) = true := by simp
        simp -implicitDefEqProofs only [↓yP, yT, Nat.reduceAdd, Nat.reduceMul, Nat.reduceSub, Nat.reduceLeDiff, Nat.reduceEqDiff, reduceCtorEq, Nat.reduceBEq, ubool, hbb]
        refine Rcall_pure (same_spec l m (by omega) (by omega)) (by rfl) fun y hy => ?_
        obtain ⟨b1, rfl, hb1⟩ := hy
        simp -implicitDefEqProofs only [↓yP, yT, Nat.reduceAdd, Nat.reduceMul, Nat.reduceSub, Nat.reduceLeDiff, Nat.reduceEqDiff, reduceCtorEq, Nat.reduceBEq]
        refine Rcall_pure (sameCss_spec l m (by omega) (by omega)) (by rfl) fun y hy => ?_
        obtain ⟨b2, rfl, hb2⟩ := hy
        obtain rfl : b1 = b2 := by rw [Bool.eq_iff_iff, hb1, hb2]
        have hbc : (b1 == b1) = true := by simp
        simp -implicitDefEqProofs only [↓yP, yT, Nat.reduceAdd, Nat.reduceMul, Nat.reduceSub, Nat.reduceLeDiff, Nat.reduceEqDiff, reduceCtorEq, Nat.reduceBEq, ubool, hbc]
        refine Rl_inv (fun d e s => ∃ i : Nat, e = ([.c (.p (rT l)), .c .top, .c .top, .c .top, .c .top, .c .top, .c .top, .c .top, .c (.p (rI cols)), .c (.p (rI cols)), yd (.int .i64 (i : Nat)), .c .top, .c .top, .c .top, .c .top, .c .top, .c .top, .c .top, .c .top, .c .top, .c .top, .c .top, .c .top, .c .top, .c .top, .c .top, .c .top, .c .top, .c .top, .c .top, .c .top, .c .top, .c .top, .c .top, .c .top, .c .top, .c .top, .c .top, .c .top, .c .top, .c .top, .c .top, .c .top, .c .top, .c .top, .c .top, .c .top, .c .top, .c .top, .c .top, .c .top, .c .top, .c .top, .c .top, .c .top, .c .top, .c .top, .c .top, .c .top, .c .top, .c .top, .c .top, .c .top, .c .top, .c .top, .c .top, .c .top, .c .top, .c .top, .c .top, .c .top, .c .top, .c .top, .c .top, .c .top, .c .top]) ∧ s = [] ∧ i + d = cols.length) [true, false, false, false, false, false, false, false, true, true, true] cols.length [] (by decide) (pinned_zero _) ⟨0, by (simp only [yE, Nat.reduceEqDiff, Nat.reduceAdd, reduceCtorEq]; try rfl), rfl, by omega⟩ ?_
        rintro d e st ⟨i, rfl, rfl, hd⟩
        by_cases hi : i < cols.length
        · obtain ⟨a, ha⟩ := get_lt hi
          have t2 : leI (cols.length : Nat) (i : Nat) = false := leI_false (by omega)
          have w1 : wrapK .i64 ((i : Int) + 1) = ((i + 1 : Nat) : Int) := wrap_succ (by omega)
          simp -implicitDefEqProofs only [↓yP, yT, Nat.reduceAdd, Nat.reduceMul, Nat.reduceSub, Nat.reduceLeDiff, Nat.reduceEqDiff, reduceCtorEq, Nat.reduceBEq, t2]
          refine Rd_calm (by rw [C1_P]; kernel_rfl) ?_
          simp -implicitDefEqProofs only [↓yP, yT, Nat.reduceAdd, Nat.reduceMul, Nat.reduceSub, Nat.reduceLeDiff, Nat.reduceEqDiff, reduceCtorEq, Nat.reduceBEq, get_map ha, ei, eqI_true, w1]
          refine ⟨d - 1, [], by omega, by decide, pinned_zero _, i + 1, by (simp only [yE, Nat.reduceEqDiff, Nat.reduceAdd, reduceCtorEq]; try rfl), rfl, by omega⟩
        · have t2 : leI (cols.length : Nat) (i : Nat) = true := leI_true (by omega)
          have hg : (l.length * 128 ≤ 70368744177664) = True := by simp; omega
          simp -implicitDefEqProofs only [↓yP, yT, Nat.reduceAdd, Nat.reduceMul, Nat.reduceSub, Nat.reduceLeDiff, Nat.reduceEqDiff, reduceCtorEq, Nat.reduceBEq, t2, hg]
          refine Rcall_give (giveT l) (of_spec l (by omega) (fun t ht => by have := hlt t ht; omega)) (by rfl) fun y hy => ?_
          subst hy
          rw [of_value]
          simp -implicitDefEqProofs only [↓yP, yT, Nat.reduceAdd, Nat.reduceMul, Nat.reduceSub, Nat.reduceLeDiff, Nat.reduceEqDiff, reduceCtorEq, Nat.reduceBEq]
          refine Rcall_pure (valueX_spec l (by omega) (fun t ht => by have := hlt t ht; omega)) (by rfl) fun y hy => ?_
          subst hy
          have hvl := value_length l
          simp -implicitDefEqProofs only [↓yP, yT, Nat.reduceAdd, Nat.reduceMul, Nat.reduceSub, Nat.reduceLeDiff, Nat.reduceEqDiff, reduceCtorEq, Nat.reduceBEq]
          refine Rcall_pure (sameTok_refl (valueD l) (by omega)) (by rfl) fun y hy => ?_
          subst hy
          simp -implicitDefEqProofs only [↓yP, yT, Nat.reduceAdd, Nat.reduceMul, Nat.reduceSub, Nat.reduceLeDiff, Nat.reduceEqDiff, reduceCtorEq, Nat.reduceBEq]
      · have t1 : leI ((strOf s).length : Nat) 200 = false := leI_false (by omega)
        simp -implicitDefEqProofs only [↓yP, yT, Nat.reduceAdd, Nat.reduceMul, Nat.reduceSub, Nat.reduceLeDiff, Nat.reduceEqDiff, reduceCtorEq, Nat.reduceBEq, opLen.eq_1, t1]
end Go.Vx.Seat
end
/- What the law's arguments read as: rows of tokens. -/
section
open Go Go.Vx Go.Proofs Go.RowKit
set_option linter.unusedSimpArgs false
set_option linter.unusedVariables false
set_option maxRecDepth 100000
namespace Go.Vx.Seat
theorem ce3 : Try.prog.cellsOf 3 = 1 := by kernel_rfl
theorem ce4 : Try.prog.cellsOf 4 = 1 := by kernel_rfl
theorem ce9 : Try.prog.cellsOf 9 = 1 := by kernel_rfl
theorem ce22 : Try.prog.cellsOf 22 = 1 := by kernel_rfl
theorem ceN : Try.prog.cellsOf 35 = 3 := by kernel_rfl
theorem ceC : Try.prog.cellsOf 36 = 4 := by kernel_rfl
theorem ceT : Try.prog.cellsOf 38 = 13 := by kernel_rfl
theorem beT : Try.prog.bytesOf 38 = 128 := by kernel_rfl
section
variable {D : Type} {enc : TypeId × Value → D} {w : World} {base : Nat}
theorem rd_int {m : Nat} {v : Value} {x : DataW D × List MemPlace} (h : DataW.trod enc Try.prog w 0 (fun _ => true) true m 3 [v] = some x) : ∃ n, v = .int .i64 n := by
  obtain ⟨n, h1, _⟩ := DataW.trod_int Try.underlying3 h
  exact ⟨n, by simpa using h1⟩
theorem rd_bool {m : Nat} {v : Value} {x : DataW D × List MemPlace} (h : DataW.trod enc Try.prog w 0 (fun _ => true) true m 4 [v] = some x) : ∃ b, v = .bool b := by
  obtain ⟨n, h1, _⟩ := DataW.trod_bool Try.underlying4 h
  exact ⟨n, by simpa using h1⟩
theorem rd_str {m : Nat} {v : Value} {x : DataW D × List MemPlace} (h : DataW.trod enc Try.prog w 0 (fun _ => true) true m 9 [v] = some x) : ∃ s, v = .string s := by
  obtain ⟨n, h1, _⟩ := DataW.trod_string Try.underlying9 h
  exact ⟨n, by simpa using h1⟩
theorem rd_num {m : Nat} {a b c : Value} {x : DataW D × List MemPlace} (h : DataW.trod enc Try.prog w 0 (fun _ => true) true m 35 [a, b, c] = some x) : ∃ n s t, a = .bool n ∧ b = .string s ∧ c = .string t := by
  obtain ⟨xs, n, rfl, _, _, hn, hf⟩ := DataW.trod_struct Try.underlying35 h
  match xs, hn with
  | [x0, x1, x2], _ =>
    have f0 : DataW.trod enc Try.prog w 0 (fun _ => true) true n 4 [a] = some x0 := by simpa [ce4] using hf 0 _ rfl
    have f1 : DataW.trod enc Try.prog w 0 (fun _ => true) true n 9 [b] = some x1 := by simpa [ce9] using hf 1 _ rfl
    have f2 : DataW.trod enc Try.prog w 0 (fun _ => true) true n 9 [c] = some x2 := by simpa [ce9] using hf 2 _ rfl
    obtain ⟨_, rfl⟩ := rd_bool f0
    obtain ⟨_, rfl⟩ := rd_str f1
    obtain ⟨_, rfl⟩ := rd_str f2
    exact ⟨_, _, _, rfl, rfl, rfl⟩
theorem rd_col {m : Nat} {a b c d : Value} {x : DataW D × List MemPlace} (h : DataW.trod enc Try.prog w 0 (fun _ => true) true m 36 [a, b, c, d] = some x) : ∃ i j k l, a = .int .i64 i ∧ b = .int .i64 j ∧ c = .int .i64 k ∧ d = .int .i64 l := by
  obtain ⟨xs, n, rfl, _, _, hn, hf⟩ := DataW.trod_array Try.underlying36 h
  match xs, hn with
  | [x0, x1, x2, x3], _ =>
    have f0 : DataW.trod enc Try.prog w 0 (fun _ => true) true n 3 [a] = some x0 := by simpa [ce3] using hf 0 (by omega)
    have f1 : DataW.trod enc Try.prog w 0 (fun _ => true) true n 3 [b] = some x1 := by simpa [ce3] using hf 1 (by omega)
    have f2 : DataW.trod enc Try.prog w 0 (fun _ => true) true n 3 [c] = some x2 := by simpa [ce3] using hf 2 (by omega)
    have f3 : DataW.trod enc Try.prog w 0 (fun _ => true) true n 3 [d] = some x3 := by simpa [ce3] using hf 3 (by omega)
    obtain ⟨_, rfl⟩ := rd_int f0
    obtain ⟨_, rfl⟩ := rd_int f1
    obtain ⟨_, rfl⟩ := rd_int f2
    obtain ⟨_, rfl⟩ := rd_int f3
    exact ⟨_, _, _, _, rfl, rfl, rfl, rfl⟩
theorem lays_tok (m : Nat) : Lays enc Try.prog w base m 38 fun ps => ∃ t : Tok, ps = t.pc := by
  intro cs x φ h hi hx _
  obtain ⟨xs, n, rfl, _, hl, hn, hf⟩ := DataW.trod_struct Try.underlying38 hx
  rw [ceT] at hl
  match cs, hl, xs, hn with
  | [a0, a1, a2, a3, a4, a5, a6, a7, a8, a9, a10, a11, a12], _, [x0, x1, x2, x3, x4, x5, x6, x7], _ =>
    have f0 : DataW.trod enc Try.prog w 0 (fun _ => true) true n 3 [a0] = some x0 := by simpa [ce3] using hf 0 _ rfl
    have f1 : DataW.trod enc Try.prog w 0 (fun _ => true) true n 9 [a1] = some x1 := by simpa [ce9] using hf 1 _ rfl
    have f2 : DataW.trod enc Try.prog w 0 (fun _ => true) true n 9 [a2] = some x2 := by simpa [ce9] using hf 2 _ rfl
    have f3 : DataW.trod enc Try.prog w 0 (fun _ => true) true n 35 [a3, a4, a5] = some x3 := by simpa [ceN] using hf 3 _ rfl
    have f4 : DataW.trod enc Try.prog w 0 (fun _ => true) true n 4 [a6] = some x4 := by simpa [ce4] using hf 4 _ rfl
    have f5 : DataW.trod enc Try.prog w 0 (fun _ => true) true n 4 [a7] = some x5 := by simpa [ce4] using hf 5 _ rfl
    have f6 : DataW.trod enc Try.prog w 0 (fun _ => true) true n 36 [a8, a9, a10, a11] = some x6 := by simpa [ceC] using hf 6 _ rfl
    have f7 : DataW.trod enc Try.prog w 0 (fun _ => true) true n 3 [a12] = some x7 := by simpa [ce3] using hf 7 _ rfl
    obtain ⟨k, rfl⟩ := rd_int f0
    obtain ⟨s1, rfl⟩ := rd_str f1
    obtain ⟨s2, rfl⟩ := rd_str f2
    obtain ⟨b, d, e, rfl, rfl, rfl⟩ := rd_num f3
    obtain ⟨b1, rfl⟩ := rd_bool f4
    obtain ⟨b2, rfl⟩ := rd_bool f5
    obtain ⟨c0, c1, c2, c3, rfl, rfl, rfl, rfl⟩ := rd_col f6
    obtain ⟨s, rfl⟩ := rd_int f7
    exact ⟨φ, h, _, _, hi, .refl _ _, Laid.dry rfl, ⟨k, s1, s2, b, d, e, b1, b2, c0, c1, c2, c3, s⟩, rfl⟩
theorem all_map {α β : Type} {f : α → β} {p : α → Prop} : ∀ {l : List β}, (∀ x, x ∈ l → ∃ a, p a ∧ x = f a) → ∃ ys : List α, (∀ a, a ∈ ys → p a) ∧ l = ys.map f
  | [], _ => ⟨[], by simp, rfl⟩
  | x :: l, h => by
    obtain ⟨a, h1, h2⟩ := h x (List.mem_cons_self ..)
    obtain ⟨ys, h3, h4⟩ := all_map (l := l) fun y hy => h y (List.mem_cons_of_mem _ hy)
    refine ⟨a :: ys, fun b hb => ?_, by rw [h2, h4]; rfl⟩
    rcases List.mem_cons.mp hb with rfl | hb
    · exact h1
    · exact h3 b hb
theorem lays_toks {g : Nat} (hg : ∃ c el fr, w.heap[g]? = some (.cells c el fr)) (m : Nat) : Lays enc Try.prog w base m 22 fun ps => ∃ ts : List Tok, ts.length ≤ maxL ∧ ps = [rT ts] := by
  cases m with
  | zero => intro cs x φ h hi hx _; simp [DataW.trod] at hx
  | succ m =>
    intro cs x φ h hi hx hw
    obtain ⟨φ', h', us, ps, i1, g1, l1, els, rfl, hle, hE⟩ := lays_slice (lays_tok m) Try.underlying22 (by rw [ceT]; omega) hg cs x φ h hi hx hw
    rw [beT] at hle
    unfold reachBytes at hle
    obtain ⟨ts, _, rfl⟩ := all_map (f := Tok.pc) (p := fun _ => True) fun p hp => let ⟨t, ht⟩ := hE p hp; ⟨t, trivial, ht⟩
    exact ⟨φ', h', us, _, i1, g1, l1, ts, by rw [List.length_map] at hle; unfold maxL; omega, by rw [ceT]⟩
/-- A slice that comes in is nil or lies in a block. -/
theorem ground {t e : TypeId} {r : Reach} {base : Nat} {v : Value} (ht : Try.prog.underlying t = some (.slice e)) (hv : Value.okWide Try.prog w r base t v) : v = .slice none 0 0 ∨ ((∃ a n c, v = .slice (some a) n c) ∧ ∃ (g : Nat) (c : Array Value) (el : TypeId) (fr : Nat × Nat), w.heap[g]? = some (Obj.cells c el fr)) := by
  unfold Value.okWide at hv
  rw [ht] at hv
  simp only at hv
  unfold Cell.okWide at hv
  rw [ht] at hv
  simp only at hv
  unfold Cell.ok at hv
  rw [ht] at hv
  cases v with
  | slice a n c =>
    cases a with
    | none =>
      left
      split at hv
      all_goals first | (simp_all; done) | rfl | exact hv.elim
    | some a =>
      right
      simp only at hv
      obtain ⟨_, _, hh⟩ := hv
      obtain ⟨_, _, row, cells, hs, _⟩ := hh
      refine ⟨⟨a, n, c, rfl⟩, a.block, ?_⟩
      unfold World.shape? at hs
      split at hs
      · rename_i c el fr hw; exact ⟨c, el, fr, hw⟩
      · cases hs
  | _ => simp at hv
theorem args2_in {r : Reach} {base : Nat} {v0 v1 : Value} {x0 x1 : DataW D × List MemPlace} {m0 m1 : Nat} (k0 : Value.okWide Try.prog w r base 22 v0) (k1 : Value.okWide Try.prog w r base 22 v1)
    (h0 : DataW.trod enc Try.prog w 0 (fun _ => true) true m0 22 v0.cells.toList = some x0) (h1 : DataW.trod enc Try.prog w 0 (fun _ => true) true m1 22 v1.cells.toList = some x1) (w0 : (x0.1.weights Try.prog 22).all (· ≤ reachBytes) = true) (w1 : (x1.1.weights Try.prog 22).all (· ≤ reachBytes) = true) :
    ∃ (φ : Phi) (h : H) (us : List Value) (ts ns : List Tok), Go.Vx.In w.heap.size φ h w ∧ Laid φ h us [v0, v1] [rT ts, rT ns] ∧ ts.length ≤ maxL ∧ ns.length ≤ maxL := by
  have go : (∃ (g : Nat) (c : Array Value) (el : TypeId) (fr : Nat × Nat), w.heap[g]? = some (Obj.cells c el fr)) → v0.cells.toList = [v0] → v1.cells.toList = [v1] → ∃ (φ : Phi) (h : H) (us : List Value) (ts ns : List Tok), Go.Vx.In w.heap.size φ h w ∧ Laid φ h us [v0, v1] [rT ts, rT ns] ∧ ts.length ≤ maxL ∧ ns.length ≤ maxL := by
    rintro ⟨g, hg⟩ c0 c1
    rw [c0] at h0
    rw [c1] at h1
    obtain ⟨φ1, h1', u1, p1, i1, g1, l1, ts, hts, rfl⟩ := lays_toks hg m0 _ _ _ _ (Go.Vx.In.nil w.heap.size w) h0 w0
    obtain ⟨φ2, h2', u2, p2, i2, g2, l2, ns, hns, rfl⟩ := lays_toks hg m1 _ _ _ _ i1 h1 w1
    exact ⟨φ2, h2', _, ts, ns, i2, (l1.mono g2).app l2, hts, hns⟩
  rcases ground Try.underlying22 k0 with rfl | ⟨⟨a, n, c, rfl⟩, hg⟩
  · rcases ground Try.underlying22 k1 with rfl | ⟨⟨a, n, c, rfl⟩, hg⟩
    · refine ⟨_, _, [.slice none 0 0, .slice none 0 0], [], [], Go.Vx.In.nil _ _, ⟨All2.same fun v hv => ?_, (L2.single PRep.nil).cons PRep.nil⟩, by simp, by simp⟩
      rcases List.mem_cons.mp hv with rfl | hv
      · exact CR_dry rfl
      · rw [List.mem_singleton.mp hv]; exact CR_dry rfl
    · exact go hg rfl rfl
  · rcases ground Try.underlying22 k1 with rfl | ⟨⟨a', n', c', rfl⟩, _⟩
    · exact go hg rfl rfl
    · exact go hg rfl rfl
theorem slice_VR {φ : Phi} {u v : Value} {sz : Nat} {els : List (List PC)} {R : Nat → Prop} {h : H} (hp : PRep R h (.row sz els) u) (hc : CR φ u v) : VR φ u v := by
  rcases hp.lay with ⟨rfl, _⟩ | ⟨b, off, blk, rfl, _⟩ <;> exact hc
theorem maxlen {w : World} (h : w.ShapedOpen Try.prog) : 0 < w.heap.size ∧ ∃ m : Int, w.cell? ⟨0, 0, none⟩ = some (.int .i64 m) := by
  obtain ⟨m, hm⟩ := cell_of_shapedOpen_int (P := Try.prog) (w := w) (g := 0) (t := 3) (zero := #[.int .i64 0]) (k := .i64) h (of_decide_eq_true (by kernel_rfl)) (by kernel_rfl) rfl (by kernel_rfl) (by kernel_rfl) Try.underlying3
  refine ⟨?_, m, hm⟩
  unfold World.cell? at hm
  apply Classical.byContradiction
  intro hc
  rw [Array.getElem?_eq_none (by simpa using hc)] at hm
  cases hm
theorem tellsC_calls {r : Reach} {base : Nat} {v0 v1 : Value} {s : ByteArray} {x0 x1 : DataW D × List MemPlace} {m0 m1 : Nat} (hsh : w.ShapedOpen Try.prog) (k0 : Value.okWide Try.prog w r base 22 v0) (k1 : Value.okWide Try.prog w r base 22 v1)
    (h0 : DataW.trod enc Try.prog w 0 (fun _ => true) true m0 22 v0.cells.toList = some x0) (h1 : DataW.trod enc Try.prog w 0 (fun _ => true) true m1 22 v1.cells.toList = some x1) (w0 : (x0.1.weights Try.prog 22).all (· ≤ reachBytes) = true) (w1 : (x1.1.weights Try.prog 22).all (· ≤ reachBytes) = true) :
    Calls Try.prog 3 #[v0, v1, .string s] w fun e w' => e = .returned (.bool true) ∧ Below w.heap.size w w' := by
  obtain ⟨φ, h, us, ts, ns, hi, hl, b0, b1⟩ := args2_in k0 k1 h0 h1 w0 w1
  obtain ⟨hc, hp⟩ := hl
  match us, hp.1, hc, hp with
  | [u0, u1], _, hc, hp =>
    have p0 : PRep (fun b => b < h.n) h (rT ts) u0 := hp.2 0 _ _ rfl rfl
    have p1 : PRep (fun b => b < h.n) h (rT ns) u1 := hp.2 1 _ _ rfl rfl
    obtain ⟨n, v, h', hx, R', y, hy, hv, _⟩ := tellsC_spec ts ns s b0 b1 0 (fun b => b < h.n) h [u0, u1, .string s] (Nat.zero_le _) (fun b hb => hb) (L2.cons (show VRep [] (fun b => b < h.n) h (.c (.p (rT ts))) u0 from p0) (L2.cons (show VRep [] (fun b => b < h.n) h (.c (.p (rT ns))) u1 from p1) (L2.single (show VRep [] (fun b => b < h.n) h (yd (.string s)) (.string s) from PRep.d rfl))))
    subst hy
    obtain rfl : v = .bool true := by cases hv; rfl
    have ha : All2 (VR φ) [u0, u1, .string s] #[v0, v1, .string s].toList := ⟨rfl, fun i u hu => by
      match i, hu with
      | 0, hu => cases hu; obtain ⟨v, e, hr⟩ := hc.2 0 u0 rfl; exact ⟨v, e, slice_VR p0 hr⟩
      | 1, hu => cases hu; obtain ⟨v, e, hr⟩ := hc.2 1 u1 rfl; exact ⟨v, e, slice_VR p1 hr⟩
      | 2, hu => cases hu; exact ⟨_, rfl, VR_dry rfl⟩⟩
    refine Calls.mono (calls_of_xfun good1 hx rfl hi.hr ⟨Nat.le_refl _, maxlen hsh⟩ ha fun i g1 g2 => ?_) fun e w' ⟨v', he, φ', hv', st⟩ => ?_
    · cases e : φ i with
      | none => rfl
      | some l => have := hi.dom i l e; omega
    · subst he
      exact ⟨by rw [hv'.bool], st.below⟩
end
end Go.Vx.Seat
end
