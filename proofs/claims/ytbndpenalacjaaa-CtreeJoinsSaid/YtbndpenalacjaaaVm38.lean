/- Texts joined: VyL9 VyLa VyLb VyLc VyLd VyLe VyLf VyLg VyM3 VyLh VyLi. -/
import Derived.Test.YtbndpenalacjaaaVm37
import Derived.Test.YtbndpenalacjaaaVyCut
set_option linter.unusedSimpArgs false
set_option linter.unusedVariables false
section
open Go Go.Vx Go.Proofs
set_option maxRecDepth 10000
set_option maxHeartbeats 4000000
namespace Go.Vx.Seat
attribute [local irreducible] Rg Rt Ro Ri Rc Rto Rtk Rtf Rti Rw Rl Rd Rcall Rtcall kf
theorem fn74 : nth C1.P.funcs.toList 74 = some Try.f74 := by kernel_rfl
def sBytes (s : ByteArray) : List Int := (strOf s).map fun c => (c.toNat : Nat)
theorem byteCells_eb (s : ByteArray) : (byteCells s).map (fun v => [PC.d v]) = (sBytes s).map eb := by simp [byteCells, sBytes, eb]
theorem sBytes_len (s : ByteArray) : (sBytes s).length = (strOf s).length := by simp [sBytes]
theorem lower_spec (s : ByteArray) (hs : (strOf s).length ≤ 10000000) : PCall C1 59 [yd (.string s)] fun y => ∃ s' : ByteArray, y = yd (.string s') ∧ (strOf s').length = (strOf s).length := by
  have b0 : (strOf s).length ≤ 70368744177664 := by omega
  refine Pf (by rfl) (by rfl) fn59 (by rfl) ?_
  simp only [Try.f59, List.length_cons, List.length_nil, List.replicate, List.cons_append, List.nil_append]
  simp -implicitDefEqProofs only [↓yP, yT, b0, byteCells_eb]
  refine Rl_inv (fun d e st => ∃ (i : Nat) (bs : List Int), e = [Tp, Tp, Tp, .c (.own 0 1 0 bs.length), yd (.int .i64 (i : Nat)), Tp, Tp, Tp, Tp, Tp, Tp, Tp, Tp, Tp, Tp, Tp, Tp, Tp, Tp, Tp, Tp, Tp, Tp, Tp, Tp, Tp, Tp, Tp, Tp, Tp, Tp, Tp, Tp, Tp, Tp] ∧ st = [.row 1 (bs.map eb)] ∧ i + d = bs.length ∧ bs.length = (strOf s).length) [false, false, false, true, true] (strOf s).length [0] (by decide) (pinned_zero _) ⟨0, sBytes s, by rw [sBytes_len]; (simp only [yE]; try rfl), by (simp only [yE]; try rfl), by rw [sBytes_len]; omega, sBytes_len s⟩ ?_
  rintro d e st ⟨i, bs, rfl, rfl, hd, hb⟩
  by_cases hi : i < bs.length
  · obtain ⟨c, hc⟩ := get_lt hi
    have t1 : leI (bs.length : Nat) (i : Nat) = false := leI_false (by omega)
    have t0 : (0 : Int) ≤ (i : Nat) := by omega
    have t2 : ((i : Nat) : Int) < (bs.length : Nat) := by omega
    have w1 : wrapK .i64 ((i : Int) + 1) = ((i + 1 : Nat) : Int) := wrap_succ (by omega)
    cases h1 : leI 65 c with
    | false =>
      simp -implicitDefEqProofs only [↓yP, yT, t1, t0, t2, ebGet hc, h1, w1]
      refine ⟨d - 1, [0], by omega, by decide, pinned_zero _, i + 1, bs, by (simp only [yE]; try rfl), by (simp only [yE]; try rfl), by omega, hb⟩
    | true =>
      cases h2 : leI c 90 with
      | false =>
        simp -implicitDefEqProofs only [↓yP, yT, t1, t0, t2, ebGet hc, h1, h2, w1]
        refine ⟨d - 1, [0], by omega, by decide, pinned_zero _, i + 1, bs, by (simp only [yE]; try rfl), by (simp only [yE]; try rfl), by omega, hb⟩
      | true =>
        simp -implicitDefEqProofs only [↓yP, yT, t1, t0, t2, ebGet hc, h1, h2, w1]
        refine ⟨d - 1, [0], by omega, by decide, pinned_zero _, i + 1, bs.set i (wrapK .u8 (c + 32)), ?_, ?_, by simp; omega, by simp; omega⟩
        · simp only [yE, List.length_set]
        · simp only [yE, List.map_set]; rfl
  · have t1 : leI (bs.length : Nat) (i : Nat) = true := leI_true (by omega)
    simp -implicitDefEqProofs only [↓yP, yT, reduceCtorEq, t1, ybytes_eb, bytesOf_u8]
    exact ⟨bstr bs, rfl, by rw [bstr_len]; exact hb⟩
end Go.Vx.Seat
end
section
open Go Go.Vx Go.Proofs
set_option maxRecDepth 10000
set_option maxHeartbeats 4000000
namespace Go.Vx.Seat
attribute [local irreducible] Rg Rt Ro Ri Rc Rto Rtk Rtf Rti Rw Rl Rd Rcall Rtcall kf
theorem xstr_eql (a b : ByteArray) : xstr .eql a b = some (.bool (strOf a == strOf b)) := rfl
end Go.Vx.Seat
end
section
open Go Go.Vx Go.Proofs
set_option maxRecDepth 10000
set_option maxHeartbeats 4000000
namespace Go.Vx.Seat
attribute [local irreducible] Rg Rt Ro Ri Rc Rto Rtk Rtf Rti Rw Rl Rd Rcall Rtcall kf
theorem fn89 : nth C1.P.funcs.toList 89 = some Try.f89 := by kernel_rfl
theorem fn90 : nth C1.P.funcs.toList 90 = some Try.f90 := by kernel_rfl
theorem fn95 : nth C1.P.funcs.toList 95 = some Try.f95 := by kernel_rfl
theorem fn96 : nth C1.P.funcs.toList 96 = some Try.f96 := by kernel_rfl
theorem fn98 : nth C1.P.funcs.toList 98 = some Try.f98 := by kernel_rfl
theorem fn99 : nth C1.P.funcs.toList 99 = some Try.f99 := by kernel_rfl
theorem fn100 : nth C1.P.funcs.toList 100 = some Try.f100 := by kernel_rfl
theorem fn92 : nth C1.P.funcs.toList 92 = some Try.f92 := by kernel_rfl
theorem strOf_mk (l : List UInt8) : strOf (strMk l) = l := rfl
theorem run_spec (s : ByteArray) (i : Nat) (hs : (strOf s).length ≤ 100000000) (hi : i ≤ (strOf s).length) : PCall C1 89 [yd (.string s), yd (.int .i64 (i : Nat))] fun y => ∃ k : Nat, y = yd (.int .i64 (k : Nat)) ∧ i ≤ k ∧ k ≤ (strOf s).length := by
  refine Pf (by rfl) (by rfl) fn89 (by rfl) ?_
  simp only [Try.f89, List.length_cons, List.length_nil, List.replicate, List.cons_append, List.nil_append]
  simp -implicitDefEqProofs only [↓yP, yT]
  refine Rl_inv (fun d e st => ∃ (k : Nat), e = [yd (.string s), yd (.int .i64 (k : Nat)), Tp, Tp, Tp, Tp, Tp, Tp, Tp, Tp, Tp, Tp, Tp, Tp, Tp, Tp, Tp, Tp, Tp, Tp, Tp, Tp, Tp, Tp] ∧ st = [] ∧ k + d = (strOf s).length ∧ i ≤ k) [true, true] ((strOf s).length - i) [] (by decide) (pinned_zero _) ⟨i, by (simp only [yE]; try rfl), by (simp only [yE]; try rfl), by omega, by omega⟩ ?_
  rintro d e st ⟨k, rfl, rfl, hd, hk⟩
  by_cases hkl : k < (strOf s).length
  · obtain ⟨c, hc⟩ := get_lt hkl
    have t0 : (0 : Int) ≤ (k : Nat) := by omega
    have t1 : leI ((strOf s).length : Nat) (k : Nat) = false := leI_false (by omega)
    have w1 : wrapK .i64 ((k : Int) + 1) = ((k + 1 : Nat) : Int) := wrap_succ (by omega)
    cases h1 : leI 48 (c.toNat : Nat) with
    | false =>
      simp -implicitDefEqProofs only [↓yP, yT, reduceCtorEq, opLen.eq_1, xindex.eq_1, t0, t1, hc, h1]
      exact ⟨k, rfl, by omega, by omega⟩
    | true =>
      cases h2 : leI (c.toNat : Nat) 57 with
      | false =>
        simp -implicitDefEqProofs only [↓yP, yT, reduceCtorEq, opLen.eq_1, xindex.eq_1, t0, t1, hc, h1, h2]
        exact ⟨k, rfl, by omega, by omega⟩
      | true =>
        simp -implicitDefEqProofs only [↓yP, yT, opLen.eq_1, xindex.eq_1, t0, t1, hc, h1, h2, w1]
        refine ⟨d - 1, [], by omega, by decide, pinned_zero _, k + 1, by (simp only [yE]; try rfl), rfl, by omega, by omega⟩
  · have t1 : leI ((strOf s).length : Nat) (k : Nat) = true := leI_true (by omega)
    simp -implicitDefEqProofs only [↓yP, yT, reduceCtorEq, opLen.eq_1, t1]
    exact ⟨k, rfl, by omega, by omega⟩
theorem stripped_spec (s : ByteArray) (hs : (strOf s).length ≤ 100000000) : PCall C1 90 [yd (.string s)] fun y => ∃ s' : ByteArray, y = yd (.string s') ∧ (strOf s').length ≤ (strOf s).length := by
  refine Pf (by rfl) (by rfl) fn90 (by rfl) ?_
  simp only [Try.f90, List.length_cons, List.length_nil, List.replicate, List.cons_append, List.nil_append]
  simp -implicitDefEqProofs only [↓yP, yT]
  refine Rl_inv (fun d e st => ∃ (s' : ByteArray), e = [yd (.string s'), Tp, Tp, Tp, Tp, Tp, Tp, Tp, Tp, Tp, Tp, Tp, Tp, Tp] ∧ st = [] ∧ d = (strOf s').length ∧ (strOf s').length ≤ (strOf s).length) [true] (strOf s).length [] (by decide) (pinned_zero _) ⟨s, by (simp only [yE]; try rfl), by (simp only [yE]; try rfl), rfl, by omega⟩ ?_
  rintro d e st ⟨s', rfl, rfl, rfl, hk⟩
  by_cases h1 : 1 < (strOf s').length
  · have t1 : leI ((strOf s').length : Nat) 1 = false := leI_false (by omega)
    have t0 : (0 : Int) ≤ 0 := by omega
    have t2 : (1 : Int) ≤ ((strOf s').length : Nat) := by omega
    have t3 : (0 : Int) ≤ 1 := by omega
    obtain ⟨c, hc⟩ := get_lt (show 0 < (strOf s').length by omega)
    have h0 : Int.toNat 0 = 0 := rfl
    have h1' : Int.toNat 1 = 1 := rfl
    cases h2 : eqI (c.toNat : Nat) 48 with
    | false =>
      simp -implicitDefEqProofs only [↓yP, yT, reduceCtorEq, opLen.eq_1, xindex.eq_1, t0, t1, h0, hc, h2]
      exact ⟨s', rfl, hk⟩
    | true =>
      simp -implicitDefEqProofs only [↓yP, yT, opLen.eq_1, xindex.eq_1, xslice.eq_1, t0, t1, t2, t3, h0, h1', hc, h2]
      refine ⟨(strOf s').length - 1, [], by omega, by decide, pinned_zero _, _, by (simp only [yE]; try rfl), rfl, ?_, ?_⟩
      · simp [strOf_mk]
      · simp [strOf_mk]; omega
  · have t1 : leI ((strOf s').length : Nat) 1 = true := leI_true (by omega)
    simp -implicitDefEqProofs only [↓yP, yT, reduceCtorEq, opLen.eq_1, t1]
    exact ⟨s', rfl, hk⟩
def Dg (l : List UInt8) : Prop := l ≠ [] ∧ ∀ c, c ∈ l → 48 ≤ c.toNat ∧ c.toNat ≤ 57
theorem xstr_neq (a b : ByteArray) : xstr .neq a b = some (.bool (!(strOf a == strOf b))) := rfl
theorem digits_spec (s : ByteArray) (hs : (strOf s).length ≤ 100000000) : PCall C1 99 [yd (.string s)] fun y => ∃ b : Bool, y = yd (.bool b) ∧ (b = true → Dg (strOf s)) := by
  refine Pf (by rfl) (by rfl) fn99 (by rfl) ?_
  simp only [Try.f99, List.length_cons, List.length_nil, List.replicate, List.cons_append, List.nil_append]
  simp -implicitDefEqProofs only [↓yP, yT]
  refine Rl_inv (fun d e st => ∃ (i : Nat), e = [yd (.string s), Tp, Tp, yd (.int .i64 (i : Nat)), Tp, Tp, Tp, Tp, Tp, Tp, Tp, Tp, Tp, Tp, Tp, Tp, Tp, Tp, Tp, Tp, Tp, Tp] ∧ st = [] ∧ i + d = (strOf s).length ∧ ∀ c, c ∈ (strOf s).take i → 48 ≤ c.toNat ∧ c.toNat ≤ 57) [true, false, false, true] (strOf s).length [] (by decide) (pinned_zero _) ⟨0, by (simp only [yE]; try rfl), by (simp only [yE]; try rfl), by omega, by simp⟩ ?_
  rintro d e st ⟨k, rfl, rfl, hd, hk⟩
  by_cases hkl : k < (strOf s).length
  · obtain ⟨c, hc⟩ := get_lt hkl
    have t0 : (0 : Int) ≤ (k : Nat) := by omega
    have t1 : leI ((strOf s).length : Nat) (k : Nat) = false := leI_false (by omega)
    have w1 : wrapK .i64 ((k : Int) + 1) = ((k + 1 : Nat) : Int) := wrap_succ (by omega)
    cases h1 : leI 48 (c.toNat : Nat) with
    | false =>
      simp -implicitDefEqProofs only [↓yP, yT, reduceCtorEq, opLen.eq_1, xindex.eq_1, t0, t1, hc, h1]
      exact ⟨false, rfl, fun h => by cases h⟩
    | true =>
      cases h2 : leI (c.toNat : Nat) 57 with
      | false =>
        simp -implicitDefEqProofs only [↓yP, yT, reduceCtorEq, opLen.eq_1, xindex.eq_1, t0, t1, hc, h1, h2]
        exact ⟨false, rfl, fun h => by cases h⟩
      | true =>
        simp -implicitDefEqProofs only [↓yP, yT, opLen.eq_1, xindex.eq_1, t0, t1, hc, h1, h2, w1]
        refine ⟨d - 1, [], by omega, by decide, pinned_zero _, k + 1, by (simp only [yE]; try rfl), rfl, by omega, fun c' hc' => ?_⟩
        rw [List.take_add_one, hc] at hc'
        rcases List.mem_append.mp hc' with h | h
        · exact hk c' h
        · have : c' = c := by simpa using h
          subst this
          have := of_leT h1
          have := of_leT h2
          omega
  · have t1 : leI ((strOf s).length : Nat) (k : Nat) = true := leI_true (by omega)
    rw [List.take_of_length_le (by omega)] at hk
    simp -implicitDefEqProofs only [↓yP, yT, reduceCtorEq, opLen.eq_1, t1, xstr_neq]
    refine ⟨_, rfl, fun h => ⟨fun hn => ?_, hk⟩⟩
    rw [hn] at h
    exact absurd h (by decide)
def unsg (l : List UInt8) : List UInt8 := match l with | 45 :: t => t | l => l
def DecOk (l : List UInt8) : Prop := l ≠ [] ∧ Dg (unsg l) ∧ (unsg l = [48] ∨ ∀ c, (unsg l)[0]? = some c → c.toNat ≠ 48)
theorem unsg_minus {l : List UInt8} {c : UInt8} (h : l[0]? = some c) (hc : c.toNat = 45) : unsg l = l.drop 1 := by
  cases l with
  | nil => cases h
  | cons a t =>
    have : a = c := by simpa using h
    subst this
    have : a = 45 := by rw [← UInt8.toNat_inj]; exact hc
    subst this; rfl
theorem unsg_plain {l : List UInt8} (h : ∀ c, l[0]? = some c → c.toNat ≠ 45) : unsg l = l := by
  cases l with
  | nil => rfl
  | cons a t =>
    have h1 := h a rfl
    unfold unsg
    split
    · rename_i h2
      cases h2
      exact absurd rfl h1
    · rfl
theorem rightDec_spec (s : ByteArray) (hs : (strOf s).length ≤ 100000000) : PCall C1 95 [yd (.string s)] fun y => ∃ b : Bool, y = yd (.bool b) ∧ (b = true → DecOk (strOf s)) := by
  have t00 : (0 : Int) ≤ 0 := by omega
  have i00 : Int.toNat 0 = 0 := rfl
  have i01 : Int.toNat 1 = 1 := rfl
  refine Pf (by rfl) (by rfl) fn95 (by rfl) ?_
  simp only [Try.f95, List.length_cons, List.length_nil, List.replicate, List.cons_append, List.nil_append]
  cases h1 : (strOf s == strOf ⟨#[48]⟩) with
  | true =>
    simp -implicitDefEqProofs only [↓yP, yT, reduceCtorEq, xstr_eql, h1]
    refine ⟨true, rfl, fun _ => ?_⟩
    have : strOf s = [48] := eq_of_beq h1
    rw [this]
    exact ⟨by simp, ⟨by simp [unsg], by simp [unsg]⟩, .inl rfl⟩
  | false =>
    by_cases h2 : 0 < (strOf s).length
    · obtain ⟨c, hc⟩ := get_lt h2
      have t1 : leI ((strOf s).length : Nat) 0 = false := leI_false (by omega)
      have t2 : (1 : Int) ≤ ((strOf s).length : Nat) := by omega
      have t3 : (0 : Int) ≤ 1 := by omega
      cases h3 : eqI (c.toNat : Nat) 45 with
      | true =>
        have hun := unsg_minus hc (by have := of_eqT h3; omega)
        have htk : ((strOf s).drop 1).take ((strOf s).length - 1) = (strOf s).drop 1 := List.take_of_length_le (by simp)
        simp -implicitDefEqProofs only [↓yP, yT, opLen.eq_1, xindex.eq_1, xslice.eq_1, xstr_eql, h1, t1, t00, t2, t3, i00, i01, hc, h3, htk]
        refine Rcall_pure (digits_spec _ (by first | assumption | (simp [strOf_mk]; omega))) (by rfl) fun y hy => ?_
        obtain ⟨b, rfl, hb⟩ := hy
        cases b with
        | false =>
          simp -implicitDefEqProofs only [↓yP, yT, reduceCtorEq]
          exact ⟨false, rfl, fun h => by cases h⟩
        | true =>
          have hdg := hb rfl
          try rw [strOf_mk] at hdg
          obtain ⟨z, hz⟩ : ∃ z, ((strOf s).drop 1)[0]? = some z := get_lt (List.length_pos_iff.mpr hdg.1)
          cases h5 : eqI (z.toNat : Nat) 48 with
          | true =>
            simp -implicitDefEqProofs only [↓yP, yT, reduceCtorEq, xindex.eq_1, strOf_mk, t00, i00, hz, h5]
            exact ⟨false, rfl, fun h => by cases h⟩
          | false =>
            have h5' := of_eqF h5
            simp -implicitDefEqProofs only [↓yP, yT, reduceCtorEq, xindex.eq_1, strOf_mk, t00, i00, hz, h5]
            refine ⟨true, rfl, fun _ => ⟨?_, ?_, .inr ?_⟩⟩
            · intro h; rw [h] at hdg; exact hdg.1 rfl
            · rw [hun]; exact hdg
            · rw [hun]; intro c hc h; rw [hz] at hc; cases hc; exact h5' (by omega)
      | false =>
        have hun := unsg_plain (l := strOf s) (fun c' hc' h => by rw [hc] at hc'; cases hc'; exact of_eqF h3 (by omega))
        simp -implicitDefEqProofs only [↓yP, yT, opLen.eq_1, xindex.eq_1, xstr_eql, h1, t1, t00, i00, hc, h3]
        refine Rcall_pure (digits_spec _ (by first | assumption | (simp [strOf_mk]; omega))) (by rfl) fun y hy => ?_
        obtain ⟨b, rfl, hb⟩ := hy
        cases b with
        | false =>
          simp -implicitDefEqProofs only [↓yP, yT, reduceCtorEq]
          exact ⟨false, rfl, fun h => by cases h⟩
        | true =>
          have hdg := hb rfl
          try rw [strOf_mk] at hdg
          obtain ⟨z, hz⟩ : ∃ z, (strOf s)[0]? = some z := get_lt (List.length_pos_iff.mpr hdg.1)
          cases h5 : eqI (z.toNat : Nat) 48 with
          | true =>
            simp -implicitDefEqProofs only [↓yP, yT, reduceCtorEq, xindex.eq_1, t00, i00, hz, h5]
            exact ⟨false, rfl, fun h => by cases h⟩
          | false =>
            have h5' := of_eqF h5
            simp -implicitDefEqProofs only [↓yP, yT, reduceCtorEq, xindex.eq_1, t00, i00, hz, h5]
            refine ⟨true, rfl, fun _ => ⟨?_, ?_, .inr ?_⟩⟩
            · intro h; rw [h] at hdg; exact hdg.1 rfl
            · rw [hun]; exact hdg
            · rw [hun]; intro c hc h; rw [hz] at hc; cases hc; exact h5' (by omega)
    · have t1 : leI ((strOf s).length : Nat) 0 = true := leI_true (by omega)
      have hnil : strOf s = [] := List.eq_nil_of_length_eq_zero (by omega)
      have hun : unsg (strOf s) = strOf s := by rw [hnil]; rfl
      simp -implicitDefEqProofs only [↓yP, yT, opLen.eq_1, xstr_eql, h1, t1]
      refine Rcall_pure (digits_spec s hs) (by rfl) fun y hy => ?_
      obtain ⟨b, rfl, hb⟩ := hy
      cases b with
      | false =>
        simp -implicitDefEqProofs only [↓yP, yT, reduceCtorEq]
        exact ⟨false, rfl, fun h => by cases h⟩
      | true => exact absurd hnil (hb rfl).1
theorem sign_spec (s : ByteArray) (hs : strOf s ≠ []) : PCall C1 96 [yd (.string s)] fun y => ∃ (b : Bool) (p : ByteArray), y = .tup [yd (.bool b), yd (.string p)] ∧ strOf p = unsg (strOf s) := by
  have t00 : (0 : Int) ≤ 0 := by omega
  have i00 : Int.toNat 0 = 0 := rfl
  have i01 : Int.toNat 1 = 1 := rfl
  have h2 : 0 < (strOf s).length := List.length_pos_iff.mpr hs
  refine Pf (by rfl) (by rfl) fn96 (by rfl) ?_
  simp only [Try.f96, List.length_cons, List.length_nil, List.replicate, List.cons_append, List.nil_append]
  obtain ⟨c, hc⟩ := get_lt h2
  have t2 : (1 : Int) ≤ ((strOf s).length : Nat) := by omega
  have t3 : (0 : Int) ≤ 1 := by omega
  cases h3 : eqI (c.toNat : Nat) 45 with
  | true =>
    have hun := unsg_minus hc (by have := of_eqT h3; omega)
    have htk : ((strOf s).drop 1).take ((strOf s).length - 1) = (strOf s).drop 1 := List.take_of_length_le (by simp)
    simp -implicitDefEqProofs only [↓yP, yT, xindex.eq_1, t00, i00, hc, h3]
    refine Rd_calm (by rw [C1_P]; kernel_rfl) ?_
    simp -implicitDefEqProofs only [↓yP, yT, reduceCtorEq, xslice.eq_1, t2, t3, i01, htk]
    exact ⟨true, _, rfl, by rw [hun]; rfl⟩
  | false =>
    have hun := unsg_plain (l := strOf s) (fun c' hc' h => by rw [hc] at hc'; cases hc'; exact of_eqF h3 (by omega))
    simp -implicitDefEqProofs only [↓yP, yT, reduceCtorEq, xindex.eq_1, t00, i00, hc, h3]
    exact ⟨false, s, rfl, hun.symm⟩
def smB (p q : List UInt8) : Bool := decide (p.length < q.length) || (decide (p.length = q.length) && lessBytes p q)
theorem xstr_add (a b : ByteArray) : xstr .add a b = if (strOf a).length + (strOf b).length ≤ 140737488355328 then some (.string (strMk (strOf a ++ strOf b))) else none := rfl
theorem xstr_lss (a b : ByteArray) : xstr .lss a b = some (.bool (lessBytes (strOf a) (strOf b))) := rfl
theorem smaller_spec (s t : ByteArray) : PCall C1 98 [yd (.string s), yd (.string t)] fun y => y = yd (.bool (smB (strOf s) (strOf t))) := by
  refine Pf (by rfl) (by rfl) fn98 (by rfl) ?_
  simp only [Try.f98, List.length_cons, List.length_nil, List.replicate, List.cons_append, List.nil_append]
  by_cases h1 : (strOf s).length < (strOf t).length
  · have t1 : leI ((strOf t).length : Nat) ((strOf s).length : Nat) = false := leI_false (by omega)
    simp -implicitDefEqProofs only [↓yP, yT, reduceCtorEq, opLen.eq_1, t1, smB, h1, decide_true]
  · have t1 : leI ((strOf t).length : Nat) ((strOf s).length : Nat) = true := leI_true (by omega)
    by_cases h2 : (strOf s).length = (strOf t).length
    · have t2 : eqI ((strOf s).length : Nat) ((strOf t).length : Nat) = true := by rw [h2]; exact eqI_true _
      have t3 : leI ((strOf t).length : Nat) ((strOf t).length : Nat) = true := leI_true (by omega)
      have t4 : eqI ((strOf t).length : Nat) ((strOf t).length : Nat) = true := eqI_true _
      simp -implicitDefEqProofs only [↓yP, yT, reduceCtorEq, opLen.eq_1, t3, t4, h2, xstr_lss, smB, Nat.lt_irrefl, decide_true, decide_false, Bool.true_and]
    · have t2 : eqI ((strOf s).length : Nat) ((strOf t).length : Nat) = false := eqI_false (by omega)
      simp -implicitDefEqProofs only [↓yP, yT, reduceCtorEq, opLen.eq_1, t1, t2, smB, h1, h2, decide_false, Bool.false_and]
def dgI (l : List UInt8) (i : Nat) : Int := if l.length ≤ i then 0 else wrapK .i64 (wrapK .u8 ((((l[l.length - 1 - i]?).getD 0).toNat : Nat) - 48))
theorem digit1_spec (s : ByteArray) (i : Nat) (hs : (strOf s).length ≤ 100000000) (hi : i ≤ 100000002) : PCall C1 100 [yd (.string s), yd (.int .i64 (i : Nat))] fun y => y = yd (.int .i64 (dgI (strOf s) i)) := by
  refine Pf (by rfl) (by rfl) fn100 (by rfl) ?_
  simp only [Try.f100, List.length_cons, List.length_nil, List.replicate, List.cons_append, List.nil_append]
  by_cases h1 : (strOf s).length ≤ i
  · have t1 : leI ((strOf s).length : Nat) (i : Nat) = true := leI_true (by omega)
    simp -implicitDefEqProofs only [↓yP, yT, reduceCtorEq, opLen.eq_1, t1, dgI, h1]
  · have t1 : leI ((strOf s).length : Nat) (i : Nat) = false := leI_false (by omega)
    have w1 : wrapK .i64 (((strOf s).length : Nat) - 1) = (((strOf s).length - 1 : Nat) : Int) := wrap_pred (by omega) (by omega)
    have w2 : wrapK .i64 ((((strOf s).length - 1 : Nat) : Int) - (i : Nat)) = (((strOf s).length - 1 - i : Nat) : Int) := by
      rw [show (((strOf s).length - 1 : Nat) : Int) - (i : Nat) = (((strOf s).length - 1 - i : Nat) : Int) by omega]; exact wrap_nat (by omega)
    have t2 : (0 : Int) ≤ (((strOf s).length - 1 - i : Nat) : Int) := by omega
    obtain ⟨c, hc⟩ := get_lt (show (strOf s).length - 1 - i < (strOf s).length by omega)
    simp -implicitDefEqProofs only [↓yP, yT, reduceCtorEq, opLen.eq_1, xindex.eq_1, t1, w1, w2, t2, hc, dgI, h1, Option.getD_some]
def DecS (n : Nat) : Prop := n ≤ 1000000000 → PCall C1 92 [yd (.int .i64 (n : Nat))] fun y => ∃ s : ByteArray, y = yd (.string s) ∧ (strOf s).length ≤ n + 1
theorem dec_step (n : Nat) (ih : ∀ m, m < n → DecS m) : DecS n := by
  intro hn
  refine Pf (by rfl) (by rfl) fn92 (by rfl) ?_
  simp only [Try.f92, List.length_cons, List.length_nil, List.replicate, List.cons_append, List.nil_append]
  have t0 : leI 0 (n : Nat) = true := leI_true (by omega)
  have r1 : ((n : Nat) : Int).tmod 10 = ((n % 10 : Nat) : Int) := by rw [Int.tmod_eq_emod_of_nonneg (by omega)]; omega
  have r2 : ((n : Nat) : Int).tdiv 10 = ((n / 10 : Nat) : Int) := by rw [Int.tdiv_eq_ediv_of_nonneg (by omega)]; omega
  have w1 : wrapK .i64 (((n % 10 : Nat) : Int) + 1) = ((n % 10 + 1 : Nat) : Int) := wrap_succ (by omega)
  have w2 : IntKind.wrap .i64 ((n / 10 : Nat) : Int) = ((n / 10 : Nat) : Int) := by rw [IntKind.wrap_i64]; omega
  have c1 : (0 : Int) ≤ ((n % 10 : Nat) : Int) := by omega
  have c2 : ((n % 10 : Nat) : Int) ≤ ((n % 10 + 1 : Nat) : Int) := by omega
  have c3 : ((n % 10 + 1 : Nat) : Int) ≤ ((strOf ⟨#[48, 49, 50, 51, 52, 53, 54, 55, 56, 57]⟩).length : Nat) := by show _ ≤ ((10 : Nat) : Int); omega
  have z10 : ((10 : Int) = 0) = False := by simp
  by_cases h9 : n ≤ 9
  · have t9 : leI (n : Nat) 9 = true := leI_true (by omega)
    simp -implicitDefEqProofs only [↓yP, yT, reduceCtorEq, xslice.eq_1, t0, t9, r1, w1, c1, c2, c3, z10]
    exact ⟨_, rfl, by rw [strOf_mk]; simp; omega⟩
  · have t9 : leI (n : Nat) 9 = false := leI_false (by omega)
    simp -implicitDefEqProofs only [↓yP, yT, xslice.eq_1, t0, t9, r1, r2, w1, w2, c1, c2, c3, z10]
    refine Rcall_pure (ih (n / 10) (by omega) (by omega)) (by rfl) fun y hy => ?_
    obtain ⟨s, rfl, hs⟩ := hy
    have b1 : (strOf s).length + (((strOf ⟨#[48, 49, 50, 51, 52, 53, 54, 55, 56, 57]⟩).drop (n % 10)).take (n % 10 + 1 - n % 10)).length ≤ 140737488355328 := by
      have : (((strOf ⟨#[48, 49, 50, 51, 52, 53, 54, 55, 56, 57]⟩).drop (n % 10)).take (n % 10 + 1 - n % 10)).length ≤ 1 := by simp; omega
      omega
    simp -implicitDefEqProofs only [↓yP, yT, reduceCtorEq, xstr_add, strOf_mk, b1]
    refine ⟨_, rfl, ?_⟩
    rw [strOf_mk, List.length_append]
    have : (((strOf ⟨#[48, 49, 50, 51, 52, 53, 54, 55, 56, 57]⟩).drop (n % 10)).take (n % 10 + 1 - n % 10)).length ≤ 1 := by simp; omega
    omega
theorem dec_spec (n : Nat) : DecS n := by
  induction n using Nat.strongRecOn with
  | ind n ih => exact dec_step n ih
end Go.Vx.Seat
end
section
open Go Go.Vx Go.Proofs
namespace Go.Vx.Seat
theorem wrap_u8n {n : Nat} (h : n < 256) : wrapK .u8 ((n : Nat) : Int) = (n : Nat) := by rw [wrapK_eq, IntKind.wrap_u8]; omega
theorem dg_val {l : List UInt8} (hd : Dg l) {i : Nat} (hi : i < l.length) : ∃ c, l[l.length - 1 - i]? = some c ∧ dgI l i = ((c.toNat - 48 : Nat) : Int) ∧ 48 ≤ c.toNat ∧ c.toNat ≤ 57 := by
  obtain ⟨c, hc⟩ := get_lt (show l.length - 1 - i < l.length by omega)
  have h := hd.2 c (List.mem_of_getElem? hc)
  refine ⟨c, hc, ?_, h⟩
  rw [dgI, if_neg (by omega), hc, Option.getD_some, show ((c.toNat : Nat) : Int) - 48 = ((c.toNat - 48 : Nat) : Int) by omega, wrap_u8n (by omega), wrap_nat (by omega)]
theorem dg_out {l : List UInt8} {i : Nat} (hi : l.length ≤ i) : dgI l i = 0 := by rw [dgI, if_pos hi]
def NoZ (l : List UInt8) : Prop := l = [48] ∨ ∀ c, l[0]? = some c → c.toNat ≠ 48
structure SubInv (a b : List UInt8) (i : Nat) (c : Int) : Prop where
  le : i ≤ a.length
  bit : c = 0 ∨ c = 1
  same : a.length = b.length → (c = 1 ↔ lessBytes (a.drop (a.length - i)) (b.drop (b.length - i)) = true)
  more : b.length < a.length → i = a.length → c = 0
theorem SubInv.start {a b : List UInt8} (ha : Dg a) : SubInv a b 0 0 :=
  ⟨by omega, .inl rfl, fun h => by simp [List.drop_of_length_le, lessBytes], fun _ h => absurd (List.eq_nil_of_length_eq_zero h.symm) ha.1⟩
theorem SubInv.end {a b : List UInt8} {c : Int} (h : SubInv a b a.length c) (hs : smB a b = false) : c = 0 := by
  simp only [smB, Bool.or_eq_false_iff, decide_eq_false_iff_not, Bool.and_eq_false_iff] at hs
  rcases Nat.lt_or_ge b.length a.length with g | g
  · exact h.more g rfl
  · have hl : a.length = b.length := by omega
    have hsm := h.same hl
    rw [Nat.sub_self, hl, Nat.sub_self, List.drop_zero, List.drop_zero] at hsm
    rcases hs.2 with k | k
    · exact absurd hl k
    · rcases h.bit with e | e
      · exact e
      · rw [hsm.mp e] at k; cases k
theorem drop_step {l : List UInt8} {i : Nat} {c : UInt8} (hi : i < l.length) (hc : l[l.length - 1 - i]? = some c) : l.drop (l.length - (i + 1)) = c :: l.drop (l.length - i) := by
  rw [show l.length - (i + 1) = l.length - 1 - i by omega, List.drop_eq_getElem_cons (by omega)]
  rw [List.getElem?_eq_getElem (by omega)] at hc
  rw [Option.some.inj hc, show l.length - 1 - i + 1 = l.length - i by omega]
theorem SubInv.step {a b : List UInt8} {i : Nat} {c : Int} (h : SubInv a b i c) (ha : Dg a) (hb : Dg b) (hz : NoZ a) (hle : b.length ≤ a.length) (hi : i < a.length) :
    -10 ≤ dgI a i - dgI b i - c ∧ dgI a i - dgI b i - c ≤ 9 ∧ -9 ≤ dgI a i - dgI b i ∧ dgI a i - dgI b i ≤ 9 ∧ SubInv a b (i + 1) (if dgI a i - dgI b i - c < 0 then 1 else 0) := by
  obtain ⟨x, hx, ex, x1, x2⟩ := dg_val ha hi
  rcases Nat.lt_or_ge i b.length with g | g
  · obtain ⟨y, hy, ey, y1, y2⟩ := dg_val hb g
    have hbit := h.bit
    refine ⟨by omega, by omega, by omega, by omega, ⟨by omega, by split <;> simp, fun hl => ?_, fun hm he => by omega⟩⟩
    have hs := h.same hl
    rw [drop_step hi hx, drop_step g hy, lessBytes]
    rcases Nat.lt_trichotomy x.toNat y.toNat with k | k | k
    · rw [if_pos (by omega)]
      have : decide (x < y) = true := by rw [decide_eq_true_eq]; exact UInt8.lt_iff_toNat_lt.mpr k
      simp [this]
    · have hxy : x = y := UInt8.toNat_inj.mp k
      subst hxy
      have : decide (x < x) = false := by rw [decide_eq_false_iff_not]; intro hlt; have := UInt8.lt_iff_toNat_lt.mp hlt; omega
      rw [this, Bool.false_or, beq_self_eq_true, Bool.true_and, ← hs]
      rcases hbit with e | e
      · rw [if_neg (by omega)]; simp [e]
      · rw [if_pos (by omega)]; simp [e]
    · rw [if_neg (by omega)]
      have h1 : decide (x < y) = false := by rw [decide_eq_false_iff_not]; intro hlt; have := UInt8.lt_iff_toNat_lt.mp hlt; omega
      have h2 : (x == y) = false := by rw [beq_eq_false_iff_ne]; intro e; subst e; omega
      rw [h1, h2]; simp
  · have ey := dg_out g
    have hbit := h.bit
    refine ⟨by omega, by omega, by omega, by omega, ⟨by omega, by split <;> simp, fun hl => by omega, fun hm he => ?_⟩⟩
    have h0 : a.length - 1 - i = 0 := by omega
    rw [h0] at hx
    have hne : x.toNat ≠ 48 := by
      rcases hz with e | e
      · have hb0 := List.length_pos_iff.mpr hb.1
        rw [e] at hm
        have : ([48] : List UInt8).length = 1 := rfl
        omega
      · exact e x hx
    rw [if_neg (by omega)]
end Go.Vx.Seat
end
section
open Go Go.Vx Go.Proofs
set_option maxRecDepth 10000
set_option maxHeartbeats 4000000
namespace Go.Vx.Seat
attribute [local irreducible] Rg Rt Ro Ri Rc Rto Rtk Rtf Rti Rw Rl Rd Rcall Rtcall kf
theorem fn97 : nth C1.P.funcs.toList 97 = some Try.f97 := by kernel_rfl
theorem reckonAdd_spec (a b : ByteArray) (M : Nat) (ha : (strOf a).length ≤ M) (hb : (strOf b).length ≤ M) (hm : M ≤ 60000000) : PCall C1 97 [yd (.string a), yd (.string b), yd (.bool false)] fun y => ∃ s : ByteArray, y = yd (.string s) ∧ (strOf s).length ≤ M + 1 := by
  refine Pf (by rfl) (by rfl) fn97 (by rfl) ?_
  simp only [Try.f97, List.length_cons, List.length_nil, List.replicate, List.cons_append, List.nil_append]
  simp -implicitDefEqProofs only [↓yP, yT]
  refine Rl_nil 7 1 (by decide) rfl ?_
  refine Rl_inv (fun d e s => ∃ (i : Nat) (c : Int) (bs : List Int), e = ([yd (.string a), yd (.string b), yd (.bool false), Tp, Tp, Tp, Tp, .c (.own 0 1 0 bs.length), yd (.int .i64 c), yd (.int .i64 (i : Nat)), Tp, Tp, Tp, Tp, Tp, Tp, Tp, Tp, Tp, Tp, Tp, Tp, Tp, Tp, Tp, Tp, Tp, Tp, Tp, Tp, Tp, Tp, Tp, Tp, Tp, Tp, Tp, Tp, Tp, Tp, Tp, Tp, Tp, Tp, Tp, Tp, Tp, Tp, Tp, Tp, Tp, Tp, Tp, Tp, Tp, Tp, Tp, Tp, Tp, Tp, Tp, Tp, Tp, Tp, Tp, Tp, Tp, Tp, Tp, Tp, Tp, Tp, Tp, Tp, Tp, Tp, Tp, Tp, Tp, Tp, Tp, Tp, Tp, Tp, Tp, Tp, Tp, Tp, Tp, Tp, Tp, Tp]) ∧ s = [.row 1 (bs.map eb)] ∧ bs.length = i ∧ i + d = M + 1 ∧ ((c = 0 ∨ c = 1) ∧ (M < i → c = 0))) [true, true, true, false, false, false, false, true, true, true] (M + 1) [0] (by decide) (pinned_zero _) ⟨0, 0, [], by (simp only [yE]; try rfl), by (simp only [yE]; try rfl), rfl, by omega, .inl rfl, fun h => by omega⟩ ?_
  rintro d e s ⟨i, c, bs, rfl, rfl, hbl, hd, hc, hcM⟩
  by_cases g1 : i < (strOf a).length
  · have t1 : leI ((strOf a).length : Nat) (i : Nat) = false := leI_false (by omega)
    simp -implicitDefEqProofs only [↓yP, yT, opLen.eq_1, t1]
    refine Rcall_pure (digit1_spec a i (by omega) (by omega)) (by rfl) fun y hy => ?_
    subst hy
    simp -implicitDefEqProofs only [yT]
    refine Rcall_pure (digit1_spec b i (by omega) (by omega)) (by rfl) fun y hy => ?_
    subst hy
    simp -implicitDefEqProofs only [↓yP, yT]
    generalize hx : wrapK .i64 (wrapK .i64 (dgI (strOf a) i + dgI (strOf b) i) + c) = x
    have w1 : wrapK .i64 ((i : Int) + 1) = ((i + 1 : Nat) : Int) := wrap_succ (by omega)
    have b1 : (bs.length + 1) * 1 ≤ 70368744177664 := by omega
    cases h1 : leI x 9 with
    | false =>
      cases h3 : leI 0 (wrapK .i64 (x - 10)) with
      | true =>
        simp -implicitDefEqProofs only [↓yP, yT, Nat.reduceAdd, Nat.reduceMul, Nat.reduceLeDiff, h3, w1, b1]
        refine ⟨d - 1, [2], by omega, by decide, pinned_zero _, i + 1, 1, bs ++ [wrapK .u8 (wrapK .u8 (wrapK .i64 (x - 10)) + 48)], by (simp only [yE]; try rfl), by simp only [yE, List.map_append]; rfl, by simp; omega, by omega, ?_⟩
        refine ⟨by decide, fun hM => ?_⟩
        have dga := dg_out (l := strOf a) (i := i) (by omega)
        have dgb := dg_out (l := strOf b) (i := i) (by omega)
        have hxc : x = c := by
          rw [← hx, dga, dgb]
          rcases hc with rfl | rfl <;> rfl
        first
        | rfl
        | (exfalso; have := of_leF h1; rcases hc with e | e <;> omega)
        | (exfalso; have := of_leF h2; rcases hc with e | e <;> omega)
      | false =>
        simp -implicitDefEqProofs only [↓yP, yT, Nat.reduceAdd, Nat.reduceMul, Nat.reduceLeDiff, h3, w1, b1]
        refine ⟨d - 1, [2], by omega, by decide, pinned_zero _, i + 1, 1, bs ++ [wrapK .u8 (wrapK .u8 (wrapK .i64 (wrapK .i64 (x - 10) + 10)) + 48)], by (simp only [yE]; try rfl), by simp only [yE, List.map_append]; rfl, by simp; omega, by omega, ?_⟩
        refine ⟨by decide, fun hM => ?_⟩
        have dga := dg_out (l := strOf a) (i := i) (by omega)
        have dgb := dg_out (l := strOf b) (i := i) (by omega)
        have hxc : x = c := by
          rw [← hx, dga, dgb]
          rcases hc with rfl | rfl <;> rfl
        first
        | rfl
        | (exfalso; have := of_leF h1; rcases hc with e | e <;> omega)
        | (exfalso; have := of_leF h2; rcases hc with e | e <;> omega)
    | true =>
      cases h2 : leI 0 x with
      | true =>
        simp -implicitDefEqProofs only [↓yP, yT, Nat.reduceAdd, Nat.reduceMul, Nat.reduceLeDiff, h2, w1, b1]
        refine ⟨d - 1, [2], by omega, by decide, pinned_zero _, i + 1, 0, bs ++ [wrapK .u8 (wrapK .u8 (x) + 48)], by (simp only [yE]; try rfl), by simp only [yE, List.map_append]; rfl, by simp; omega, by omega, ?_⟩
        refine ⟨by decide, fun hM => ?_⟩
        have dga := dg_out (l := strOf a) (i := i) (by omega)
        have dgb := dg_out (l := strOf b) (i := i) (by omega)
        have hxc : x = c := by
          rw [← hx, dga, dgb]
          rcases hc with rfl | rfl <;> rfl
        first
        | rfl
        | (exfalso; have := of_leF h1; rcases hc with e | e <;> omega)
        | (exfalso; have := of_leF h2; rcases hc with e | e <;> omega)
      | false =>
        simp -implicitDefEqProofs only [↓yP, yT, Nat.reduceAdd, Nat.reduceMul, Nat.reduceLeDiff, h2, w1, b1]
        refine ⟨d - 1, [2], by omega, by decide, pinned_zero _, i + 1, 1, bs ++ [wrapK .u8 (wrapK .u8 (wrapK .i64 (x + 10)) + 48)], by (simp only [yE]; try rfl), by simp only [yE, List.map_append]; rfl, by simp; omega, by omega, ?_⟩
        refine ⟨by decide, fun hM => ?_⟩
        have dga := dg_out (l := strOf a) (i := i) (by omega)
        have dgb := dg_out (l := strOf b) (i := i) (by omega)
        have hxc : x = c := by
          rw [← hx, dga, dgb]
          rcases hc with rfl | rfl <;> rfl
        first
        | rfl
        | (exfalso; have := of_leF h1; rcases hc with e | e <;> omega)
        | (exfalso; have := of_leF h2; rcases hc with e | e <;> omega)
  · have t1 : leI ((strOf a).length : Nat) (i : Nat) = true := leI_true (by omega)
    by_cases g2 : i < (strOf b).length
    · have t2 : leI ((strOf b).length : Nat) (i : Nat) = false := leI_false (by omega)
      simp -implicitDefEqProofs only [↓yP, yT, opLen.eq_1, t1, t2]
      refine Rcall_pure (digit1_spec a i (by omega) (by omega)) (by rfl) fun y hy => ?_
      subst hy
      simp -implicitDefEqProofs only [yT]
      refine Rcall_pure (digit1_spec b i (by omega) (by omega)) (by rfl) fun y hy => ?_
      subst hy
      simp -implicitDefEqProofs only [↓yP, yT]
      generalize hx : wrapK .i64 (wrapK .i64 (dgI (strOf a) i + dgI (strOf b) i) + c) = x
      have w1 : wrapK .i64 ((i : Int) + 1) = ((i + 1 : Nat) : Int) := wrap_succ (by omega)
      have b1 : (bs.length + 1) * 1 ≤ 70368744177664 := by omega
      cases h1 : leI x 9 with
      | false =>
        cases h3 : leI 0 (wrapK .i64 (x - 10)) with
        | true =>
          simp -implicitDefEqProofs only [↓yP, yT, Nat.reduceAdd, Nat.reduceMul, Nat.reduceLeDiff, h3, w1, b1]
          refine ⟨d - 1, [2], by omega, by decide, pinned_zero _, i + 1, 1, bs ++ [wrapK .u8 (wrapK .u8 (wrapK .i64 (x - 10)) + 48)], by (simp only [yE]; try rfl), by simp only [yE, List.map_append]; rfl, by simp; omega, by omega, ?_⟩
          refine ⟨by decide, fun hM => ?_⟩
          have dga := dg_out (l := strOf a) (i := i) (by omega)
          have dgb := dg_out (l := strOf b) (i := i) (by omega)
          have hxc : x = c := by
            rw [← hx, dga, dgb]
            rcases hc with rfl | rfl <;> rfl
          first
          | rfl
          | (exfalso; have := of_leF h1; rcases hc with e | e <;> omega)
          | (exfalso; have := of_leF h2; rcases hc with e | e <;> omega)
        | false =>
          simp -implicitDefEqProofs only [↓yP, yT, Nat.reduceAdd, Nat.reduceMul, Nat.reduceLeDiff, h3, w1, b1]
          refine ⟨d - 1, [2], by omega, by decide, pinned_zero _, i + 1, 1, bs ++ [wrapK .u8 (wrapK .u8 (wrapK .i64 (wrapK .i64 (x - 10) + 10)) + 48)], by (simp only [yE]; try rfl), by simp only [yE, List.map_append]; rfl, by simp; omega, by omega, ?_⟩
          refine ⟨by decide, fun hM => ?_⟩
          have dga := dg_out (l := strOf a) (i := i) (by omega)
          have dgb := dg_out (l := strOf b) (i := i) (by omega)
          have hxc : x = c := by
            rw [← hx, dga, dgb]
            rcases hc with rfl | rfl <;> rfl
          first
          | rfl
          | (exfalso; have := of_leF h1; rcases hc with e | e <;> omega)
          | (exfalso; have := of_leF h2; rcases hc with e | e <;> omega)
      | true =>
        cases h2 : leI 0 x with
        | true =>
          simp -implicitDefEqProofs only [↓yP, yT, Nat.reduceAdd, Nat.reduceMul, Nat.reduceLeDiff, h2, w1, b1]
          refine ⟨d - 1, [2], by omega, by decide, pinned_zero _, i + 1, 0, bs ++ [wrapK .u8 (wrapK .u8 (x) + 48)], by (simp only [yE]; try rfl), by simp only [yE, List.map_append]; rfl, by simp; omega, by omega, ?_⟩
          refine ⟨by decide, fun hM => ?_⟩
          have dga := dg_out (l := strOf a) (i := i) (by omega)
          have dgb := dg_out (l := strOf b) (i := i) (by omega)
          have hxc : x = c := by
            rw [← hx, dga, dgb]
            rcases hc with rfl | rfl <;> rfl
          first
          | rfl
          | (exfalso; have := of_leF h1; rcases hc with e | e <;> omega)
          | (exfalso; have := of_leF h2; rcases hc with e | e <;> omega)
        | false =>
          simp -implicitDefEqProofs only [↓yP, yT, Nat.reduceAdd, Nat.reduceMul, Nat.reduceLeDiff, h2, w1, b1]
          refine ⟨d - 1, [2], by omega, by decide, pinned_zero _, i + 1, 1, bs ++ [wrapK .u8 (wrapK .u8 (wrapK .i64 (x + 10)) + 48)], by (simp only [yE]; try rfl), by simp only [yE, List.map_append]; rfl, by simp; omega, by omega, ?_⟩
          refine ⟨by decide, fun hM => ?_⟩
          have dga := dg_out (l := strOf a) (i := i) (by omega)
          have dgb := dg_out (l := strOf b) (i := i) (by omega)
          have hxc : x = c := by
            rw [← hx, dga, dgb]
            rcases hc with rfl | rfl <;> rfl
          first
          | rfl
          | (exfalso; have := of_leF h1; rcases hc with e | e <;> omega)
          | (exfalso; have := of_leF h2; rcases hc with e | e <;> omega)
    · have t2 : leI ((strOf b).length : Nat) (i : Nat) = true := leI_true (by omega)
      by_cases g3 : c = 0
      · have t3 : leI c 0 = true := leI_true (by omega)
        simp -implicitDefEqProofs only [↓yP, yT, opLen.eq_1, t1, t2, t3]
        refine Rl_inv (fun d e s => ∃ n : Nat, e = [Tp, Tp, Tp, Tp, Tp, Tp, Tp, .c (.own 0 1 0 bs.length), Tp, Tp, Tp, yd (.int .i64 (n : Nat)), Tp, Tp, Tp, Tp, Tp, Tp, Tp, Tp, Tp, Tp, Tp, Tp, Tp, Tp, Tp, Tp, Tp, Tp, Tp, Tp, Tp, Tp, Tp, Tp, Tp, Tp, Tp, Tp, Tp, Tp, Tp, Tp, Tp, Tp, Tp, Tp, Tp, Tp, Tp, Tp, Tp, Tp, Tp, Tp, Tp, Tp, Tp, Tp, Tp, Tp, Tp, Tp, Tp, Tp, Tp, Tp, Tp, Tp, Tp, Tp, Tp, Tp, Tp, Tp, Tp, Tp, Tp, Tp, Tp, Tp, Tp, Tp, Tp, Tp, Tp, Tp, Tp, Tp, Tp, Tp] ∧ s = [.row 1 (bs.map eb)] ∧ n = d ∧ n ≤ bs.length) [false, false, false, false, false, false, false, true, false, false, false, true] bs.length [0] (by decide) (pinned_zero _) ⟨bs.length, by (simp only [yE]; try rfl), by (simp only [yE]; try rfl), rfl, by omega⟩ ?_
        rintro d1 e s ⟨n, rfl, rfl, hn1, hn2⟩
        by_cases h1n : 1 < n
        · have t5 : leI (n : Nat) 1 = false := leI_false (by omega)
          have w5 : wrapK .i64 ((n : Int) - 1) = ((n - 1 : Nat) : Int) := wrap_pred (by omega) (by omega)
          have c5 : (0 : Int) ≤ ((n - 1 : Nat) : Int) := by omega
          have c6 : ((n - 1 : Nat) : Int) < (bs.length : Nat) := by omega
          obtain ⟨z, hz⟩ := get_lt (show n - 1 < bs.length by omega)
          cases h5 : eqI z 48 with
          | true =>
            simp -implicitDefEqProofs only [↓yP, yT, t5, w5, c5, c6, ebGet hz, h5]
            refine ⟨d1 - 1, [0], by omega, by decide, pinned_zero _, n - 1, by (simp only [yE]; try rfl), by (simp only [yE]; try rfl), by omega, by omega⟩
          | false =>
            simp -implicitDefEqProofs only [↓yP, yT, t5, w5, c5, c6, ebGet hz, h5]
            refine Rl_nil 12 1 (by decide) rfl ?_
            refine Rl_inv (fun d e s => ∃ (j : Nat) (os : List Int), e = [Tp, Tp, Tp, Tp, Tp, Tp, Tp, .c (.own 0 1 0 bs.length), Tp, Tp, Tp, Tp, .c (.own 1 1 0 os.length), yd (.int .i64 ((j : Int) - 1)), Tp, Tp, Tp, Tp, Tp, Tp, Tp, Tp, Tp, Tp, Tp, Tp, Tp, Tp, Tp, Tp, Tp, Tp, Tp, Tp, Tp, Tp, Tp, Tp, Tp, Tp, Tp, Tp, Tp, Tp, Tp, Tp, Tp, Tp, Tp, Tp, Tp, Tp, Tp, Tp, Tp, Tp, Tp, Tp, Tp, Tp, Tp, Tp, Tp, Tp, Tp, Tp, Tp, Tp, Tp, Tp, Tp, Tp, Tp, Tp, Tp, Tp, Tp, Tp, Tp, Tp, Tp, Tp, Tp, Tp, Tp, Tp, Tp, Tp, Tp, Tp, Tp, Tp] ∧ s = [.row 1 (bs.map eb), .row 1 (os.map eb)] ∧ j = d ∧ j ≤ bs.length ∧ os.length + j = n) [false, false, false, false, false, false, false, true, false, false, false, false, true, true] n [0, 1] (by decide) (pinned_zero _) ⟨n, [], by first | (simp only [yE]; done) | (simp only [yE]; rfl) | (rw [show ((n - 1 : Nat) : Int) = (n : Int) - 1 by omega]; simp only [yE]; rfl), by (simp only [yE]; try rfl), rfl, by omega, by simp⟩ ?_
            rintro d2 e s ⟨j, os, rfl, rfl, hj1, hj2, hj3⟩
            cases j with
            | zero =>
              have t6 : leI 0 (((0 : Nat) : Int) - 1) = false := leI_false (by omega)
              simp -implicitDefEqProofs only [↓yP, yT, reduceCtorEq, t6, ybytes_eb, bytesOf_u8]
              exact ⟨bstr os, rfl, by rw [bstr_len]; omega⟩
            | succ j =>
              have e7 : ((j + 1 : Nat) : Int) - 1 = (j : Nat) := by omega
              have t6 : leI 0 (j : Nat) = true := leI_true (by omega)
              have c7 : (0 : Int) ≤ (j : Nat) := by omega
              have c8 : ((j : Nat) : Int) < (bs.length : Nat) := by omega
              have w8 : wrapK .i64 ((j : Int) - 1) = (j : Int) - 1 := wrap_int (by omega) (by omega)
              have b8 : (os.length + 1) * 1 ≤ 70368744177664 := by omega
              obtain ⟨z8, hz8⟩ := get_lt (show j < bs.length by omega)
              rw [e7]
              simp -implicitDefEqProofs only [↓yP, yT, Nat.reduceAdd, Nat.reduceMul, Nat.reduceLeDiff, t6, c7, c8, w8, b8, ebGet hz8]
              refine ⟨d2 - 1, [0, 3], by omega, by decide, pinned_zero _, j, os ++ [z8], by (simp only [yE, reduceCtorEq]; try rfl), ?_, by omega, by omega, by simp; omega⟩
              simp only [yE, List.map_append]; rfl
        · have t5 : leI (n : Nat) 1 = true := leI_true (by omega)
          have w5 : wrapK .i64 ((n : Int) - 1) = (n : Int) - 1 := wrap_int (by omega) (by omega)
          simp -implicitDefEqProofs only [↓yP, yT, t5, w5]
          refine Rl_nil 12 1 (by decide) rfl ?_
          refine Rl_inv (fun d e s => ∃ (j : Nat) (os : List Int), e = [Tp, Tp, Tp, Tp, Tp, Tp, Tp, .c (.own 0 1 0 bs.length), Tp, Tp, Tp, Tp, .c (.own 1 1 0 os.length), yd (.int .i64 ((j : Int) - 1)), Tp, Tp, Tp, Tp, Tp, Tp, Tp, Tp, Tp, Tp, Tp, Tp, Tp, Tp, Tp, Tp, Tp, Tp, Tp, Tp, Tp, Tp, Tp, Tp, Tp, Tp, Tp, Tp, Tp, Tp, Tp, Tp, Tp, Tp, Tp, Tp, Tp, Tp, Tp, Tp, Tp, Tp, Tp, Tp, Tp, Tp, Tp, Tp, Tp, Tp, Tp, Tp, Tp, Tp, Tp, Tp, Tp, Tp, Tp, Tp, Tp, Tp, Tp, Tp, Tp, Tp, Tp, Tp, Tp, Tp, Tp, Tp, Tp, Tp, Tp, Tp, Tp, Tp] ∧ s = [.row 1 (bs.map eb), .row 1 (os.map eb)] ∧ j = d ∧ j ≤ bs.length ∧ os.length + j = n) [false, false, false, false, false, false, false, true, false, false, false, false, true, true] n [0, 1] (by decide) (pinned_zero _) ⟨n, [], by first | (simp only [yE]; done) | (simp only [yE]; rfl) | (rw [show ((n - 1 : Nat) : Int) = (n : Int) - 1 by omega]; simp only [yE, Nat.reduceEqDiff, Nat.reduceAdd, reduceCtorEq]; rfl), by (simp only [yE]; try rfl), rfl, by omega, by simp⟩ ?_
          rintro d2 e s ⟨j, os, rfl, rfl, hj1, hj2, hj3⟩
          cases j with
          | zero =>
            have t6 : leI 0 (((0 : Nat) : Int) - 1) = false := leI_false (by omega)
            simp -implicitDefEqProofs only [↓yP, yT, reduceCtorEq, t6, ybytes_eb, bytesOf_u8]
            exact ⟨bstr os, rfl, by rw [bstr_len]; omega⟩
          | succ j =>
            have e7 : ((j + 1 : Nat) : Int) - 1 = (j : Nat) := by omega
            have t6 : leI 0 (j : Nat) = true := leI_true (by omega)
            have c7 : (0 : Int) ≤ (j : Nat) := by omega
            have c8 : ((j : Nat) : Int) < (bs.length : Nat) := by omega
            have w8 : wrapK .i64 ((j : Int) - 1) = (j : Int) - 1 := wrap_int (by omega) (by omega)
            have b8 : (os.length + 1) * 1 ≤ 70368744177664 := by omega
            obtain ⟨z8, hz8⟩ := get_lt (show j < bs.length by omega)
            rw [e7]
            simp -implicitDefEqProofs only [↓yP, yT, Nat.reduceAdd, Nat.reduceMul, Nat.reduceLeDiff, t6, c7, c8, w8, b8, ebGet hz8]
            refine ⟨d2 - 1, [0, 3], by omega, by decide, pinned_zero _, j, os ++ [z8], by (simp only [yE, reduceCtorEq]; try rfl), ?_, by omega, by omega, by simp; omega⟩
            simp only [yE, List.map_append]; rfl
      · have t3 : leI c 0 = false := leI_false (by rcases hc with e | e <;> omega)
        have hiM : i ≤ M := Nat.le_of_not_lt fun h => g3 (hcM h)
        simp -implicitDefEqProofs only [↓yP, yT, opLen.eq_1, t1, t2, t3]
        refine Rcall_pure (digit1_spec a i (by omega) (by omega)) (by rfl) fun y hy => ?_
        subst hy
        simp -implicitDefEqProofs only [yT]
        refine Rcall_pure (digit1_spec b i (by omega) (by omega)) (by rfl) fun y hy => ?_
        subst hy
        simp -implicitDefEqProofs only [↓yP, yT]
        generalize hx : wrapK .i64 (wrapK .i64 (dgI (strOf a) i + dgI (strOf b) i) + c) = x
        have w1 : wrapK .i64 ((i : Int) + 1) = ((i + 1 : Nat) : Int) := wrap_succ (by omega)
        have b1 : (bs.length + 1) * 1 ≤ 70368744177664 := by omega
        cases h1 : leI x 9 with
        | false =>
          cases h3 : leI 0 (wrapK .i64 (x - 10)) with
          | true =>
            simp -implicitDefEqProofs only [↓yP, yT, Nat.reduceAdd, Nat.reduceMul, Nat.reduceLeDiff, h3, w1, b1]
            refine ⟨d - 1, [2], by omega, by decide, pinned_zero _, i + 1, 1, bs ++ [wrapK .u8 (wrapK .u8 (wrapK .i64 (x - 10)) + 48)], by (simp only [yE]; try rfl), by simp only [yE, List.map_append]; rfl, by simp; omega, by omega, ?_⟩
            refine ⟨by decide, fun hM => ?_⟩
            have dga := dg_out (l := strOf a) (i := i) (by omega)
            have dgb := dg_out (l := strOf b) (i := i) (by omega)
            have hxc : x = c := by
              rw [← hx, dga, dgb]
              rcases hc with rfl | rfl <;> rfl
            first
            | rfl
            | (exfalso; have := of_leF h1; rcases hc with e | e <;> omega)
            | (exfalso; have := of_leF h2; rcases hc with e | e <;> omega)
          | false =>
            simp -implicitDefEqProofs only [↓yP, yT, Nat.reduceAdd, Nat.reduceMul, Nat.reduceLeDiff, h3, w1, b1]
            refine ⟨d - 1, [2], by omega, by decide, pinned_zero _, i + 1, 1, bs ++ [wrapK .u8 (wrapK .u8 (wrapK .i64 (wrapK .i64 (x - 10) + 10)) + 48)], by (simp only [yE]; try rfl), by simp only [yE, List.map_append]; rfl, by simp; omega, by omega, ?_⟩
            refine ⟨by decide, fun hM => ?_⟩
            have dga := dg_out (l := strOf a) (i := i) (by omega)
            have dgb := dg_out (l := strOf b) (i := i) (by omega)
            have hxc : x = c := by
              rw [← hx, dga, dgb]
              rcases hc with rfl | rfl <;> rfl
            first
            | rfl
            | (exfalso; have := of_leF h1; rcases hc with e | e <;> omega)
            | (exfalso; have := of_leF h2; rcases hc with e | e <;> omega)
        | true =>
          cases h2 : leI 0 x with
          | true =>
            simp -implicitDefEqProofs only [↓yP, yT, Nat.reduceAdd, Nat.reduceMul, Nat.reduceLeDiff, h2, w1, b1]
            refine ⟨d - 1, [2], by omega, by decide, pinned_zero _, i + 1, 0, bs ++ [wrapK .u8 (wrapK .u8 (x) + 48)], by (simp only [yE]; try rfl), by simp only [yE, List.map_append]; rfl, by simp; omega, by omega, ?_⟩
            refine ⟨by decide, fun hM => ?_⟩
            have dga := dg_out (l := strOf a) (i := i) (by omega)
            have dgb := dg_out (l := strOf b) (i := i) (by omega)
            have hxc : x = c := by
              rw [← hx, dga, dgb]
              rcases hc with rfl | rfl <;> rfl
            first
            | rfl
            | (exfalso; have := of_leF h1; rcases hc with e | e <;> omega)
            | (exfalso; have := of_leF h2; rcases hc with e | e <;> omega)
          | false =>
            simp -implicitDefEqProofs only [↓yP, yT, Nat.reduceAdd, Nat.reduceMul, Nat.reduceLeDiff, h2, w1, b1]
            refine ⟨d - 1, [2], by omega, by decide, pinned_zero _, i + 1, 1, bs ++ [wrapK .u8 (wrapK .u8 (wrapK .i64 (x + 10)) + 48)], by (simp only [yE]; try rfl), by simp only [yE, List.map_append]; rfl, by simp; omega, by omega, ?_⟩
            refine ⟨by decide, fun hM => ?_⟩
            have dga := dg_out (l := strOf a) (i := i) (by omega)
            have dgb := dg_out (l := strOf b) (i := i) (by omega)
            have hxc : x = c := by
              rw [← hx, dga, dgb]
              rcases hc with rfl | rfl <;> rfl
            first
            | rfl
            | (exfalso; have := of_leF h1; rcases hc with e | e <;> omega)
            | (exfalso; have := of_leF h2; rcases hc with e | e <;> omega)
theorem reckonSub_spec (a b : ByteArray) (ha : (strOf a).length ≤ 60000000) (hA : Dg (strOf a)) (hB : Dg (strOf b)) (hz : NoZ (strOf a)) (hs : smB (strOf a) (strOf b) = false) : PCall C1 97 [yd (.string a), yd (.string b), yd (.bool true)] fun y => ∃ s : ByteArray, y = yd (.string s) ∧ (strOf s).length ≤ (strOf a).length + 1 := by
  have hle : (strOf b).length ≤ (strOf a).length := by
    simp only [smB, Bool.or_eq_false_iff, decide_eq_false_iff_not] at hs
    omega
  refine Pf (by rfl) (by rfl) fn97 (by rfl) ?_
  simp only [Try.f97, List.length_cons, List.length_nil, List.replicate, List.cons_append, List.nil_append]
  simp -implicitDefEqProofs only [↓yP, yT]
  refine Rl_nil 7 1 (by decide) rfl ?_
  refine Rl_inv (fun d e s => ∃ (i : Nat) (c : Int) (bs : List Int), e = ([yd (.string a), yd (.string b), yd (.bool true), Tp, Tp, Tp, Tp, .c (.own 0 1 0 bs.length), yd (.int .i64 c), yd (.int .i64 (i : Nat)), Tp, Tp, Tp, Tp, Tp, Tp, Tp, Tp, Tp, Tp, Tp, Tp, Tp, Tp, Tp, Tp, Tp, Tp, Tp, Tp, Tp, Tp, Tp, Tp, Tp, Tp, Tp, Tp, Tp, Tp, Tp, Tp, Tp, Tp, Tp, Tp, Tp, Tp, Tp, Tp, Tp, Tp, Tp, Tp, Tp, Tp, Tp, Tp, Tp, Tp, Tp, Tp, Tp, Tp, Tp, Tp, Tp, Tp, Tp, Tp, Tp, Tp, Tp, Tp, Tp, Tp, Tp, Tp, Tp, Tp, Tp, Tp, Tp, Tp, Tp, Tp, Tp, Tp, Tp, Tp, Tp, Tp]) ∧ s = [.row 1 (bs.map eb)] ∧ bs.length = i ∧ i + d = (strOf a).length ∧ SubInv (strOf a) (strOf b) i c) [true, true, true, false, false, false, false, true, true, true] (strOf a).length [0] (by decide) (pinned_zero _) ⟨0, 0, [], by (simp only [yE]; try rfl), by (simp only [yE]; try rfl), rfl, by omega, .start hA⟩ ?_
  rintro d e s ⟨i, c, bs, rfl, rfl, hbl, hd, hinv⟩
  by_cases g1 : i < (strOf a).length
  · have t1 : leI ((strOf a).length : Nat) (i : Nat) = false := leI_false (by omega)
    obtain ⟨v1, v2, v3, v4, hstep⟩ := hinv.step hA hB hz hle g1
    simp -implicitDefEqProofs only [↓yP, yT, opLen.eq_1, t1]
    refine Rcall_pure (digit1_spec a i (by omega) (by omega)) (by rfl) fun y hy => ?_
    subst hy
    simp -implicitDefEqProofs only [yT]
    refine Rcall_pure (digit1_spec b i (by omega) (by omega)) (by rfl) fun y hy => ?_
    subst hy
    simp -implicitDefEqProofs only [↓yP, yT]
    refine Rcall_pure (digit1_spec a i (by omega) (by omega)) (by rfl) fun y hy => ?_
    subst hy
    simp -implicitDefEqProofs only [yT]
    refine Rcall_pure (digit1_spec b i (by omega) (by omega)) (by rfl) fun y hy => ?_
    subst hy
    have u1 : wrapK .i64 (dgI (strOf a) i - dgI (strOf b) i) = dgI (strOf a) i - dgI (strOf b) i := wrap_int (by omega) (by omega)
    have u2 : wrapK .i64 (dgI (strOf a) i - dgI (strOf b) i - c) = dgI (strOf a) i - dgI (strOf b) i - c := wrap_int (by omega) (by omega)
    simp -implicitDefEqProofs only [↓yP, yT, u1, u2]
    generalize hx : dgI (strOf a) i - dgI (strOf b) i - c = x at *
    clear u1 u2
    have w1 : wrapK .i64 ((i : Int) + 1) = ((i + 1 : Nat) : Int) := wrap_succ (by omega)
    have b1 : (bs.length + 1) * 1 ≤ 70368744177664 := by omega
    cases h1 : leI x 9 with
    | false =>
      cases h3 : leI 0 (wrapK .i64 (x - 10)) with
      | true =>
        simp -implicitDefEqProofs only [↓yP, yT, Nat.reduceAdd, Nat.reduceMul, Nat.reduceLeDiff, h3, w1, b1]
        refine ⟨d - 1, [2], by omega, by decide, pinned_zero _, i + 1, 1, bs ++ [wrapK .u8 (wrapK .u8 (wrapK .i64 (x - 10)) + 48)], by (simp only [yE]; try rfl), by simp only [yE, List.map_append]; rfl, by simp; omega, by omega, ?_⟩
        first
        | (exfalso; have := of_leF h1; omega)
        | (have h2' := of_leF h2; rw [if_pos (by omega)] at hstep; exact hstep)
        | (have h2' := of_leT h2; rw [if_neg (by omega)] at hstep; exact hstep)
      | false =>
        simp -implicitDefEqProofs only [↓yP, yT, Nat.reduceAdd, Nat.reduceMul, Nat.reduceLeDiff, h3, w1, b1]
        refine ⟨d - 1, [2], by omega, by decide, pinned_zero _, i + 1, 1, bs ++ [wrapK .u8 (wrapK .u8 (wrapK .i64 (wrapK .i64 (x - 10) + 10)) + 48)], by (simp only [yE]; try rfl), by simp only [yE, List.map_append]; rfl, by simp; omega, by omega, ?_⟩
        first
        | (exfalso; have := of_leF h1; omega)
        | (have h2' := of_leF h2; rw [if_pos (by omega)] at hstep; exact hstep)
        | (have h2' := of_leT h2; rw [if_neg (by omega)] at hstep; exact hstep)
    | true =>
      cases h2 : leI 0 x with
      | true =>
        simp -implicitDefEqProofs only [↓yP, yT, Nat.reduceAdd, Nat.reduceMul, Nat.reduceLeDiff, h2, w1, b1]
        refine ⟨d - 1, [2], by omega, by decide, pinned_zero _, i + 1, 0, bs ++ [wrapK .u8 (wrapK .u8 (x) + 48)], by (simp only [yE]; try rfl), by simp only [yE, List.map_append]; rfl, by simp; omega, by omega, ?_⟩
        first
        | (exfalso; have := of_leF h1; omega)
        | (have h2' := of_leF h2; rw [if_pos (by omega)] at hstep; exact hstep)
        | (have h2' := of_leT h2; rw [if_neg (by omega)] at hstep; exact hstep)
      | false =>
        simp -implicitDefEqProofs only [↓yP, yT, Nat.reduceAdd, Nat.reduceMul, Nat.reduceLeDiff, h2, w1, b1]
        refine ⟨d - 1, [2], by omega, by decide, pinned_zero _, i + 1, 1, bs ++ [wrapK .u8 (wrapK .u8 (wrapK .i64 (x + 10)) + 48)], by (simp only [yE]; try rfl), by simp only [yE, List.map_append]; rfl, by simp; omega, by omega, ?_⟩
        first
        | (exfalso; have := of_leF h1; omega)
        | (have h2' := of_leF h2; rw [if_pos (by omega)] at hstep; exact hstep)
        | (have h2' := of_leT h2; rw [if_neg (by omega)] at hstep; exact hstep)
  · have t1 : leI ((strOf a).length : Nat) (i : Nat) = true := leI_true (by omega)
    have t2 : leI ((strOf b).length : Nat) (i : Nat) = true := leI_true (by omega)
    have hi : i = (strOf a).length := by have := hinv.le; omega
    have hc0 : c = 0 := by rw [hi] at hinv; exact hinv.end hs
    have t3 : leI c 0 = true := leI_true (by omega)
    simp -implicitDefEqProofs only [↓yP, yT, opLen.eq_1, t1, t2, t3]
    refine Rl_inv (fun d e s => ∃ n : Nat, e = [Tp, Tp, Tp, Tp, Tp, Tp, Tp, .c (.own 0 1 0 bs.length), Tp, Tp, Tp, yd (.int .i64 (n : Nat)), Tp, Tp, Tp, Tp, Tp, Tp, Tp, Tp, Tp, Tp, Tp, Tp, Tp, Tp, Tp, Tp, Tp, Tp, Tp, Tp, Tp, Tp, Tp, Tp, Tp, Tp, Tp, Tp, Tp, Tp, Tp, Tp, Tp, Tp, Tp, Tp, Tp, Tp, Tp, Tp, Tp, Tp, Tp, Tp, Tp, Tp, Tp, Tp, Tp, Tp, Tp, Tp, Tp, Tp, Tp, Tp, Tp, Tp, Tp, Tp, Tp, Tp, Tp, Tp, Tp, Tp, Tp, Tp, Tp, Tp, Tp, Tp, Tp, Tp, Tp, Tp, Tp, Tp, Tp, Tp] ∧ s = [.row 1 (bs.map eb)] ∧ n = d ∧ n ≤ bs.length) [false, false, false, false, false, false, false, true, false, false, false, true] bs.length [0] (by decide) (pinned_zero _) ⟨bs.length, by (simp only [yE]; try rfl), by (simp only [yE]; try rfl), rfl, by omega⟩ ?_
    rintro d1 e s ⟨n, rfl, rfl, hn1, hn2⟩
    by_cases h1n : 1 < n
    · have t5 : leI (n : Nat) 1 = false := leI_false (by omega)
      have w5 : wrapK .i64 ((n : Int) - 1) = ((n - 1 : Nat) : Int) := wrap_pred (by omega) (by omega)
      have c5 : (0 : Int) ≤ ((n - 1 : Nat) : Int) := by omega
      have c6 : ((n - 1 : Nat) : Int) < (bs.length : Nat) := by omega
      obtain ⟨z, hz⟩ := get_lt (show n - 1 < bs.length by omega)
      cases h5 : eqI z 48 with
      | true =>
        simp -implicitDefEqProofs only [↓yP, yT, t5, w5, c5, c6, ebGet hz, h5]
        refine ⟨d1 - 1, [0], by omega, by decide, pinned_zero _, n - 1, by (simp only [yE]; try rfl), by (simp only [yE]; try rfl), by omega, by omega⟩
      | false =>
        simp -implicitDefEqProofs only [↓yP, yT, t5, w5, c5, c6, ebGet hz, h5]
        refine Rl_nil 12 1 (by decide) rfl ?_
        refine Rl_inv (fun d e s => ∃ (j : Nat) (os : List Int), e = [Tp, Tp, Tp, Tp, Tp, Tp, Tp, .c (.own 0 1 0 bs.length), Tp, Tp, Tp, Tp, .c (.own 1 1 0 os.length), yd (.int .i64 ((j : Int) - 1)), Tp, Tp, Tp, Tp, Tp, Tp, Tp, Tp, Tp, Tp, Tp, Tp, Tp, Tp, Tp, Tp, Tp, Tp, Tp, Tp, Tp, Tp, Tp, Tp, Tp, Tp, Tp, Tp, Tp, Tp, Tp, Tp, Tp, Tp, Tp, Tp, Tp, Tp, Tp, Tp, Tp, Tp, Tp, Tp, Tp, Tp, Tp, Tp, Tp, Tp, Tp, Tp, Tp, Tp, Tp, Tp, Tp, Tp, Tp, Tp, Tp, Tp, Tp, Tp, Tp, Tp, Tp, Tp, Tp, Tp, Tp, Tp, Tp, Tp, Tp, Tp, Tp, Tp] ∧ s = [.row 1 (bs.map eb), .row 1 (os.map eb)] ∧ j = d ∧ j ≤ bs.length ∧ os.length + j = n) [false, false, false, false, false, false, false, true, false, false, false, false, true, true] n [0, 1] (by decide) (pinned_zero _) ⟨n, [], by first | (simp only [yE]; done) | (simp only [yE]; rfl) | (rw [show ((n - 1 : Nat) : Int) = (n : Int) - 1 by omega]; simp only [yE]; rfl), by (simp only [yE]; try rfl), rfl, by omega, by simp⟩ ?_
        rintro d2 e s ⟨j, os, rfl, rfl, hj1, hj2, hj3⟩
        cases j with
        | zero =>
          have t6 : leI 0 (((0 : Nat) : Int) - 1) = false := leI_false (by omega)
          simp -implicitDefEqProofs only [↓yP, yT, reduceCtorEq, t6, ybytes_eb, bytesOf_u8]
          exact ⟨bstr os, rfl, by rw [bstr_len]; omega⟩
        | succ j =>
          have e7 : ((j + 1 : Nat) : Int) - 1 = (j : Nat) := by omega
          have t6 : leI 0 (j : Nat) = true := leI_true (by omega)
          have c7 : (0 : Int) ≤ (j : Nat) := by omega
          have c8 : ((j : Nat) : Int) < (bs.length : Nat) := by omega
          have w8 : wrapK .i64 ((j : Int) - 1) = (j : Int) - 1 := wrap_int (by omega) (by omega)
          have b8 : (os.length + 1) * 1 ≤ 70368744177664 := by omega
          obtain ⟨z8, hz8⟩ := get_lt (show j < bs.length by omega)
          rw [e7]
          simp -implicitDefEqProofs only [↓yP, yT, Nat.reduceAdd, Nat.reduceMul, Nat.reduceLeDiff, t6, c7, c8, w8, b8, ebGet hz8]
          refine ⟨d2 - 1, [0, 3], by omega, by decide, pinned_zero _, j, os ++ [z8], by (simp only [yE, reduceCtorEq]; try rfl), ?_, by omega, by omega, by simp; omega⟩
          simp only [yE, List.map_append]; rfl
    · have t5 : leI (n : Nat) 1 = true := leI_true (by omega)
      have w5 : wrapK .i64 ((n : Int) - 1) = (n : Int) - 1 := wrap_int (by omega) (by omega)
      simp -implicitDefEqProofs only [↓yP, yT, t5, w5]
      refine Rl_nil 12 1 (by decide) rfl ?_
      refine Rl_inv (fun d e s => ∃ (j : Nat) (os : List Int), e = [Tp, Tp, Tp, Tp, Tp, Tp, Tp, .c (.own 0 1 0 bs.length), Tp, Tp, Tp, Tp, .c (.own 1 1 0 os.length), yd (.int .i64 ((j : Int) - 1)), Tp, Tp, Tp, Tp, Tp, Tp, Tp, Tp, Tp, Tp, Tp, Tp, Tp, Tp, Tp, Tp, Tp, Tp, Tp, Tp, Tp, Tp, Tp, Tp, Tp, Tp, Tp, Tp, Tp, Tp, Tp, Tp, Tp, Tp, Tp, Tp, Tp, Tp, Tp, Tp, Tp, Tp, Tp, Tp, Tp, Tp, Tp, Tp, Tp, Tp, Tp, Tp, Tp, Tp, Tp, Tp, Tp, Tp, Tp, Tp, Tp, Tp, Tp, Tp, Tp, Tp, Tp, Tp, Tp, Tp, Tp, Tp, Tp, Tp, Tp, Tp, Tp, Tp] ∧ s = [.row 1 (bs.map eb), .row 1 (os.map eb)] ∧ j = d ∧ j ≤ bs.length ∧ os.length + j = n) [false, false, false, false, false, false, false, true, false, false, false, false, true, true] n [0, 1] (by decide) (pinned_zero _) ⟨n, [], by first | (simp only [yE]; done) | (simp only [yE]; rfl) | (rw [show ((n - 1 : Nat) : Int) = (n : Int) - 1 by omega]; simp only [yE, Nat.reduceEqDiff, Nat.reduceAdd, reduceCtorEq]; rfl), by (simp only [yE]; try rfl), rfl, by omega, by simp⟩ ?_
      rintro d2 e s ⟨j, os, rfl, rfl, hj1, hj2, hj3⟩
      cases j with
      | zero =>
        have t6 : leI 0 (((0 : Nat) : Int) - 1) = false := leI_false (by omega)
        simp -implicitDefEqProofs only [↓yP, yT, reduceCtorEq, t6, ybytes_eb, bytesOf_u8]
        exact ⟨bstr os, rfl, by rw [bstr_len]; omega⟩
      | succ j =>
        have e7 : ((j + 1 : Nat) : Int) - 1 = (j : Nat) := by omega
        have t6 : leI 0 (j : Nat) = true := leI_true (by omega)
        have c7 : (0 : Int) ≤ (j : Nat) := by omega
        have c8 : ((j : Nat) : Int) < (bs.length : Nat) := by omega
        have w8 : wrapK .i64 ((j : Int) - 1) = (j : Int) - 1 := wrap_int (by omega) (by omega)
        have b8 : (os.length + 1) * 1 ≤ 70368744177664 := by omega
        obtain ⟨z8, hz8⟩ := get_lt (show j < bs.length by omega)
        rw [e7]
        simp -implicitDefEqProofs only [↓yP, yT, Nat.reduceAdd, Nat.reduceMul, Nat.reduceLeDiff, t6, c7, c8, w8, b8, ebGet hz8]
        refine ⟨d2 - 1, [0, 3], by omega, by decide, pinned_zero _, j, os ++ [z8], by (simp only [yE, reduceCtorEq]; try rfl), ?_, by omega, by omega, by simp; omega⟩
        simp only [yE, List.map_append]; rfl
end Go.Vx.Seat
end
section
open Go Go.Vx Go.Proofs
set_option maxRecDepth 10000
set_option maxHeartbeats 4000000
namespace Go.Vx.Seat
attribute [local irreducible] Rg Rt Ro Ri Rc Rto Rtk Rtf Rti Rw Rl Rd Rcall Rtcall kf
theorem fn91 : nth C1.P.funcs.toList 91 = some Try.f91 := by kernel_rfl
theorem lessBytes_asymm : ∀ {p q : List UInt8}, lessBytes p q = true → lessBytes q p = false
  | [], [], h => by cases h
  | [], _ :: _, _ => rfl
  | _ :: _, [], h => by cases h
  | a :: p, b :: q, h => by
    simp only [lessBytes, Bool.or_eq_true, Bool.and_eq_true, decide_eq_true_eq, beq_iff_eq] at h
    simp only [lessBytes, Bool.or_eq_false_iff, Bool.and_eq_false_iff, decide_eq_false_iff_not, beq_eq_false_iff_ne]
    rcases h with h | ⟨h1, h2⟩
    · have h' := UInt8.lt_iff_toNat_lt.mp h
      refine ⟨fun k => ?_, .inl fun k => ?_⟩
      · have := UInt8.lt_iff_toNat_lt.mp k; omega
      · subst k; omega
    · subst h1
      refine ⟨fun k => ?_, .inr (lessBytes_asymm h2)⟩
      have := UInt8.lt_iff_toNat_lt.mp k; omega
theorem smB_asymm {p q : List UInt8} (h : smB p q = true) : smB q p = false := by
  simp only [smB, Bool.or_eq_true, Bool.and_eq_true, decide_eq_true_eq] at h
  simp only [smB, Bool.or_eq_false_iff, Bool.and_eq_false_iff, decide_eq_false_iff_not]
  rcases h with h | ⟨h1, h2⟩
  · exact ⟨by omega, .inl (by omega)⟩
  · exact ⟨by omega, .inr (lessBytes_asymm h2)⟩
theorem unsg_len (l : List UInt8) : (unsg l).length ≤ l.length := by
  unfold unsg; split <;> simp
theorem add_spec (a b : ByteArray) (ha : (strOf a).length ≤ 50000000) (hb : (strOf b).length ≤ 50000000) : PCall C1 91 [yd (.string a), yd (.string b)] fun y => ∃ (s : ByteArray) (ok : Bool), y = .tup [yd (.string s), yd (.bool ok)] := by
  refine Pf (by rfl) (by rfl) fn91 (by rfl) ?_
  simp only [Try.f91, List.length_cons, List.length_nil, List.replicate, List.cons_append, List.nil_append]
  simp -implicitDefEqProofs only [↓yP, yT]
  refine Rcall_pure (rightDec_spec a (by omega)) (by rfl) fun y hy => ?_
  obtain ⟨r1, rfl, hr1⟩ := hy
  cases r1 with
  | false =>
    simp -implicitDefEqProofs only [↓yP, yT, reduceCtorEq]
    exact ⟨_, _, rfl⟩
  | true =>
  obtain ⟨an, aD, aZ⟩ := hr1 rfl
  simp -implicitDefEqProofs only [yT]
  refine Rcall_pure (rightDec_spec b (by omega)) (by rfl) fun y hy => ?_
  obtain ⟨r2, rfl, hr2⟩ := hy
  cases r2 with
  | false =>
    simp -implicitDefEqProofs only [↓yP, yT, reduceCtorEq]
    exact ⟨_, _, rfl⟩
  | true =>
  obtain ⟨bn, bD, bZ⟩ := hr2 rfl
  simp -implicitDefEqProofs only [↓yP, yT]
  refine Rcall_pure (sign_spec a an) (by rfl) fun y hy => ?_
  obtain ⟨x, p, rfl, hp⟩ := hy
  simp -implicitDefEqProofs only [↓yP, yT]
  refine Rcall_pure (sign_spec b bn) (by rfl) fun y hy => ?_
  obtain ⟨z, q, rfl, hq⟩ := hy
  rw [← hp] at aD aZ
  rw [← hq] at bD bZ
  have lp : (strOf p).length ≤ 50000000 := by rw [hp]; have := unsg_len (strOf a); omega
  have lq : (strOf q).length ≤ 50000000 := by rw [hq]; have := unsg_len (strOf b); omega
  cases x <;> cases z
  · simp -implicitDefEqProofs only [↓yP, yT, beq_self_eq_true]
    refine Rcall_pure (reckonAdd_spec p q 50000000 lp lq (by omega)) (by rfl) fun y hy => ?_
    obtain ⟨s, rfl, hs⟩ := hy
    cases hq : (strOf s == strOf ⟨#[48]⟩) with
    | true =>
      simp -implicitDefEqProofs only [↓yP, yT, reduceCtorEq]
      exact ⟨_, _, rfl⟩
    | false =>
      have b1 : (strOf ⟨#[45]⟩).length + (strOf s).length ≤ 140737488355328 := by
        have : (strOf ⟨#[45]⟩).length = 1 := rfl
        omega
      simp -implicitDefEqProofs only [↓yP, yT, reduceCtorEq]
      exact ⟨_, _, rfl⟩
  · simp -implicitDefEqProofs only [↓yP, yT]
    refine Rcall_pure (smaller_spec p q) (by rfl) fun y hy => ?_
    subst hy
    cases hsm : smB (strOf p) (strOf q) with
    | true =>
      simp -implicitDefEqProofs only [↓yP, yT]
      refine Rcall_pure (reckonSub_spec q p (by omega) bD aD bZ (smB_asymm hsm)) (by rfl) fun y hy => ?_
      obtain ⟨s, rfl, hs⟩ := hy
      cases hq : (strOf s == strOf ⟨#[48]⟩) with
      | true =>
        simp -implicitDefEqProofs only [↓yP, yT, reduceCtorEq, xstr_neq, hq]
        exact ⟨_, _, rfl⟩
      | false =>
        have b1 : (strOf ⟨#[45]⟩).length + (strOf s).length ≤ 140737488355328 := by
          have : (strOf ⟨#[45]⟩).length = 1 := rfl
          omega
        simp -implicitDefEqProofs only [↓yP, yT, reduceCtorEq, xstr_neq, xstr_add, hq, b1]
        exact ⟨_, _, rfl⟩
    | false =>
      simp -implicitDefEqProofs only [↓yP, yT]
      refine Rcall_pure (reckonSub_spec p q (by omega) aD bD aZ hsm) (by rfl) fun y hy => ?_
      obtain ⟨s, rfl, hs⟩ := hy
      cases hq : (strOf s == strOf ⟨#[48]⟩) with
      | true =>
        simp -implicitDefEqProofs only [↓yP, yT, reduceCtorEq]
        exact ⟨_, _, rfl⟩
      | false =>
        have b1 : (strOf ⟨#[45]⟩).length + (strOf s).length ≤ 140737488355328 := by
          have : (strOf ⟨#[45]⟩).length = 1 := rfl
          omega
        simp -implicitDefEqProofs only [↓yP, yT, reduceCtorEq]
        exact ⟨_, _, rfl⟩
  · simp -implicitDefEqProofs only [↓yP, yT]
    refine Rcall_pure (smaller_spec p q) (by rfl) fun y hy => ?_
    subst hy
    cases hsm : smB (strOf p) (strOf q) with
    | true =>
      simp -implicitDefEqProofs only [↓yP, yT]
      refine Rcall_pure (reckonSub_spec q p (by omega) bD aD bZ (smB_asymm hsm)) (by rfl) fun y hy => ?_
      obtain ⟨s, rfl, hs⟩ := hy
      cases hq : (strOf s == strOf ⟨#[48]⟩) with
      | true =>
        simp -implicitDefEqProofs only [↓yP, yT, reduceCtorEq]
        exact ⟨_, _, rfl⟩
      | false =>
        have b1 : (strOf ⟨#[45]⟩).length + (strOf s).length ≤ 140737488355328 := by
          have : (strOf ⟨#[45]⟩).length = 1 := rfl
          omega
        simp -implicitDefEqProofs only [↓yP, yT, reduceCtorEq]
        exact ⟨_, _, rfl⟩
    | false =>
      simp -implicitDefEqProofs only [↓yP, yT]
      refine Rcall_pure (reckonSub_spec p q (by omega) aD bD aZ hsm) (by rfl) fun y hy => ?_
      obtain ⟨s, rfl, hs⟩ := hy
      cases hq : (strOf s == strOf ⟨#[48]⟩) with
      | true =>
        simp -implicitDefEqProofs only [↓yP, yT, reduceCtorEq, xstr_neq, hq]
        exact ⟨_, _, rfl⟩
      | false =>
        have b1 : (strOf ⟨#[45]⟩).length + (strOf s).length ≤ 140737488355328 := by
          have : (strOf ⟨#[45]⟩).length = 1 := rfl
          omega
        simp -implicitDefEqProofs only [↓yP, yT, reduceCtorEq, xstr_neq, xstr_add, hq, b1]
        exact ⟨_, _, rfl⟩
  · simp -implicitDefEqProofs only [↓yP, yT, beq_self_eq_true]
    refine Rcall_pure (reckonAdd_spec p q 50000000 lp lq (by omega)) (by rfl) fun y hy => ?_
    obtain ⟨s, rfl, hs⟩ := hy
    cases hq : (strOf s == strOf ⟨#[48]⟩) with
    | true =>
      simp -implicitDefEqProofs only [↓yP, yT, reduceCtorEq, xstr_neq, hq]
      exact ⟨_, _, rfl⟩
    | false =>
      have b1 : (strOf ⟨#[45]⟩).length + (strOf s).length ≤ 140737488355328 := by
        have : (strOf ⟨#[45]⟩).length = 1 := rfl
        omega
      simp -implicitDefEqProofs only [↓yP, yT, reduceCtorEq, xstr_neq, xstr_add, hq, b1]
      exact ⟨_, _, rfl⟩
end Go.Vx.Seat
end
section
open Go Go.Vx Go.Proofs
set_option maxRecDepth 10000
set_option maxHeartbeats 8000000
namespace Go.Vx.Seat
attribute [local irreducible] Rg Rt Ro Ri Rc Rto Rtk Rtf Rti Rw Rl Rd Rcall Rtcall kf
theorem fn84 : nth C1.P.funcs.toList 84 = some Try.f84 := by kernel_rfl
theorem decI_spec (x : Int) (h1 : -1000000000 ≤ x) (h2 : x ≤ 1000000000) : PCall C1 92 [yd (.int .i64 x)] fun y => ∃ s : ByteArray, y = yd (.string s) ∧ (strOf s).length ≤ x.natAbs + 2 := by
  by_cases h0 : 0 ≤ x
  · obtain ⟨n, rfl⟩ := Int.eq_ofNat_of_zero_le h0
    exact (dec_spec n (by omega)).mono fun y ⟨s, h3, h4⟩ => ⟨s, h3, by omega⟩
  · refine Pf (by rfl) (by rfl) fn92 (by rfl) ?_
    simp only [Try.f92, List.length_cons, List.length_nil, List.replicate, List.cons_append, List.nil_append]
    have t0 : leI 0 x = false := leI_false (by omega)
    have w0 : IntKind.wrap .i64 (0 - x) = ((x.natAbs : Nat) : Int) := by rw [IntKind.wrap_i64]; omega
    simp -implicitDefEqProofs only [↓yP, yT, t0, w0]
    refine Rcall_pure (dec_spec x.natAbs (by omega)) (by rfl) fun y hy => ?_
    obtain ⟨s, rfl, hs⟩ := hy
    have b1 : (strOf ⟨#[45]⟩).length + (strOf s).length ≤ 140737488355328 := by
      have : (strOf ⟨#[45]⟩).length = 1 := rfl
      omega
    simp -implicitDefEqProofs only [↓yP, yT, reduceCtorEq, xstr_add, b1]
    exact ⟨_, rfl, by rw [strOf_mk, List.length_append]; have : (strOf ⟨#[45]⟩).length = 1 := rfl; omega⟩
abbrev nm (b : Bool) (d x : ByteArray) : List Ce := [.p (.d (.bool b)), .p (.d (.string d)), .p (.d (.string x))]
def NumR (y : YV) : Prop := ∃ (b : Bool) (d x : ByteArray) (ok : Bool), y = .tup [.agg (nm b d x), yd (.bool ok)]
theorem sl_len (s : ByteArray) (i k : Nat) : (strOf (strMk (((strOf s).drop i).take (k - i)))).length ≤ (strOf s).length := by
  rw [strOf_mk]; simp; omega
theorem readNum_spec (s : ByteArray) (hs : (strOf s).length ≤ 4000000) : PCall C1 84 [yd (.string s)] NumR := by
  have i00 : Int.toNat 0 = 0 := rfl
  refine Pf (by rfl) (by rfl) fn84 (by rfl) ?_
  simp only [Try.f84, List.length_cons, List.length_nil, List.replicate, List.cons_append, List.nil_append]
  simp -implicitDefEqProofs only [↓yP, yT, Nat.reduceAdd, Nat.reduceLeDiff, reduceCtorEq, opLen.eq_1]
  refine Ri_cut (fun e st => ∃ (i : Nat) (neg : Bool), (∃ g : Nat → YV, e = [yd (.string s), g 1, .c (.ptr 0 0 0 0), g 3, yd (.int .i64 (i : Nat)), .c (.ptr 1 0 0 0), g 6, g 7, g 8, g 9, g 10, g 11, g 12, g 13, g 14, g 15, g 16, g 17, g 18, g 19, g 20, g 21, g 22, g 23, g 24, g 25, g 26, g 27, g 28, g 29, g 30, g 31, g 32, g 33, g 34, g 35, g 36, g 37, g 38, g 39, g 40, g 41, g 42, g 43, g 44, g 45, g 46, g 47, g 48, g 49, g 50, g 51, g 52, g 53, g 54, g 55, g 56, g 57, g 58, g 59, g 60, g 61, g 62, g 63, g 64, g 65, g 66, g 67, g 68, g 69, g 70, g 71, g 72, g 73, g 74, g 75, g 76, g 77, g 78, g 79, g 80, g 81, g 82, g 83, g 84, g 85, g 86, g 87, g 88, g 89, g 90, g 91, g 92, g 93, g 94, g 95, g 96, g 97, g 98, g 99, g 100, g 101, g 102, g 103, g 104, g 105, g 106, g 107, g 108, g 109, g 110, g 111, g 112, g 113, g 114, g 115, g 116, g 117, g 118, g 119, g 120, g 121, g 122, g 123, g 124, g 125, g 126, g 127, g 128, g 129, g 130, g 131, g 132, g 133, g 134, g 135, g 136, g 137, g 138, g 139, g 140, g 141, g 142, g 143, g 144, g 145, g 146, g 147, g 148, g 149, g 150, g 151, g 152, g 153, g 154, g 155, g 156, g 157, g 158, g 159, g 160, g 161, g 162, g 163, g 164, g 165, g 166, g 167, g 168, g 169, g 170, g 171, g 172, g 173, g 174, g 175, g 176, g 177]) ∧ st = [.box (nm false ⟨#[]⟩ ⟨#[]⟩), .box (nm neg ⟨#[]⟩ ⟨#[]⟩)] ∧ i ≤ (strOf s).length) ?_ ?_
  · have w01 : wrapK .i64 (0 + 1) = ((0 + 1 : Nat) : Int) := rfl
    by_cases h0 : 0 < (strOf s).length
    · obtain ⟨c, hc⟩ := get_lt h0
      have t1 : leI ((strOf s).length : Nat) 0 = false := leI_false (by omega)
      have c1 : (0 : Int) ≤ 0 := by omega
      cases h1 : eqI (c.toNat : Nat) 43 with
      | true =>
        cases h2 : eqI (c.toNat : Nat) 45
        all_goals
          simp -implicitDefEqProofs only [↓yP, yT, Nat.reduceAdd, Nat.reduceLeDiff, xindex.eq_1, t1, c1, hc, h1, h2, w01, ythen_n, i00]
          exact ⟨1, _, gs_mk rfl, rfl, by omega⟩
      | false =>
        cases h2 : eqI (c.toNat : Nat) 45 with
        | true =>
          simp -implicitDefEqProofs only [↓yP, yT, Nat.reduceAdd, Nat.reduceLeDiff, xindex.eq_1, t1, c1, hc, h1, h2, w01, ythen_n, i00]
          exact ⟨1, _, gs_mk rfl, rfl, by omega⟩
        | false =>
          simp -implicitDefEqProofs only [↓yP, yT, xindex.eq_1, t1, c1, hc, h1, h2, ythen_n, i00]
          exact ⟨0, _, gs_mk rfl, rfl, by omega⟩
    · have t1 : leI ((strOf s).length : Nat) 0 = true := leI_true (by omega)
      simp -implicitDefEqProofs only [↓yP, yT, t1, ythen_n]
      exact ⟨0, _, gs_mk rfl, rfl, by omega⟩
  rintro e st ⟨i, neg, ⟨g, rfl⟩, rfl, hi⟩
  simp -implicitDefEqProofs only [↓yP, yT]
  refine Rcall_pure (run_spec s i (by omega) hi) (by rfl) fun y hy => ?_
  obtain ⟨k, rfl, hk1, hk2⟩ := hy
  have c1 : (0 : Int) ≤ (i : Nat) := by omega
  have c2 : ((i : Nat) : Int) ≤ (k : Nat) := by omega
  have c3 : ((k : Nat) : Int) ≤ ((strOf s).length : Nat) := by omega
  have hdl := sl_len s i k
  simp -implicitDefEqProofs only [↓yP, yT, opLen.eq_1, xslice.eq_1, c1, c2, c3]
  generalize strMk (((strOf s).drop i).take (k - i)) = dd at hdl ⊢
  have w1 : wrapK .i64 ((k : Int) + 1) = ((k + 1 : Nat) : Int) := wrap_succ (by omega)
  refine Ri_cut (fun e st => ∃ (k : Nat) (part : ByteArray), (∃ g : Nat → YV, e = [yd (.string s), g 1, .c (.ptr 0 0 0 0), g 3, g 4, .c (.ptr 1 0 0 0), yd (.int .i64 (k : Nat)), yd (.string dd), yd (.string part), g 9, g 10, g 11, g 12, g 13, g 14, g 15, g 16, g 17, g 18, g 19, g 20, g 21, g 22, g 23, g 24, g 25, g 26, g 27, g 28, g 29, g 30, g 31, g 32, g 33, g 34, g 35, g 36, g 37, g 38, g 39, g 40, g 41, g 42, g 43, g 44, g 45, g 46, g 47, g 48, g 49, g 50, g 51, g 52, g 53, g 54, g 55, g 56, g 57, g 58, g 59, g 60, g 61, g 62, g 63, g 64, g 65, g 66, g 67, g 68, g 69, g 70, g 71, g 72, g 73, g 74, g 75, g 76, g 77, g 78, g 79, g 80, g 81, g 82, g 83, g 84, g 85, g 86, g 87, g 88, g 89, g 90, g 91, g 92, g 93, g 94, g 95, g 96, g 97, g 98, g 99, g 100, g 101, g 102, g 103, g 104, g 105, g 106, g 107, g 108, g 109, g 110, g 111, g 112, g 113, g 114, g 115, g 116, g 117, g 118, g 119, g 120, g 121, g 122, g 123, g 124, g 125, g 126, g 127, g 128, g 129, g 130, g 131, g 132, g 133, g 134, g 135, g 136, g 137, g 138, g 139, g 140, g 141, g 142, g 143, g 144, g 145, g 146, g 147, g 148, g 149, g 150, g 151, g 152, g 153, g 154, g 155, g 156, g 157, g 158, g 159, g 160, g 161, g 162, g 163, g 164, g 165, g 166, g 167, g 168, g 169, g 170, g 171, g 172, g 173, g 174, g 175, g 176, g 177]) ∧ st = [.box (nm false ⟨#[]⟩ ⟨#[]⟩), .box (nm neg ⟨#[]⟩ ⟨#[]⟩)] ∧ k ≤ (strOf s).length ∧ (strOf part).length ≤ (strOf s).length) ?_ ?_
  · by_cases h0 : k < (strOf s).length
    · obtain ⟨c, hc⟩ := get_lt h0
      have t1 : leI ((strOf s).length : Nat) (k : Nat) = false := leI_false (by omega)
      have c4 : (0 : Int) ≤ (k : Nat) := by omega
      cases h1 : eqI (c.toNat : Nat) 46 with
      | false =>
        simp -implicitDefEqProofs only [↓yP, yT, xindex.eq_1, t1, c4, hc, h1, ythen_n]
        exact ⟨k, ⟨#[]⟩, gs_mk rfl, by omega, by show 0 ≤ (strOf s).length; omega⟩
      | true =>
        simp -implicitDefEqProofs only [↓yP, yT, xindex.eq_1, t1, c4, hc, h1, w1]
        refine Rcall_pure (run_spec s (k + 1) (by omega) (by omega)) (by rfl) fun y hy => ?_
        obtain ⟨j, rfl, hj1, hj2⟩ := hy
        have c5 : (0 : Int) ≤ ((k + 1 : Nat) : Int) := by omega
        have c6 : ((k + 1 : Nat) : Int) ≤ (j : Nat) := by omega
        have c7 : ((j : Nat) : Int) ≤ ((strOf s).length : Nat) := by omega
        have hpl := sl_len s (k + 1) j
        simp -implicitDefEqProofs only [↓yP, yT, xslice.eq_1, w1, c5, c6, c7, xstr_eql]
        generalize strMk (((strOf s).drop (k + 1)).take (j - (k + 1))) = part at hpl ⊢
        cases h2 : (strOf part == strOf ⟨#[]⟩) with
        | true =>
          simp -implicitDefEqProofs only [↓yP, yT, Nat.reduceAdd, reduceCtorEq]
          exact ⟨_, _, _, _, rfl⟩
        | false =>
          simp -implicitDefEqProofs only [↓yP, yT, ythen_n]
          exact ⟨j, part, gs_mk rfl, hj2, hpl⟩
    · have t1 : leI ((strOf s).length : Nat) (k : Nat) = true := leI_true (by omega)
      simp -implicitDefEqProofs only [↓yP, yT, t1, ythen_n]
      exact ⟨k, ⟨#[]⟩, gs_mk rfl, by omega, by show 0 ≤ (strOf s).length; omega⟩
  clear w1 c1 c2 c3 hk1 hk2 hi k i
  rintro e st ⟨k, part, ⟨g, rfl⟩, rfl, hk, hpl⟩
  have b1 : (strOf dd).length + (strOf part).length ≤ 140737488355328 := by omega
  cases h2 : (strOf (strMk (strOf dd ++ strOf part)) == strOf ⟨#[]⟩) with
  | true =>
    simp -implicitDefEqProofs only [↓yP, yT, Nat.reduceAdd, reduceCtorEq, xstr_add, b1, xstr_eql, h2]
    exact ⟨_, _, _, _, rfl⟩
  | false =>
  simp -implicitDefEqProofs only [↓yP, yT, opLen.eq_1, xstr_add, b1, xstr_eql, h2]
  have w1 : wrapK .i64 ((k : Int) + 1) = ((k + 1 : Nat) : Int) := wrap_succ (by omega)
  refine Ri_cut (fun e st => ∃ (k : Nat) (ex : ByteArray), (∃ g : Nat → YV, e = [yd (.string s), g 1, .c (.ptr 0 0 0 0), g 3, g 4, .c (.ptr 1 0 0 0), yd (.int .i64 (k : Nat)), yd (.string dd), yd (.string part), g 9, yd (.string ex), g 11, g 12, g 13, g 14, g 15, g 16, g 17, g 18, g 19, g 20, g 21, g 22, g 23, g 24, g 25, g 26, g 27, g 28, g 29, g 30, g 31, g 32, g 33, g 34, g 35, g 36, g 37, g 38, g 39, g 40, g 41, g 42, g 43, g 44, g 45, g 46, g 47, g 48, g 49, g 50, g 51, g 52, g 53, g 54, g 55, g 56, g 57, g 58, g 59, g 60, g 61, g 62, g 63, g 64, g 65, g 66, g 67, g 68, g 69, g 70, g 71, g 72, g 73, g 74, g 75, g 76, g 77, g 78, g 79, g 80, g 81, g 82, g 83, g 84, g 85, g 86, g 87, g 88, g 89, g 90, g 91, g 92, g 93, g 94, g 95, g 96, g 97, g 98, g 99, g 100, g 101, g 102, g 103, g 104, g 105, g 106, g 107, g 108, g 109, g 110, g 111, g 112, g 113, g 114, g 115, g 116, g 117, g 118, g 119, g 120, g 121, g 122, g 123, g 124, g 125, g 126, g 127, g 128, g 129, g 130, g 131, g 132, g 133, g 134, g 135, g 136, g 137, g 138, g 139, g 140, g 141, g 142, g 143, g 144, g 145, g 146, g 147, g 148, g 149, g 150, g 151, g 152, g 153, g 154, g 155, g 156, g 157, g 158, g 159, g 160, g 161, g 162, g 163, g 164, g 165, g 166, g 167, g 168, g 169, g 170, g 171, g 172, g 173, g 174, g 175, g 176, g 177]) ∧ st = [.box (nm false ⟨#[]⟩ ⟨#[]⟩), .box (nm neg ⟨#[]⟩ ⟨#[]⟩)] ∧ k ≤ (strOf s).length ∧ (strOf ex).length ≤ (strOf s).length + 1) ?_ ?_
  · by_cases h0 : k < (strOf s).length
    · obtain ⟨c, hc⟩ := get_lt h0
      have t1 : leI ((strOf s).length : Nat) (k : Nat) = false := leI_false (by omega)
      have c4 : (0 : Int) ≤ (k : Nat) := by omega
      cases h1 : eqI (c.toNat : Nat) 101 with
      | true =>
        simp -implicitDefEqProofs only [↓yP, yT, opLen.eq_1, xindex.eq_1, t1, c4, hc, h1, w1]
        refine Ri_cut (fun e st => ∃ (k2 : Nat) (mi : Bool), (∃ g : Nat → YV, e = [yd (.string s), g 1, .c (.ptr 0 0 0 0), g 3, g 4, .c (.ptr 1 0 0 0), yd (.int .i64 (k2 : Nat)), yd (.string dd), yd (.string part), g 9, g 10, yd (.bool mi), g 12, g 13, g 14, g 15, g 16, g 17, g 18, g 19, g 20, g 21, g 22, g 23, g 24, g 25, g 26, g 27, g 28, g 29, g 30, g 31, g 32, g 33, g 34, g 35, g 36, g 37, g 38, g 39, g 40, g 41, g 42, g 43, g 44, g 45, g 46, g 47, g 48, g 49, g 50, g 51, g 52, g 53, g 54, g 55, g 56, g 57, g 58, g 59, g 60, g 61, g 62, g 63, g 64, g 65, g 66, g 67, g 68, g 69, g 70, g 71, g 72, g 73, g 74, g 75, g 76, g 77, g 78, g 79, g 80, g 81, g 82, g 83, g 84, g 85, g 86, g 87, g 88, g 89, g 90, g 91, g 92, g 93, g 94, g 95, g 96, g 97, g 98, g 99, g 100, g 101, g 102, g 103, g 104, g 105, g 106, g 107, g 108, g 109, g 110, g 111, g 112, g 113, g 114, g 115, g 116, g 117, g 118, g 119, g 120, g 121, g 122, g 123, g 124, g 125, g 126, g 127, g 128, g 129, g 130, g 131, g 132, g 133, g 134, g 135, g 136, g 137, g 138, g 139, g 140, g 141, g 142, g 143, g 144, g 145, g 146, g 147, g 148, g 149, g 150, g 151, g 152, g 153, g 154, g 155, g 156, g 157, g 158, g 159, g 160, g 161, g 162, g 163, g 164, g 165, g 166, g 167, g 168, g 169, g 170, g 171, g 172, g 173, g 174, g 175, g 176, g 177]) ∧ st = [.box (nm false ⟨#[]⟩ ⟨#[]⟩), .box (nm neg ⟨#[]⟩ ⟨#[]⟩)] ∧ k2 ≤ (strOf s).length) ?_ ?_
        · clear t1 c4 hc
          have w2 : wrapK .i64 (((k + 1 : Nat) : Int) + 1) = ((k + 2 : Nat) : Int) := wrap_succ (by omega)
          by_cases h3 : k + 1 < (strOf s).length
          · obtain ⟨c, hc⟩ := get_lt h3
            have t1 : leI ((strOf s).length : Nat) ((k + 1 : Nat) : Int) = false := leI_false (by omega)
            have c1 : (0 : Int) ≤ ((k + 1 : Nat) : Int) := by omega
            cases h1 : eqI (c.toNat : Nat) 43 with
            | true =>
              cases h2 : eqI (c.toNat : Nat) 45
              all_goals
                simp -implicitDefEqProofs only [↓yP, yT, xindex.eq_1, t1, c1, hc, h1, h2, w2, ythen_n]
                exact ⟨k + 2, _, gs_mk rfl, by omega⟩
            | false =>
              cases h2 : eqI (c.toNat : Nat) 45 with
              | true =>
                simp -implicitDefEqProofs only [↓yP, yT, xindex.eq_1, t1, c1, hc, h1, h2, w2, ythen_n]
                exact ⟨k + 2, _, gs_mk rfl, by omega⟩
              | false =>
                simp -implicitDefEqProofs only [↓yP, yT, xindex.eq_1, t1, c1, hc, h1, h2, ythen_n]
                exact ⟨k + 1, _, gs_mk rfl, by omega⟩
          · have t1 : leI ((strOf s).length : Nat) ((k + 1 : Nat) : Int) = true := leI_true (by omega)
            simp -implicitDefEqProofs only [↓yP, yT, t1, ythen_n]
            exact ⟨k + 1, _, gs_mk rfl, by omega⟩
        rintro e st ⟨k2, mi, ⟨g, rfl⟩, rfl, hk2⟩
        simp -implicitDefEqProofs only [↓yP, yT]
        refine Rcall_pure (run_spec s k2 (by omega) hk2) (by rfl) fun y hy => ?_
        obtain ⟨j, rfl, hj1, hj2⟩ := hy
        have c5 : (0 : Int) ≤ ((k2 : Nat) : Int) := by omega
        have c6 : ((k2 : Nat) : Int) ≤ (j : Nat) := by omega
        have c7 : ((j : Nat) : Int) ≤ ((strOf s).length : Nat) := by omega
        have hpl := sl_len s k2 j
        cases h7 : eqI (j : Nat) (k2 : Nat) with
        | true =>
          simp -implicitDefEqProofs only [↓yP, yT, Nat.reduceAdd, reduceCtorEq, h7]
          exact ⟨_, _, _, _, rfl⟩
        | false =>
          simp -implicitDefEqProofs only [↓yP, yT, xslice.eq_1, h7, c5, c6, c7]
          refine Rcall_pure (stripped_spec _ (by omega)) (by rfl) fun y hy => ?_
          obtain ⟨ex, rfl, hex⟩ := hy
          cases mi with
          | false =>
            simp -implicitDefEqProofs only [↓yP, yT, ythen_n]
            exact ⟨j, ex, gs_mk rfl, hj2, by omega⟩
          | true =>
            cases h8 : (strOf ex == strOf ⟨#[48]⟩) with
            | true =>
              simp -implicitDefEqProofs only [↓yP, yT, xstr_neq, h8, ythen_n]
              exact ⟨j, ex, gs_mk rfl, hj2, by omega⟩
            | false =>
              have b3 : (strOf ⟨#[45]⟩).length + (strOf ex).length ≤ 140737488355328 := by
                have : (strOf ⟨#[45]⟩).length = 1 := rfl
                omega
              simp -implicitDefEqProofs only [↓yP, yT, xstr_neq, h8, xstr_add, b3, ythen_n]
              exact ⟨j, _, gs_mk rfl, hj2, by rw [strOf_mk, List.length_append]; have : (strOf ⟨#[45]⟩).length = 1 := rfl; omega⟩
      | false =>
        cases h2 : eqI (c.toNat : Nat) 69 with
        | true =>
          simp -implicitDefEqProofs only [↓yP, yT, opLen.eq_1, xindex.eq_1, t1, c4, hc, h1, h2, w1]
          refine Ri_cut (fun e st => ∃ (k2 : Nat) (mi : Bool), (∃ g : Nat → YV, e = [yd (.string s), g 1, .c (.ptr 0 0 0 0), g 3, g 4, .c (.ptr 1 0 0 0), yd (.int .i64 (k2 : Nat)), yd (.string dd), yd (.string part), g 9, g 10, yd (.bool mi), g 12, g 13, g 14, g 15, g 16, g 17, g 18, g 19, g 20, g 21, g 22, g 23, g 24, g 25, g 26, g 27, g 28, g 29, g 30, g 31, g 32, g 33, g 34, g 35, g 36, g 37, g 38, g 39, g 40, g 41, g 42, g 43, g 44, g 45, g 46, g 47, g 48, g 49, g 50, g 51, g 52, g 53, g 54, g 55, g 56, g 57, g 58, g 59, g 60, g 61, g 62, g 63, g 64, g 65, g 66, g 67, g 68, g 69, g 70, g 71, g 72, g 73, g 74, g 75, g 76, g 77, g 78, g 79, g 80, g 81, g 82, g 83, g 84, g 85, g 86, g 87, g 88, g 89, g 90, g 91, g 92, g 93, g 94, g 95, g 96, g 97, g 98, g 99, g 100, g 101, g 102, g 103, g 104, g 105, g 106, g 107, g 108, g 109, g 110, g 111, g 112, g 113, g 114, g 115, g 116, g 117, g 118, g 119, g 120, g 121, g 122, g 123, g 124, g 125, g 126, g 127, g 128, g 129, g 130, g 131, g 132, g 133, g 134, g 135, g 136, g 137, g 138, g 139, g 140, g 141, g 142, g 143, g 144, g 145, g 146, g 147, g 148, g 149, g 150, g 151, g 152, g 153, g 154, g 155, g 156, g 157, g 158, g 159, g 160, g 161, g 162, g 163, g 164, g 165, g 166, g 167, g 168, g 169, g 170, g 171, g 172, g 173, g 174, g 175, g 176, g 177]) ∧ st = [.box (nm false ⟨#[]⟩ ⟨#[]⟩), .box (nm neg ⟨#[]⟩ ⟨#[]⟩)] ∧ k2 ≤ (strOf s).length) ?_ ?_
          · clear t1 c4 hc
            have w2 : wrapK .i64 (((k + 1 : Nat) : Int) + 1) = ((k + 2 : Nat) : Int) := wrap_succ (by omega)
            by_cases h3 : k + 1 < (strOf s).length
            · obtain ⟨c, hc⟩ := get_lt h3
              have t1 : leI ((strOf s).length : Nat) ((k + 1 : Nat) : Int) = false := leI_false (by omega)
              have c1 : (0 : Int) ≤ ((k + 1 : Nat) : Int) := by omega
              cases h1 : eqI (c.toNat : Nat) 43 with
              | true =>
                cases h2 : eqI (c.toNat : Nat) 45
                all_goals
                  simp -implicitDefEqProofs only [↓yP, yT, xindex.eq_1, t1, c1, hc, h1, h2, w2, ythen_n]
                  exact ⟨k + 2, _, gs_mk rfl, by omega⟩
              | false =>
                cases h2 : eqI (c.toNat : Nat) 45 with
                | true =>
                  simp -implicitDefEqProofs only [↓yP, yT, xindex.eq_1, t1, c1, hc, h1, h2, w2, ythen_n]
                  exact ⟨k + 2, _, gs_mk rfl, by omega⟩
                | false =>
                  simp -implicitDefEqProofs only [↓yP, yT, xindex.eq_1, t1, c1, hc, h1, h2, ythen_n]
                  exact ⟨k + 1, _, gs_mk rfl, by omega⟩
            · have t1 : leI ((strOf s).length : Nat) ((k + 1 : Nat) : Int) = true := leI_true (by omega)
              simp -implicitDefEqProofs only [↓yP, yT, t1, ythen_n]
              exact ⟨k + 1, _, gs_mk rfl, by omega⟩
          rintro e st ⟨k2, mi, ⟨g, rfl⟩, rfl, hk2⟩
          simp -implicitDefEqProofs only [↓yP, yT]
          refine Rcall_pure (run_spec s k2 (by omega) hk2) (by rfl) fun y hy => ?_
          obtain ⟨j, rfl, hj1, hj2⟩ := hy
          have c5 : (0 : Int) ≤ ((k2 : Nat) : Int) := by omega
          have c6 : ((k2 : Nat) : Int) ≤ (j : Nat) := by omega
          have c7 : ((j : Nat) : Int) ≤ ((strOf s).length : Nat) := by omega
          have hpl := sl_len s k2 j
          cases h7 : eqI (j : Nat) (k2 : Nat) with
          | true =>
            simp -implicitDefEqProofs only [↓yP, yT, Nat.reduceAdd, reduceCtorEq, h7]
            exact ⟨_, _, _, _, rfl⟩
          | false =>
            simp -implicitDefEqProofs only [↓yP, yT, xslice.eq_1, h7, c5, c6, c7]
            refine Rcall_pure (stripped_spec _ (by omega)) (by rfl) fun y hy => ?_
            obtain ⟨ex, rfl, hex⟩ := hy
            cases mi with
            | false =>
              simp -implicitDefEqProofs only [↓yP, yT, ythen_n]
              exact ⟨j, ex, gs_mk rfl, hj2, by omega⟩
            | true =>
              cases h8 : (strOf ex == strOf ⟨#[48]⟩) with
              | true =>
                simp -implicitDefEqProofs only [↓yP, yT, xstr_neq, h8, ythen_n]
                exact ⟨j, ex, gs_mk rfl, hj2, by omega⟩
              | false =>
                have b3 : (strOf ⟨#[45]⟩).length + (strOf ex).length ≤ 140737488355328 := by
                  have : (strOf ⟨#[45]⟩).length = 1 := rfl
                  omega
                simp -implicitDefEqProofs only [↓yP, yT, xstr_neq, h8, xstr_add, b3, ythen_n]
                exact ⟨j, _, gs_mk rfl, hj2, by rw [strOf_mk, List.length_append]; have : (strOf ⟨#[45]⟩).length = 1 := rfl; omega⟩
        | false =>
          simp -implicitDefEqProofs only [↓yP, yT, xindex.eq_1, t1, c4, hc, h1, h2, ythen_n]
          exact ⟨k, _, gs_mk rfl, by omega, by show 1 ≤ _; omega⟩
    · have t1 : leI ((strOf s).length : Nat) (k : Nat) = true := leI_true (by omega)
      simp -implicitDefEqProofs only [↓yP, yT, t1, ythen_n]
      exact ⟨k, _, gs_mk rfl, by omega, by show 1 ≤ _; omega⟩
  clear w1 k hk
  rintro e st ⟨k, ex, ⟨g, rfl⟩, rfl, hk, hel⟩
  by_cases hkl : k = (strOf s).length
  · have t1 : eqI (k : Nat) ((strOf s).length : Nat) = true := by rw [hkl]; exact eqI_true _
    have wx : IntKind.wrap .i64 (0 - ((strOf part).length : Nat)) = 0 - ((strOf part).length : Nat) := by rw [IntKind.wrap_i64]; omega
    simp -implicitDefEqProofs only [↓yP, yT, opLen.eq_1, t1, xstr_add, b1]
    refine Rcall_pure (stripped_spec _ (by rw [strOf_mk, List.length_append]; omega)) (by rfl) fun y hy => ?_
    obtain ⟨al, rfl, hal⟩ := hy
    rw [strOf_mk, List.length_append] at hal
    simp -implicitDefEqProofs only [↓yP, yT, opLen.eq_1, wx]
    refine Rl_inv (fun d e st => ∃ (al : ByteArray) (x : Int), e = ([Tp, Tp, .c (.ptr 0 0 0 0), Tp, Tp, .c (.ptr 1 0 0 0), Tp, Tp, Tp, Tp, yd (.string ex), Tp, Tp, yd (.string al), yd (.int .i64 x), Tp, Tp, Tp, Tp, Tp, Tp, Tp, Tp, Tp, Tp, Tp, Tp, Tp, Tp, Tp, Tp, Tp, Tp, Tp, Tp, Tp, Tp, Tp, Tp, Tp, Tp, Tp, Tp, Tp, Tp, Tp, Tp, Tp, Tp, Tp, Tp, Tp, Tp, Tp, Tp, Tp, Tp, Tp, Tp, Tp, Tp, Tp, Tp, Tp, Tp, Tp, Tp, Tp, Tp, Tp, Tp, Tp, Tp, Tp, Tp, Tp, Tp, Tp, Tp, Tp, Tp, Tp, Tp, Tp, Tp, Tp, Tp, Tp, Tp, Tp, Tp, Tp, Tp, Tp, Tp, Tp, Tp, Tp, Tp, Tp, Tp, Tp, Tp, Tp, Tp, Tp, Tp, Tp, Tp, Tp, Tp, Tp, Tp, Tp, Tp, Tp, Tp, Tp, Tp, Tp, Tp, Tp, Tp, Tp, Tp, Tp, Tp, Tp, Tp, Tp, Tp, Tp, Tp, Tp, Tp, Tp, Tp, Tp, Tp, Tp, Tp, Tp, Tp, Tp, Tp, Tp, Tp, Tp, Tp, Tp, Tp, Tp, Tp, Tp, Tp, Tp, Tp, Tp, Tp, Tp, Tp, Tp, Tp, Tp, Tp, Tp, Tp, Tp, Tp, Tp, Tp, Tp, Tp, Tp, Tp, Tp, Tp, Tp]) ∧ st = [.box (nm false ⟨#[]⟩ ⟨#[]⟩), .box (nm neg ⟨#[]⟩ ⟨#[]⟩)] ∧ d = (strOf al).length ∧ -5000000 ≤ x ∧ x + (strOf al).length ≤ 10000000) [false, false, true, false, false, true, false, false, false, false, true, false, false, true, true] (strOf al).length [0, 1] (by decide) (pinned_zero _) ⟨al, _, by (simp only [yE, reduceCtorEq]; try rfl), by (simp only [yE]; try rfl), rfl, by omega, by omega⟩ ?_
    clear hal al
    rintro d e st ⟨al, x, rfl, rfl, rfl, hx1, hx2⟩
    by_cases ha : 0 < (strOf al).length
    · have t2 : leI ((strOf al).length : Nat) 0 = false := leI_false (by omega)
      have w2 : wrapK .i64 (((strOf al).length : Nat) - 1) = (((strOf al).length - 1 : Nat) : Int) := wrap_pred (by omega) (by omega)
      have c2 : (0 : Int) ≤ (((strOf al).length - 1 : Nat) : Int) := by omega
      have c0 : (0 : Int) ≤ 0 := by omega
      have c3 : (((strOf al).length - 1 : Nat) : Int) ≤ ((strOf al).length : Nat) := by omega
      have w3 : wrapK .i64 (x + 1) = x + 1 := wrap_int (by omega) (by omega)
      obtain ⟨c, hc⟩ := get_lt (show (strOf al).length - 1 < (strOf al).length by omega)
      cases h1 : eqI (c.toNat : Nat) 48 with
      | true =>
        simp -implicitDefEqProofs only [↓yP, yT, opLen.eq_1, xindex.eq_1, xslice.eq_1, t2, w2, c2, c0, c3, hc, h1, w3, i00]
        refine ⟨(strOf al).length - 1, [0, 1], by omega, by decide, pinned_zero _, _, _, by (simp only [yE, reduceCtorEq]; try rfl), by (simp only [yE]; try rfl), ?_, by omega, ?_⟩
        · rw [strOf_mk]; simp
        · rw [strOf_mk]; simp; omega
      | false =>
        have hne : (strOf al == strOf ⟨#[]⟩) = false := by
          rw [beq_eq_false_iff_ne]; intro h; rw [h] at ha; exact absurd ha (by decide)
        simp -implicitDefEqProofs only [↓yP, yT, Nat.reduceAdd, Nat.reduceLeDiff, opLen.eq_1, xindex.eq_1, t2, w2, c2, hc, h1, xstr_eql, hne]
        refine Rcall_pure (decI_spec x (by omega) (by omega)) (by rfl) fun y hy => ?_
        obtain ⟨z, rfl, hz⟩ := hy
        simp -implicitDefEqProofs only [yT]
        refine Rcall_pure (add_spec ex z (by omega) (by omega)) (by rfl) fun y hy => ?_
        obtain ⟨z2, ok, rfl⟩ := hy
        simp -implicitDefEqProofs only [↓yP, yT, Nat.reduceAdd, reduceCtorEq]
        exact ⟨_, _, _, _, rfl⟩
    · have t2 : leI ((strOf al).length : Nat) 0 = true := leI_true (by omega)
      have hnil : strOf al = [] := List.eq_nil_of_length_eq_zero (by omega)
      have hne : (strOf al == strOf ⟨#[]⟩) = true := by rw [hnil]; rfl
      simp -implicitDefEqProofs only [↓yP, yT, Nat.reduceAdd, reduceCtorEq, opLen.eq_1, t2, xstr_eql, hne]
      exact ⟨_, _, _, _, rfl⟩
  · have t1 : eqI (k : Nat) ((strOf s).length : Nat) = false := eqI_false (by omega)
    simp -implicitDefEqProofs only [↓yP, yT, Nat.reduceAdd, reduceCtorEq, opLen.eq_1, t1]
    exact ⟨_, _, _, _, rfl⟩
end Go.Vx.Seat
end
section
open Go Go.Vx Go.Proofs
set_option maxRecDepth 10000
set_option maxHeartbeats 8000000
namespace Go.Vx.Seat
attribute [local irreducible] Rg Rt Ro Ri Rc Rto Rtk Rtf Rti Rw Rl Rd Rcall Rtcall kf
theorem fn73 : nth C1.P.funcs.toList 73 = some Try.f73 := by kernel_rfl
abbrev tc (k : Int) (u : ByteArray) (b : Bool) (d x : ByteArray) (f sg : Bool) : List Ce :=
  [.p (.d (.int .i64 k)), .p (.d (.string ⟨#[]⟩)), .p (.d (.string u)), .p (.d (.bool b)), .p (.d (.string d)), .p (.d (.string x)), .p (.d (.bool f)), .p (.d (.bool sg)), .p (.d (.int .i64 0)), .p (.d (.int .i64 0)), .p (.d (.int .i64 0)), .p (.d (.int .i64 0)), .p (.d (.int .i64 0))]
def numTok (k : Int) (u : ByteArray) (b : Bool) (d x : ByteArray) (f sg : Bool) : Tok := ⟨k, ⟨#[]⟩, u, b, d, x, f, sg, 0, 0, 0, 0, 0⟩
theorem ltk {i k : Nat} (h : i ≤ k) (hn : k = i → False) : i < k := by
  rcases Nat.lt_or_ge i k with g | g
  · exact g
  · exact (hn (by omega)).elim
theorem digit_in {l : List Rn} {k : Nat} (h : digitB (atR l (k : Nat)) = true) : k < l.length := Nat.lt_of_not_le fun hle => by
  rw [atR_out (by omega)] at h; exact absurd h (by decide)
end Go.Vx.Seat
end
section
open Go Go.Vx Go.Proofs
set_option maxRecDepth 10000
set_option maxHeartbeats 8000000
namespace Go.Vx.Seat
attribute [local irreducible] Rg Rt Ro Ri Rc Rto Rtk Rtf Rti Rw Rl Rd Rcall Rtcall kf
theorem lower_det (s : ByteArray) (hs : (strOf s).length ≤ 10000000) : ∃ s' : ByteArray, PCall C1 59 [yd (.string s)] fun y => y = yd (.string s') := by
  obtain ⟨y, ⟨s', rfl, _⟩, h⟩ := (lower_spec s hs).det good1 toldSh1 rfl
  exact ⟨s', h⟩
noncomputable def lowF (s : ByteArray) : ByteArray := if h : (strOf s).length ≤ 10000000 then Classical.choose (lower_det s h) else s
theorem lowX_spec (s : ByteArray) (hs : (strOf s).length ≤ 10000000) : PCall C1 59 [yd (.string s)] fun y => y = yd (.string (lowF s)) := by
  rw [lowF, dif_pos hs]; exact Classical.choose_spec (lower_det s hs)
theorem readNum_det (s : ByteArray) (hs : (strOf s).length ≤ 4000000) : ∃ p : Bool × ByteArray × ByteArray × Bool, PCall C1 84 [yd (.string s)] fun y => y = .tup [.agg (nm p.1 p.2.1 p.2.2.1), yd (.bool p.2.2.2)] := by
  obtain ⟨y, ⟨b, d, x, ok, rfl⟩, h⟩ := (readNum_spec s hs).det good1 toldSh1 rfl
  exact ⟨(b, d, x, ok), h⟩
noncomputable def rdN (s : ByteArray) : Bool × ByteArray × ByteArray × Bool := if h : (strOf s).length ≤ 4000000 then Classical.choose (readNum_det s h) else (false, s, s, false)
theorem readNumX_spec (s : ByteArray) (hs : (strOf s).length ≤ 4000000) : PCall C1 84 [yd (.string s)] fun y => y = .tup [.agg (nm (rdN s).1 (rdN s).2.1 (rdN s).2.2.1), yd (.bool (rdN s).2.2.2)] := by
  rw [rdN, dif_pos hs]; exact Classical.choose_spec (readNum_det s hs)
noncomputable def namedT (l : List Rn) : Tok × List Rn :=
  let p := takeF l
  if eqI (hd p.2) 40 then
    (if (strOf (lowF (bstr p.1)) == strOf ⟨#[117, 114, 108]⟩) && !eqI (hd (blanks (p.2.drop 1))) 34 && !eqI (hd (blanks (p.2.drop 1))) 39 then urlT l (p.2.drop 1) else (lexTok 2 (bstr p.1), p.2.drop 1))
  else (lexTok 1 (bstr p.1), p.2)
noncomputable def numE (sg f : Bool) (st : ByteArray) (r : List Rn) : Tok × List Rn :=
  if begins0 r then (numTok 12 (bstr (takeF r).1) (rdN st).1 (rdN st).2.1 (rdN st).2.2.1 f sg, (takeF r).2)
  else if eqI (hd r) 37 then (numTok 11 ⟨#[]⟩ (rdN st).1 (rdN st).2.1 (rdN st).2.2.1 f sg, r.drop 1)
  else (numTok 10 ⟨#[]⟩ (rdN st).1 (rdN st).2.1 (rdN st).2.2.1 f sg, r)
noncomputable def numT (l : List Rn) : Tok × List Rn := numE (eqI (hd l) 43) (numF l).1 (bstr (textF (used l (numF l).2))) (numF l).2
theorem digs_go {l : List Rn} {k : Nat} (h : digitB (atR l (k : Nat)) = true) : digs (l.drop k) = digs (l.drop (k + 1)) := by
  cases hk : l[k]? with
  | none => rw [atR_out (by have : l.length ≤ k := by simpa using hk
                            omega)] at h; cases h
  | some x => rw [atR_get hk] at h; rw [drop_cons hk, digs, List.dropWhile_cons_of_pos (by simpa using h)]; rfl
theorem digs_stop {l : List Rn} {k : Nat} (h : digitB (atR l (k : Nat)) = false) : digs (l.drop k) = l.drop k := by
  cases hk : l[k]? with
  | none => rw [List.drop_eq_nil_of_le (by simpa using hk)]; rfl
  | some x => rw [atR_get hk] at h; rw [drop_cons hk, digs, List.dropWhile_cons_of_neg (by simp [h])]
theorem numC_e {l : List Rn} {i k : Nat} {f : Bool} (hB : numB (numA (l.drop i)) = (f, l.drop k)) (h : (eqI (hd (l.drop k)) 101 || eqI (hd (l.drop k)) 69) = true) :
    numF (l.drop i) = if digitB (hd (if isSign (l.drop (k + 1)) then l.drop (k + 2) else l.drop (k + 1))) then (false, digs (if isSign (l.drop (k + 1)) then l.drop (k + 2) else l.drop (k + 1))) else (f, l.drop k) := by
  rw [numF, hB]
  simp only [numC, h, if_true, List.drop_drop]
theorem takeF_lt {l : List Rn} {i : Nat} (hi : i < l.length) (hb : inB (atR l (i : Nat)) = true ∨ escB l i = true) : (takeF (l.drop i)).2.length < l.length - i := by
  have key : ∀ n (m : List Rn), m.length ≤ n → (takeF m).2.length ≤ m.length := by
    intro n
    induction n with
    | zero => intro m hm; have : m = [] := List.eq_nil_of_length_eq_zero (by omega); subst this; rw [takeF_nil]; simp
    | succ n ih =>
      intro m hm
      cases m with
      | nil => rw [takeF_nil]; simp
      | cons x r =>
        cases h1 : inB x.r with
        | true => rw [takeF_in h1]; have := ih r (by simpa using hm); simp only [List.length_cons]; omega
        | false =>
          cases h2 : esc0 (x :: r) with
          | true => rw [takeF_esc h1 h2]; have h3 := escF_le r; have := ih (escF r).2 (by simp at hm; omega); simp only [List.length_cons]; omega
          | false => rw [takeF_end h1 h2]; simp
  obtain ⟨x, hx⟩ := get_lt hi
  have hlen : (l.drop (i + 1)).length = l.length - i - 1 := by simp; omega
  rw [esc_drop, atR_get hx] at hb
  rw [drop_cons hx] at hb ⊢
  cases h1 : inB x.r with
  | true => rw [takeF_in h1]; have := key _ (l.drop (i + 1)) (Nat.le_refl _); simp only; omega
  | false =>
    have h2 : esc0 (x :: l.drop (i + 1)) = true := by rcases hb with h | h; rw [h1] at h; cases h; exact h
    rw [takeF_esc h1 h2]
    have h3 := escF_le (l.drop (i + 1))
    have := key _ (escF (l.drop (i + 1))).2 (Nat.le_refl _)
    simp only; omega
theorem namedX_spec (l : List Rn) (i : Nat) (hl : l.length ≤ 1000000) (hi : i < l.length) (hb : inB (atR l (i : Nat)) = true ∨ escB l i = true) : PCall C1 74 [.c (.p (rR l)), yd (.int .i64 (i : Nat))] (LexX l i (namedT (l.drop i))) := by
  refine Pf (by rfl) (by rfl) fn74 (by rfl) ?_
  simp only [Try.f74, List.length_cons, List.length_nil, List.replicate, List.cons_append, List.nil_append]
  simp -implicitDefEqProofs only [↓yP, yT, Nat.reduceLeDiff]
  refine Rcall_pure (takeX_spec l i hl (by omega)) (by rfl) fun y hy => ?_
  obtain ⟨k, rfl, hk1, hk2, hs, hk3⟩ := hy
  have hlt := takeF_lt hi hb
  rw [hk3] at hlt
  have hik : i < k := by simp at hlt; omega
  have hsl : (strOf (bstr (takeF (l.drop i)).1)).length ≤ 10000000 := by rw [bstr_len]; omega
  obtain ⟨s, hse⟩ : ∃ s, s = bstr (takeF (l.drop i)).1 := ⟨_, rfl⟩
  rw [← hse] at hsl ⊢
  have w1 : wrapK .i64 ((k : Int) + 1) = ((k + 1 : Nat) : Int) := wrap_succ (by omega)
  simp -implicitDefEqProofs only [↓yP, yT]
  refine Rcall_pure (at_spec l _) (by rfl) fun y hy => ?_
  subst hy
  cases h1 : eqI (atR l (k : Nat)) 40 with
  | false =>
    simp -implicitDefEqProofs only [↓yP, yT, Nat.reduceAdd, Nat.reduceLeDiff, reduceCtorEq, h1]
    exact ⟨lexTok 1 s, k, rfl, by omega, by omega, by rw [namedT, hk3, hd_drop, h1, hse]; rfl⟩
  | true =>
    have hk40 := of_eqT h1
    have hkl : k < l.length := Nat.lt_of_not_le fun hle => by
      rw [atR_out (by omega)] at hk40
      exact absurd hk40 (by decide)
    simp -implicitDefEqProofs only [↓yP, yT, h1, w1]
    refine Rl_inv (fun d e st => ∃ (j : Nat), e = [.c (.p (rR l)), yd (.int .i64 (i : Nat)), Tp, Tp, .c (.ptr 0 0 0 0), Tp, yd (.string s), yd (.int .i64 (k : Nat)), yd (.int .i64 (j : Nat)), Tp, Tp, Tp, Tp, Tp, Tp, Tp, Tp, Tp, Tp, Tp, Tp, Tp, Tp, Tp, Tp, Tp, Tp, Tp, Tp, Tp, Tp, Tp, Tp, Tp, Tp, Tp, Tp, Tp, Tp, Tp, Tp, Tp, Tp, Tp, Tp, Tp, Tp, Tp, Tp, Tp, Tp, Tp, Tp, Tp, Tp, Tp] ∧ st = [.box zt] ∧ j + d = l.length ∧ blanks (l.drop j) = blanks (l.drop (k + 1))) [true, true, false, false, true, false, true, true, true] (l.length - (k + 1)) [0] (by decide) (pinned_zero _) ⟨k + 1, by (simp only [yE]; try rfl), by (simp only [yE]; try rfl), by omega, rfl⟩ ?_
    rintro d e st ⟨j, rfl, rfl, hd, hbj⟩
    have v1 : wrapK .i64 ((j : Int) + 1) = ((j + 1 : Nat) : Int) := wrap_succ (by omega)
    simp -implicitDefEqProofs only [↓yP, yT]
    refine Rcall_pure (at_spec l _) (by rfl) fun y hy => ?_
    subst hy
    simp -implicitDefEqProofs only [yT]
    refine Rcall_pure (blank_spec1 _) (by rfl) fun y hy => ?_
    subst hy
    cases h2 : blankB (atR l (j : Nat)) with
    | true =>
      have hjl : j < l.length := Nat.lt_of_not_le fun hle => by
        rw [atR_out (by omega)] at h2
        exact absurd h2 (by decide)
      simp -implicitDefEqProofs only [↓yP, yT, v1]
      refine ⟨d - 1, [0], by omega, by decide, pinned_zero _, j + 1, by (simp only [yE]; try rfl), by (simp only [yE]; try rfl), by omega, by rw [← hbj, blanks_go h2]⟩
    | false =>
      rw [blanks_stop h2] at hbj
      simp -implicitDefEqProofs only [↓yP, yT]
      refine Rcall_pure (lowX_spec s hsl) (by rfl) fun y hy => ?_
      subst hy
      cases h3 : (strOf (lowF s) == strOf ⟨#[117, 114, 108]⟩) with
      | false =>
        have hT : namedT (l.drop i) = (lexTok 2 s, l.drop (k + 1)) := by rw [namedT, hk3, hd_drop, h1, if_pos rfl, List.drop_drop, ← hbj, hd_drop, ← hse, h3]; simp
        simp -implicitDefEqProofs only [↓yP, yT, Nat.reduceAdd, Nat.reduceLeDiff, reduceCtorEq, xstr_eql, h3, w1, zt13, ztd]
        exact ⟨lexTok 2 s, k + 1, rfl, by omega, by omega, hT⟩
      | true =>
        simp -implicitDefEqProofs only [yT, xstr_eql, h3]
        refine Rcall_pure (at_spec l _) (by rfl) fun y hy => ?_
        subst hy
        cases h4 : eqI (atR l (j : Nat)) 34 with
        | true =>
          have hT : namedT (l.drop i) = (lexTok 2 s, l.drop (k + 1)) := by rw [namedT, hk3, hd_drop, h1, if_pos rfl, List.drop_drop, ← hbj, hd_drop, ← hse, h3, h4]; simp
          simp -implicitDefEqProofs only [↓yP, yT, Nat.reduceAdd, Nat.reduceLeDiff, reduceCtorEq, h4, w1, zt13, ztd]
          exact ⟨lexTok 2 s, k + 1, rfl, by omega, by omega, hT⟩
        | false =>
          simp -implicitDefEqProofs only [yT, h4]
          refine Rcall_pure (at_spec l _) (by rfl) fun y hy => ?_
          subst hy
          cases h5 : eqI (atR l (j : Nat)) 39 with
          | true =>
            have hT : namedT (l.drop i) = (lexTok 2 s, l.drop (k + 1)) := by rw [namedT, hk3, hd_drop, h1, if_pos rfl, List.drop_drop, ← hbj, hd_drop, ← hse, h3, h4, h5]; simp
            simp -implicitDefEqProofs only [↓yP, yT, Nat.reduceAdd, Nat.reduceLeDiff, reduceCtorEq, h5, w1, zt13, ztd]
            exact ⟨lexTok 2 s, k + 1, rfl, by omega, by omega, hT⟩
          | false =>
            simp -implicitDefEqProofs only [↓yP, yT, h5, w1]
            refine Rcall_pure (urlX_spec l i (k + 1) hl (by omega) (by omega)) (by rfl) fun y hy => ?_
            obtain ⟨t, k', rfl, hk1', hk2', ht⟩ := hy
            have hT : namedT (l.drop i) = (t, l.drop k') := by
              rw [namedT, hk3, hd_drop, h1, if_pos rfl, List.drop_drop, ← hbj, hd_drop, ← hse, h3, h4, h5]
              exact ht
            simp only [Tok.yv, Tok.cs, Tok.pc, List.map_cons, List.map_nil]
            simp -implicitDefEqProofs only [↓yP, yT, Nat.reduceAdd, reduceCtorEq, zt13, ztd]
            exact ⟨t, k', rfl, by omega, by omega, hT⟩
theorem numbersX_spec (l : List Rn) (i : Nat) (hl : l.length ≤ 1000000) (hi : i < l.length) (hn : numeralB l i = true) : PCall C1 73 [.c (.p (rR l)), yd (.int .i64 (i : Nat))] (LexX l i (numT (l.drop i))) := by
  have w1 : wrapK .i64 ((i : Int) + 1) = ((i + 1 : Nat) : Int) := wrap_succ (by omega)
  refine Pf (by rfl) (by rfl) fn73 (by rfl) ?_
  simp only [Try.f73, List.length_cons, List.length_nil, List.replicate, List.cons_append, List.nil_append]
  simp -implicitDefEqProofs only [↓yP, yT, Nat.reduceAdd, Nat.reduceLeDiff, reduceCtorEq]
  refine Rcall_cut (fun e st => ∃ (k : Nat) (sg : Bool), (∃ g : Nat → YV, e = [.c (.p (rR l)), yd (.int .i64 (k : Nat)), g 2, g 3, .c (.ptr 0 0 0 0), g 5, yd (.int .i64 (i : Nat)), .c (.ptr 1 0 0 0), g 8, g 9, g 10, g 11, g 12, g 13, g 14, g 15, g 16, g 17, g 18, g 19, g 20, g 21, g 22, g 23, g 24, g 25, g 26, g 27, g 28, g 29, g 30, g 31, g 32, g 33, g 34, g 35, g 36, g 37, g 38, g 39, g 40, g 41, g 42, g 43, g 44, g 45, g 46, g 47, g 48, g 49, g 50, g 51, g 52, g 53, g 54, g 55, g 56, g 57, g 58, g 59, g 60, g 61, g 62, g 63, g 64, g 65, g 66, g 67, g 68, g 69, g 70, g 71, g 72, g 73, g 74, g 75, g 76, g 77, g 78, g 79, g 80, g 81, g 82, g 83, g 84, g 85, g 86, g 87, g 88, g 89, g 90, g 91, g 92, g 93, g 94, g 95, g 96, g 97, g 98, g 99, g 100, g 101, g 102, g 103, g 104, g 105, g 106, g 107, g 108, g 109, g 110, g 111, g 112, g 113, g 114, g 115, g 116, g 117, g 118, g 119, g 120, g 121, g 122, g 123, g 124]) ∧ st = [.box zt, .box (tc 10 ⟨#[]⟩ false ⟨#[]⟩ ⟨#[]⟩ true sg)] ∧ i ≤ k ∧ k ≤ i + 1 ∧ (digitB (atR l (k : Nat)) || (eqI (atR l (k : Nat)) 46 && digitB (atR l ((k + 1 : Nat) : Int)))) = true ∧ (if isSign (l.drop i) then l.drop (i + 1) else l.drop i) = l.drop k ∧ sg = eqI (hd (l.drop i)) 43) ?_ ?_
  · skip
    refine Rcall_pure (at_spec l _) (by rfl) fun y hy => ?_
    subst hy
    cases h1 : eqI (atR l (i : Nat)) 43 with
    | true =>
      simp -implicitDefEqProofs only [↓yP, yT, h1]
      refine Rcall_pure (at_spec l _) (by rfl) fun y hy => ?_
      subst hy
      simp -implicitDefEqProofs only [↓yP, yT, Nat.reduceAdd, Nat.reduceLeDiff, h1, w1, ythen_n]
      exact ⟨i + 1, _, gs_mk rfl, rfl, by omega, by omega, by simpa [numeralB, h1] using hn, if_pos (by rw [isSign, hd_drop, h1]; rfl), by rw [hd_drop, h1]⟩
    | false =>
      simp -implicitDefEqProofs only [yT, h1]
      refine Rcall_pure (at_spec l _) (by rfl) fun y hy => ?_
      subst hy
      cases h2 : eqI (atR l (i : Nat)) 45 with
      | true =>
        simp -implicitDefEqProofs only [↓yP, yT, h2]
        refine Rcall_pure (at_spec l _) (by rfl) fun y hy => ?_
        subst hy
        simp -implicitDefEqProofs only [↓yP, yT, Nat.reduceAdd, Nat.reduceLeDiff, h1, w1, ythen_n]
        exact ⟨i + 1, _, gs_mk rfl, rfl, by omega, by omega, by simpa [numeralB, h1, h2] using hn, if_pos (by rw [isSign, hd_drop, h2, Bool.or_true]), by rw [hd_drop, h1]⟩
      | false =>
        simp -implicitDefEqProofs only [↓yP, yT, h2, ythen_n]
        exact ⟨i, _, gs_mk rfl, rfl, by omega, by omega, by simpa [numeralB, h1, h2] using hn, if_neg (by rw [isSign, hd_drop, h1, h2]; simp), by rw [hd_drop, h1]⟩
  rintro e st ⟨i1, sg, ⟨g, rfl⟩, rfl, hi1, hi2, hnd, hA0, hsg⟩
  have hA1 : numA (l.drop i) = digs (l.drop i1) := by rw [numA, List.drop_drop, hA0]
  have hin : i1 < l.length := Nat.lt_of_not_le fun hle => by
    rw [atR_out (by omega)] at hnd; exact absurd hnd (by simp [digitB, leI_eq, eqI_eq])
  simp -implicitDefEqProofs only [↓yP]
  refine Rl_inv (fun d e st => ∃ (k : Nat), e = ([.c (.p (rR l)), yd (.int .i64 (k : Nat)), Tp, Tp, .c (.ptr 0 0 0 0), Tp, yd (.int .i64 (i : Nat)), .c (.ptr 1 0 0 0), Tp, Tp, Tp, Tp, Tp, Tp, Tp, Tp, Tp, Tp, Tp, Tp, Tp, Tp, Tp, Tp, Tp, Tp, Tp, Tp, Tp, Tp, Tp, Tp, Tp, Tp, Tp, Tp, Tp, Tp, Tp, Tp, Tp, Tp, Tp, Tp, Tp, Tp, Tp, Tp, Tp, Tp, Tp, Tp, Tp, Tp, Tp, Tp, Tp, Tp, Tp, Tp, Tp, Tp, Tp, Tp, Tp, Tp, Tp, Tp, Tp, Tp, Tp, Tp, Tp, Tp, Tp, Tp, Tp, Tp, Tp, Tp, Tp, Tp, Tp, Tp, Tp, Tp, Tp, Tp, Tp, Tp, Tp, Tp, Tp, Tp, Tp, Tp, Tp, Tp, Tp, Tp, Tp, Tp, Tp, Tp, Tp, Tp, Tp, Tp, Tp, Tp, Tp, Tp, Tp, Tp, Tp, Tp, Tp, Tp, Tp, Tp, Tp, Tp, Tp, Tp, Tp]) ∧ st = [.box zt, .box (tc 10 ⟨#[]⟩ false ⟨#[]⟩ ⟨#[]⟩ true sg)] ∧ k + d = l.length ∧ i ≤ k ∧ (k = i → (digitB (atR l (k : Nat)) || (eqI (atR l (k : Nat)) 46 && digitB (atR l ((k + 1 : Nat) : Int)))) = true) ∧ digs (l.drop i1) = digs (l.drop k)) [true, true, false, false, true, false, true, true] (l.length - i1) [0, 1] (by decide) (pinned_zero _) ⟨i1, by (simp only [yE, reduceCtorEq]; try rfl), by (simp only [yE]; try rfl), by omega, by omega, fun _ => hnd, rfl⟩ ?_
  rintro d e st ⟨k, rfl, rfl, hd, hik, hk, hdi⟩
  simp -implicitDefEqProofs only [↓yP, yT]
  refine Rcall_pure (at_spec l _) (by rfl) fun y hy => ?_
  subst hy
  simp -implicitDefEqProofs only [yT]
  refine Rcall_pure (digit_spec _) (by rfl) fun y hy => ?_
  subst hy
  cases h1 : digitB (atR l (k : Nat)) with
  | true =>
    have := digit_in h1
    have v1 : wrapK .i64 ((k : Int) + 1) = ((k + 1 : Nat) : Int) := wrap_succ (by omega)
    simp -implicitDefEqProofs only [↓yP, yT, v1]
    refine ⟨d - 1, [0, 1], by omega, by decide, pinned_zero _, k + 1, by (simp only [yE, reduceCtorEq]; try rfl), by (simp only [yE]; try rfl), by omega, by omega, fun h => by omega, by rw [hdi, digs_go h1]⟩
  | false =>
  rw [hdi, digs_stop h1] at hA1
  rw [h1, Bool.false_or] at hk
  have v1 : wrapK .i64 ((k : Int) + 1) = ((k + 1 : Nat) : Int) := wrap_succ (by omega)
  have v2 : wrapK .i64 ((k : Int) + 2) = ((k + 2 : Nat) : Int) := wrap_nat (i := k + 2) (by omega)
  simp -implicitDefEqProofs only [↓yP, yT]
  refine Rcall_cut (fun e st => ∃ (k : Nat) (f : Bool), (∃ g : Nat → YV, e = [.c (.p (rR l)), yd (.int .i64 (k : Nat)), g 2, g 3, .c (.ptr 0 0 0 0), g 5, yd (.int .i64 (i : Nat)), .c (.ptr 1 0 0 0), g 8, g 9, g 10, g 11, g 12, g 13, g 14, g 15, g 16, g 17, g 18, g 19, g 20, g 21, g 22, g 23, g 24, g 25, g 26, g 27, g 28, g 29, g 30, g 31, g 32, g 33, g 34, g 35, g 36, g 37, g 38, g 39, g 40, g 41, g 42, g 43, g 44, g 45, g 46, g 47, g 48, g 49, g 50, g 51, g 52, g 53, g 54, g 55, g 56, g 57, g 58, g 59, g 60, g 61, g 62, g 63, g 64, g 65, g 66, g 67, g 68, g 69, g 70, g 71, g 72, g 73, g 74, g 75, g 76, g 77, g 78, g 79, g 80, g 81, g 82, g 83, g 84, g 85, g 86, g 87, g 88, g 89, g 90, g 91, g 92, g 93, g 94, g 95, g 96, g 97, g 98, g 99, g 100, g 101, g 102, g 103, g 104, g 105, g 106, g 107, g 108, g 109, g 110, g 111, g 112, g 113, g 114, g 115, g 116, g 117, g 118, g 119, g 120, g 121, g 122, g 123, g 124]) ∧ st = [.box zt, .box (tc 10 ⟨#[]⟩ false ⟨#[]⟩ ⟨#[]⟩ f sg)] ∧ i < k ∧ k ≤ l.length ∧ numB (numA (l.drop i)) = (f, l.drop k)) ?_ ?_
  · skip
    refine Rcall_pure (at_spec l _) (by rfl) fun y hy => ?_
    subst hy
    cases h2 : eqI (atR l (k : Nat)) 46 with
    | false =>
      simp -implicitDefEqProofs only [↓yP, yT, h2, ythen_n]
      exact ⟨k, _, gs_mk rfl, rfl, ltk hik (fun h => by have := hk h; rw [h2] at this; simp at this), by omega, by rw [hA1, numB, hd_drop, h2]; rfl⟩
    | true =>
      simp -implicitDefEqProofs only [yT, h2, v1]
      refine Rcall_pure (at_spec l _) (by rfl) fun y hy => ?_
      subst hy
      simp -implicitDefEqProofs only [yT]
      refine Rcall_pure (digit_spec _) (by rfl) fun y hy => ?_
      subst hy
      cases h3 : digitB (atR l ((k + 1 : Nat) : Int)) with
      | false =>
        simp -implicitDefEqProofs only [↓yP, yT, ythen_n]
        exact ⟨k, _, gs_mk rfl, rfl, ltk hik (fun h => by have := hk h; rw [h3] at this; simp at this), by omega, by rw [hA1, numB, List.drop_drop, hd_drop, hd_drop, h3, Bool.and_false]; rfl⟩
      | true =>
        have := digit_in h3
        simp -implicitDefEqProofs only [↓yP, yT, Nat.reduceAdd, Nat.reduceLeDiff, v2]
        refine Rl_inv (fun d e st => ∃ (k2 : Nat), e = ([.c (.p (rR l)), yd (.int .i64 (k2 : Nat)), Tp, Tp, .c (.ptr 0 0 0 0), Tp, yd (.int .i64 (i : Nat)), .c (.ptr 1 0 0 0), Tp, Tp, Tp, Tp, Tp, Tp, Tp, Tp, Tp, Tp, Tp, Tp, Tp, Tp, Tp, Tp, Tp, Tp, Tp, Tp, Tp, Tp, Tp, Tp, Tp, Tp, Tp, Tp, Tp, Tp, Tp, Tp, Tp, Tp, Tp, Tp, Tp, Tp, Tp, Tp, Tp, Tp, Tp, Tp, Tp, Tp, Tp, Tp, Tp, Tp, Tp, Tp, Tp, Tp, Tp, Tp, Tp, Tp, Tp, Tp, Tp, Tp, Tp, Tp, Tp, Tp, Tp, Tp, Tp, Tp, Tp, Tp, Tp, Tp, Tp, Tp, Tp, Tp, Tp, Tp, Tp, Tp, Tp, Tp, Tp, Tp, Tp, Tp, Tp, Tp, Tp, Tp, Tp, Tp, Tp, Tp, Tp, Tp, Tp, Tp, Tp, Tp, Tp, Tp, Tp, Tp, Tp, Tp, Tp, Tp, Tp, Tp, Tp, Tp, Tp, Tp, Tp]) ∧ st = [.box zt, .box (tc 10 ⟨#[]⟩ false ⟨#[]⟩ ⟨#[]⟩ false sg)] ∧ k2 + d = l.length ∧ i < k2 ∧ digs (l.drop ((k + 2))) = digs (l.drop k2)) [true, true, false, false, true, false, true, true] (l.length - (k + 2)) [0, 1] (by decide) (pinned_zero _) ⟨(k + 2), by (simp only [yE, reduceCtorEq]; try rfl), by (simp only [yE]; try rfl), by omega, by omega, rfl⟩ ?_
        rintro d2 e st ⟨k2, rfl, rfl, hd2, hk2, hdg⟩
        simp -implicitDefEqProofs only [↓yP, yT]
        refine Rcall_pure (at_spec l _) (by rfl) fun y hy => ?_
        subst hy
        simp -implicitDefEqProofs only [yT]
        refine Rcall_pure (digit_spec _) (by rfl) fun y hy => ?_
        subst hy
        cases h8 : digitB (atR l (k2 : Nat)) with
        | true =>
          have := digit_in h8
          have v8 : wrapK .i64 ((k2 : Int) + 1) = ((k2 + 1 : Nat) : Int) := wrap_succ (by omega)
          simp -implicitDefEqProofs only [↓yP, yT, v8]
          refine ⟨d2 - 1, [0, 1], by omega, by decide, pinned_zero _, k2 + 1, by (simp only [yE, reduceCtorEq]; try rfl), by (simp only [yE]; try rfl), by omega, by omega, by rw [hdg, digs_go h8]⟩
        | false =>
          rw [digs_stop h8] at hdg
          simp -implicitDefEqProofs only [↓yP, yT, ythen_n]
          exact ⟨k2, _, gs_mk rfl, rfl, by omega, by omega, by rw [← hdg]; rw [hA1, numB, List.drop_drop, hd_drop, hd_drop, h2, h3, List.drop_drop]; rfl⟩
  clear v1 v2 hk hik hd h1 hdi hA1 hA0 k
  rintro e st ⟨k, f, ⟨g, rfl⟩, rfl, hik, hkl, hB⟩
  have v1 : wrapK .i64 ((k : Int) + 1) = ((k + 1 : Nat) : Int) := wrap_succ (by omega)
  simp -implicitDefEqProofs only [↓yP, yT]
  refine Rcall_cut (fun e st => ∃ (k : Nat) (f : Bool), (∃ g : Nat → YV, e = [.c (.p (rR l)), yd (.int .i64 (k : Nat)), g 2, g 3, .c (.ptr 0 0 0 0), g 5, yd (.int .i64 (i : Nat)), .c (.ptr 1 0 0 0), g 8, g 9, g 10, g 11, g 12, g 13, g 14, g 15, g 16, g 17, g 18, g 19, g 20, g 21, g 22, g 23, g 24, g 25, g 26, g 27, g 28, g 29, g 30, g 31, g 32, g 33, g 34, g 35, g 36, g 37, g 38, g 39, g 40, g 41, g 42, g 43, g 44, g 45, g 46, g 47, g 48, g 49, g 50, g 51, g 52, g 53, g 54, g 55, g 56, g 57, g 58, g 59, g 60, g 61, g 62, g 63, g 64, g 65, g 66, g 67, g 68, g 69, g 70, g 71, g 72, g 73, g 74, g 75, g 76, g 77, g 78, g 79, g 80, g 81, g 82, g 83, g 84, g 85, g 86, g 87, g 88, g 89, g 90, g 91, g 92, g 93, g 94, g 95, g 96, g 97, g 98, g 99, g 100, g 101, g 102, g 103, g 104, g 105, g 106, g 107, g 108, g 109, g 110, g 111, g 112, g 113, g 114, g 115, g 116, g 117, g 118, g 119, g 120, g 121, g 122, g 123, g 124]) ∧ st = [.box zt, .box (tc 10 ⟨#[]⟩ false ⟨#[]⟩ ⟨#[]⟩ f sg)] ∧ i < k ∧ k ≤ l.length ∧ numF (l.drop i) = (f, l.drop k)) ?_ ?_
  · skip
    refine Rcall_pure (at_spec l _) (by rfl) fun y hy => ?_
    subst hy
    cases h1 : eqI (atR l (k : Nat)) 101 with
    | true =>
      have hE : (eqI (hd (l.drop k)) 101 || eqI (hd (l.drop k)) 69) = true := by rw [hd_drop, h1]; rfl
      simp -implicitDefEqProofs only [↓yP, yT, h1, v1]
      refine Rcall_cut (fun e st => ∃ (k3 : Nat), (∃ g : Nat → YV, e = [.c (.p (rR l)), yd (.int .i64 (k : Nat)), g 2, g 3, .c (.ptr 0 0 0 0), g 5, yd (.int .i64 (i : Nat)), .c (.ptr 1 0 0 0), yd (.int .i64 (k3 : Nat)), g 9, g 10, g 11, g 12, g 13, g 14, g 15, g 16, g 17, g 18, g 19, g 20, g 21, g 22, g 23, g 24, g 25, g 26, g 27, g 28, g 29, g 30, g 31, g 32, g 33, g 34, g 35, g 36, g 37, g 38, g 39, g 40, g 41, g 42, g 43, g 44, g 45, g 46, g 47, g 48, g 49, g 50, g 51, g 52, g 53, g 54, g 55, g 56, g 57, g 58, g 59, g 60, g 61, g 62, g 63, g 64, g 65, g 66, g 67, g 68, g 69, g 70, g 71, g 72, g 73, g 74, g 75, g 76, g 77, g 78, g 79, g 80, g 81, g 82, g 83, g 84, g 85, g 86, g 87, g 88, g 89, g 90, g 91, g 92, g 93, g 94, g 95, g 96, g 97, g 98, g 99, g 100, g 101, g 102, g 103, g 104, g 105, g 106, g 107, g 108, g 109, g 110, g 111, g 112, g 113, g 114, g 115, g 116, g 117, g 118, g 119, g 120, g 121, g 122, g 123, g 124]) ∧ st = [.box zt, .box (tc 10 ⟨#[]⟩ false ⟨#[]⟩ ⟨#[]⟩ f sg)] ∧ k < k3 ∧ k3 ≤ k + 2 ∧ (if isSign (l.drop (k + 1)) then l.drop (k + 2) else l.drop (k + 1)) = l.drop k3) ?_ ?_
      · skip
        refine Rcall_pure (at_spec l _) (by rfl) fun y hy => ?_
        subst hy
        have w2 : wrapK .i64 (((k + 1 : Nat) : Int) + 1) = ((k + 2 : Nat) : Int) := wrap_succ (by omega)
        cases h3 : eqI (atR l ((k + 1 : Nat) : Int)) 43 with
        | true =>
          simp -implicitDefEqProofs only [↓yP, yT, h3, w2, ythen_n]
          exact ⟨k + 2, gs_mk rfl, by omega, by omega, if_pos (by rw [isSign, hd_drop, h3]; rfl)⟩
        | false =>
          simp -implicitDefEqProofs only [yT, h3]
          refine Rcall_pure (at_spec l _) (by rfl) fun y hy => ?_
          subst hy
          cases h4 : eqI (atR l ((k + 1 : Nat) : Int)) 45 with
          | true =>
            simp -implicitDefEqProofs only [↓yP, yT, h4, w2, ythen_n]
            exact ⟨k + 2, gs_mk rfl, by omega, by omega, if_pos (by rw [isSign, hd_drop, h4, Bool.or_true])⟩
          | false =>
            simp -implicitDefEqProofs only [↓yP, yT, h4, ythen_n]
            exact ⟨k + 1, gs_mk rfl, by omega, by omega, if_neg (by rw [isSign, hd_drop, h3, h4]; simp)⟩
      rintro e st ⟨k3, ⟨g, rfl⟩, rfl, hk3, hk3', hks⟩
      simp -implicitDefEqProofs only [↓yP, yT]
      refine Rcall_pure (at_spec l _) (by rfl) fun y hy => ?_
      subst hy
      simp -implicitDefEqProofs only [yT]
      refine Rcall_pure (digit_spec _) (by rfl) fun y hy => ?_
      subst hy
      cases h5 : digitB (atR l (k3 : Nat)) with
      | false =>
        simp -implicitDefEqProofs only [↓yP, yT, ythen_n]
        exact ⟨k, _, gs_mk rfl, rfl, by omega, by omega, by rw [numC_e hB hE, hks, hd_drop, h5]; rfl⟩
      | true =>
        have := digit_in h5
        simp -implicitDefEqProofs only [↓yP, yT, Nat.reduceAdd, Nat.reduceLeDiff]
        refine Rl_inv (fun d e st => ∃ (k2 : Nat), e = ([.c (.p (rR l)), yd (.int .i64 (k2 : Nat)), Tp, Tp, .c (.ptr 0 0 0 0), Tp, yd (.int .i64 (i : Nat)), .c (.ptr 1 0 0 0), Tp, Tp, Tp, Tp, Tp, Tp, Tp, Tp, Tp, Tp, Tp, Tp, Tp, Tp, Tp, Tp, Tp, Tp, Tp, Tp, Tp, Tp, Tp, Tp, Tp, Tp, Tp, Tp, Tp, Tp, Tp, Tp, Tp, Tp, Tp, Tp, Tp, Tp, Tp, Tp, Tp, Tp, Tp, Tp, Tp, Tp, Tp, Tp, Tp, Tp, Tp, Tp, Tp, Tp, Tp, Tp, Tp, Tp, Tp, Tp, Tp, Tp, Tp, Tp, Tp, Tp, Tp, Tp, Tp, Tp, Tp, Tp, Tp, Tp, Tp, Tp, Tp, Tp, Tp, Tp, Tp, Tp, Tp, Tp, Tp, Tp, Tp, Tp, Tp, Tp, Tp, Tp, Tp, Tp, Tp, Tp, Tp, Tp, Tp, Tp, Tp, Tp, Tp, Tp, Tp, Tp, Tp, Tp, Tp, Tp, Tp, Tp, Tp, Tp, Tp, Tp, Tp]) ∧ st = [.box zt, .box (tc 10 ⟨#[]⟩ false ⟨#[]⟩ ⟨#[]⟩ false sg)] ∧ k2 + d = l.length ∧ i < k2 ∧ digs (l.drop (k3)) = digs (l.drop k2)) [true, true, false, false, true, false, true, true] (l.length - k3) [0, 1] (by decide) (pinned_zero _) ⟨k3, by (simp only [yE, reduceCtorEq]; try rfl), by (simp only [yE]; try rfl), by omega, by omega, rfl⟩ ?_
        rintro d2 e st ⟨k2, rfl, rfl, hd2, hk2, hdg⟩
        simp -implicitDefEqProofs only [↓yP, yT]
        refine Rcall_pure (at_spec l _) (by rfl) fun y hy => ?_
        subst hy
        simp -implicitDefEqProofs only [yT]
        refine Rcall_pure (digit_spec _) (by rfl) fun y hy => ?_
        subst hy
        cases h8 : digitB (atR l (k2 : Nat)) with
        | true =>
          have := digit_in h8
          have v8 : wrapK .i64 ((k2 : Int) + 1) = ((k2 + 1 : Nat) : Int) := wrap_succ (by omega)
          simp -implicitDefEqProofs only [↓yP, yT, v8]
          refine ⟨d2 - 1, [0, 1], by omega, by decide, pinned_zero _, k2 + 1, by (simp only [yE, reduceCtorEq]; try rfl), by (simp only [yE]; try rfl), by omega, by omega, by rw [hdg, digs_go h8]⟩
        | false =>
          rw [digs_stop h8] at hdg
          simp -implicitDefEqProofs only [↓yP, yT, ythen_n]
          exact ⟨k2, _, gs_mk rfl, rfl, by omega, by omega, by rw [← hdg]; rw [numC_e hB hE, hks, hd_drop, h5]; rfl⟩
    | false =>
      simp -implicitDefEqProofs only [yT, h1]
      refine Rcall_pure (at_spec l _) (by rfl) fun y hy => ?_
      subst hy
      cases h2 : eqI (atR l (k : Nat)) 69 with
      | true =>
        have hE : (eqI (hd (l.drop k)) 101 || eqI (hd (l.drop k)) 69) = true := by rw [hd_drop, h2, Bool.or_true]
        simp -implicitDefEqProofs only [↓yP, yT, h2, v1]
        refine Rcall_cut (fun e st => ∃ (k3 : Nat), (∃ g : Nat → YV, e = [.c (.p (rR l)), yd (.int .i64 (k : Nat)), g 2, g 3, .c (.ptr 0 0 0 0), g 5, yd (.int .i64 (i : Nat)), .c (.ptr 1 0 0 0), yd (.int .i64 (k3 : Nat)), g 9, g 10, g 11, g 12, g 13, g 14, g 15, g 16, g 17, g 18, g 19, g 20, g 21, g 22, g 23, g 24, g 25, g 26, g 27, g 28, g 29, g 30, g 31, g 32, g 33, g 34, g 35, g 36, g 37, g 38, g 39, g 40, g 41, g 42, g 43, g 44, g 45, g 46, g 47, g 48, g 49, g 50, g 51, g 52, g 53, g 54, g 55, g 56, g 57, g 58, g 59, g 60, g 61, g 62, g 63, g 64, g 65, g 66, g 67, g 68, g 69, g 70, g 71, g 72, g 73, g 74, g 75, g 76, g 77, g 78, g 79, g 80, g 81, g 82, g 83, g 84, g 85, g 86, g 87, g 88, g 89, g 90, g 91, g 92, g 93, g 94, g 95, g 96, g 97, g 98, g 99, g 100, g 101, g 102, g 103, g 104, g 105, g 106, g 107, g 108, g 109, g 110, g 111, g 112, g 113, g 114, g 115, g 116, g 117, g 118, g 119, g 120, g 121, g 122, g 123, g 124]) ∧ st = [.box zt, .box (tc 10 ⟨#[]⟩ false ⟨#[]⟩ ⟨#[]⟩ f sg)] ∧ k < k3 ∧ k3 ≤ k + 2 ∧ (if isSign (l.drop (k + 1)) then l.drop (k + 2) else l.drop (k + 1)) = l.drop k3) ?_ ?_
        · skip
          refine Rcall_pure (at_spec l _) (by rfl) fun y hy => ?_
          subst hy
          have w2 : wrapK .i64 (((k + 1 : Nat) : Int) + 1) = ((k + 2 : Nat) : Int) := wrap_succ (by omega)
          cases h3 : eqI (atR l ((k + 1 : Nat) : Int)) 43 with
          | true =>
            simp -implicitDefEqProofs only [↓yP, yT, h3, w2, ythen_n]
            exact ⟨k + 2, gs_mk rfl, by omega, by omega, if_pos (by rw [isSign, hd_drop, h3]; rfl)⟩
          | false =>
            simp -implicitDefEqProofs only [yT, h3]
            refine Rcall_pure (at_spec l _) (by rfl) fun y hy => ?_
            subst hy
            cases h4 : eqI (atR l ((k + 1 : Nat) : Int)) 45 with
            | true =>
              simp -implicitDefEqProofs only [↓yP, yT, h4, w2, ythen_n]
              exact ⟨k + 2, gs_mk rfl, by omega, by omega, if_pos (by rw [isSign, hd_drop, h4, Bool.or_true])⟩
            | false =>
              simp -implicitDefEqProofs only [↓yP, yT, h4, ythen_n]
              exact ⟨k + 1, gs_mk rfl, by omega, by omega, if_neg (by rw [isSign, hd_drop, h3, h4]; simp)⟩
        rintro e st ⟨k3, ⟨g, rfl⟩, rfl, hk3, hk3', hks⟩
        simp -implicitDefEqProofs only [↓yP, yT]
        refine Rcall_pure (at_spec l _) (by rfl) fun y hy => ?_
        subst hy
        simp -implicitDefEqProofs only [yT]
        refine Rcall_pure (digit_spec _) (by rfl) fun y hy => ?_
        subst hy
        cases h5 : digitB (atR l (k3 : Nat)) with
        | false =>
          simp -implicitDefEqProofs only [↓yP, yT, ythen_n]
          exact ⟨k, _, gs_mk rfl, rfl, by omega, by omega, by rw [numC_e hB hE, hks, hd_drop, h5]; rfl⟩
        | true =>
          have := digit_in h5
          simp -implicitDefEqProofs only [↓yP, yT, Nat.reduceAdd, Nat.reduceLeDiff]
          refine Rl_inv (fun d e st => ∃ (k2 : Nat), e = ([.c (.p (rR l)), yd (.int .i64 (k2 : Nat)), Tp, Tp, .c (.ptr 0 0 0 0), Tp, yd (.int .i64 (i : Nat)), .c (.ptr 1 0 0 0), Tp, Tp, Tp, Tp, Tp, Tp, Tp, Tp, Tp, Tp, Tp, Tp, Tp, Tp, Tp, Tp, Tp, Tp, Tp, Tp, Tp, Tp, Tp, Tp, Tp, Tp, Tp, Tp, Tp, Tp, Tp, Tp, Tp, Tp, Tp, Tp, Tp, Tp, Tp, Tp, Tp, Tp, Tp, Tp, Tp, Tp, Tp, Tp, Tp, Tp, Tp, Tp, Tp, Tp, Tp, Tp, Tp, Tp, Tp, Tp, Tp, Tp, Tp, Tp, Tp, Tp, Tp, Tp, Tp, Tp, Tp, Tp, Tp, Tp, Tp, Tp, Tp, Tp, Tp, Tp, Tp, Tp, Tp, Tp, Tp, Tp, Tp, Tp, Tp, Tp, Tp, Tp, Tp, Tp, Tp, Tp, Tp, Tp, Tp, Tp, Tp, Tp, Tp, Tp, Tp, Tp, Tp, Tp, Tp, Tp, Tp, Tp, Tp, Tp, Tp, Tp, Tp]) ∧ st = [.box zt, .box (tc 10 ⟨#[]⟩ false ⟨#[]⟩ ⟨#[]⟩ false sg)] ∧ k2 + d = l.length ∧ i < k2 ∧ digs (l.drop (k3)) = digs (l.drop k2)) [true, true, false, false, true, false, true, true] (l.length - k3) [0, 1] (by decide) (pinned_zero _) ⟨k3, by (simp only [yE, reduceCtorEq]; try rfl), by (simp only [yE]; try rfl), by omega, by omega, rfl⟩ ?_
          rintro d2 e st ⟨k2, rfl, rfl, hd2, hk2, hdg⟩
          simp -implicitDefEqProofs only [↓yP, yT]
          refine Rcall_pure (at_spec l _) (by rfl) fun y hy => ?_
          subst hy
          simp -implicitDefEqProofs only [yT]
          refine Rcall_pure (digit_spec _) (by rfl) fun y hy => ?_
          subst hy
          cases h8 : digitB (atR l (k2 : Nat)) with
          | true =>
            have := digit_in h8
            have v8 : wrapK .i64 ((k2 : Int) + 1) = ((k2 + 1 : Nat) : Int) := wrap_succ (by omega)
            simp -implicitDefEqProofs only [↓yP, yT, v8]
            refine ⟨d2 - 1, [0, 1], by omega, by decide, pinned_zero _, k2 + 1, by (simp only [yE, reduceCtorEq]; try rfl), by (simp only [yE]; try rfl), by omega, by omega, by rw [hdg, digs_go h8]⟩
          | false =>
            rw [digs_stop h8] at hdg
            simp -implicitDefEqProofs only [↓yP, yT, ythen_n]
            exact ⟨k2, _, gs_mk rfl, rfl, by omega, by omega, by rw [← hdg]; rw [numC_e hB hE, hks, hd_drop, h5]; rfl⟩
      | false =>
        simp -implicitDefEqProofs only [↓yP, yT, h2, ythen_n]
        exact ⟨k, _, gs_mk rfl, rfl, by omega, by omega, by rw [numF, hB]; simp only [numC, hd_drop, h1, h2, Bool.or_self, Bool.false_eq_true, if_false]⟩
  clear v1 hik hkl hB k
  rintro e st ⟨k, f, ⟨g, rfl⟩, rfl, hik, hkl, hF⟩
  have v1 : wrapK .i64 ((k : Int) + 1) = ((k + 1 : Nat) : Int) := wrap_succ (by omega)
  simp -implicitDefEqProofs only [↓yP, yT]
  refine Rcall_pure (rawX_spec l i k hl (by omega) hkl) (by rfl) fun y hy => ?_
  subst hy
  have hst : (strOf (bstr (textF ((l.drop i).take (k - i))))).length ≤ 4000000 := by
    rw [bstr_len]; have := textF_len ((l.drop i).take (k - i)); simp at this ⊢; omega
  have hus : used (l.drop i) (l.drop k) = (l.drop i).take (k - i) := used_drop l (by omega) hkl
  have hnT : numT (l.drop i) = numE sg f (bstr (textF ((l.drop i).take (k - i)))) (l.drop k) := by rw [numT, hF, hsg, hus]
  rw [hnT]
  generalize bstr (textF ((l.drop i).take (k - i))) = st at hst
  clear hnT hus hF
  simp -implicitDefEqProofs only [yT]
  refine Rcall_pure (readNumX_spec st hst) (by rfl) fun y hy => ?_
  subst hy
  simp -implicitDefEqProofs only [↓yP, yT, Nat.reduceAdd, Nat.reduceLeDiff, reduceCtorEq]
  refine Rcall_pure (begins_spec l k (by omega)) (by rfl) fun y hy => ?_
  subst hy
  rw [begins_drop]
  cases h1 : begins0 (l.drop k) with
  | true =>
    simp -implicitDefEqProofs only [↓yP, yT, Nat.reduceAdd, Nat.reduceLeDiff]
    refine Rcall_pure (takeX_spec l k hl hkl) (by rfl) fun y hy => ?_
    obtain ⟨k2, rfl, hk1, hk2, _, hk3⟩ := hy
    simp -implicitDefEqProofs only [↓yP, yT, Nat.reduceAdd, Nat.reduceLeDiff, reduceCtorEq, zt13, ztd]
    exact ⟨numTok 12 (bstr (takeF (l.drop k)).1) (rdN st).1 (rdN st).2.1 (rdN st).2.2.1 f sg, k2, rfl, by omega, by omega, by rw [numE, if_pos h1, hk3]⟩
  | false =>
    simp -implicitDefEqProofs only [↓yP, yT]
    refine Rcall_pure (at_spec l _) (by rfl) fun y hy => ?_
    subst hy
    cases h2 : eqI (atR l (k : Nat)) 37 with
    | true =>
      have : k < l.length := Nat.lt_of_not_le fun hle => by
        rw [atR_out (by omega)] at h2; exact absurd h2 (by decide)
      simp -implicitDefEqProofs only [↓yP, yT, Nat.reduceAdd, Nat.reduceLeDiff, reduceCtorEq, h2, v1, zt13, ztd]
      exact ⟨numTok 11 ⟨#[]⟩ (rdN st).1 (rdN st).2.1 (rdN st).2.2.1 f sg, k + 1, rfl, by omega, by omega, by rw [numE, if_neg (by rw [h1]; simp), hd_drop, if_pos h2, List.drop_drop]⟩
    | false =>
      simp -implicitDefEqProofs only [↓yP, yT, Nat.reduceAdd, reduceCtorEq, h2, zt13, ztd]
      exact ⟨numTok 10 ⟨#[]⟩ (rdN st).1 (rdN st).2.1 (rdN st).2.2.1 f sg, k, rfl, by omega, by omega, by rw [numE, if_neg (by rw [h1]; simp), hd_drop, if_neg (by rw [h2]; simp)]⟩
end Go.Vx.Seat
end
section
open Go Go.Vx Go.Proofs
set_option maxRecDepth 10000
set_option maxHeartbeats 8000000
namespace Go.Vx.Seat
attribute [local irreducible] Rg Rt Ro Ri Rc Rto Rtk Rtf Rti Rw Rl Rd Rcall Rtcall kf
theorem fn52 : nth C1.P.funcs.toList 52 = some Try.f52 := by kernel_rfl
theorem fn32 : nth C1.P.funcs.toList 32 = some Try.f32 := by kernel_rfl
structure OneQ (l : List Rn) (i : Nat) (t : Tok) (k : Nat) : Prop where
  colon : ∀ x, l[i]? = some x → x.r = 58 → t = lexTok 16 ⟨#[]⟩ ∧ k = i + 1
  opn : ∀ x, l[i]? = some x → x.r = 123 → t = lexTok 19 ⟨#[]⟩ ∧ k = i + 1
  shut : ∀ x, l[i]? = some x → x.r = 125 → t = lexTok 20 ⟨#[]⟩ ∧ k = i + 1
  name : ∀ x, l[i]? = some x → 97 ≤ x.r → x.r ≤ 122 → inB (atR l ((i + 1 : Nat) : Int)) = false → escB l (i + 1) = false → atR l ((i + 1 : Nat) : Int) ≠ 40 → t.kind = 1 ∧ k = i + 1
theorem follows_at {l : List Rn} {i : Nat} {c : UInt8} {cs : List UInt8} (h : followsB l i (c :: cs) = true) : atR l (i : Nat) = (c.toNat : Nat) ∧ followsB l (i + 1) cs = true := by
  rw [followsB, Bool.and_eq_true] at h
  exact ⟨of_eqT h.1, h.2⟩
theorem at_lt {l : List Rn} {i : Nat} (h : atR l (i : Nat) ≠ -1) : i < l.length := Nat.lt_of_not_le fun hle => h (atR_out (by omega))
theorem begins_in {l : List Rn} {i : Nat} (h : beginsB l i = true) : inB (atR l (i : Nat)) = true ∨ escB l i = true := by
  simp only [beginsB, Bool.and_eq_true] at h
  obtain ⟨_, h⟩ := h
  split at h
  · rename_i h2
    exact .inl (by rw [of_eqT h2]; rfl)
  · rw [Bool.or_eq_true] at h
    exact h.imp (fun h => by simp [inB, h]) fun h => h
end Go.Vx.Seat
end
section
open Go Go.Vx Go.Proofs
set_option maxRecDepth 10000
set_option maxHeartbeats 8000000
namespace Go.Vx.Seat
attribute [local irreducible] Rg Rt Ro Ri Rc Rto Rtk Rtf Rti Rw Rl Rd Rcall Rtcall kf
inductive Lexed (l : List Rn) : Nat → List Tok → Prop where
  | nil : Lexed l 0 []
  | snoc {i k : Nat} {ts : List Tok} {x : Rn} {t : Tok} : Lexed l i ts → l[i]? = some x → i < k → k ≤ l.length → TokLex l t → OneQ l i t k → Lexed l k (ts ++ [{ t with start := x.a }])
theorem Lexed.len {l : List Rn} {i : Nat} {ts : List Tok} (h : Lexed l i ts) : ts.length ≤ i := by
  induction h with
  | nil => simp
  | snoc h1 h2 h3 h4 h5 h6 ih => simp; omega
end Go.Vx.Seat
end
