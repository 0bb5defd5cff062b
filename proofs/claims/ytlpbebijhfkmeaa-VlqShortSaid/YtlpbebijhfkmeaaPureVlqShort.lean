/- A number has as many digits as its size asks, and without its last digit it is no number.
   Conditions: none beyond the statement's own bounds. -/
import Derived.Test.YtlpbebijhfkmeaaPVlqx4
import Derived.Test.YtlpbebijhfkmeaaVlq2
namespace Go.Proofs.Ytlpbebijhfkmeaa.Pure
open Go.RowKit Go.Proofs.Ytlpbebijhfkmeaa.PVlq Go.Proofs.Ytlpbebijhfkmeaa.Vlq Go.Proofs.YtlpbebijhfkmeaaW.PrintWords Go.Proofs.YtlpbebijhfkmeaaW.PrintLast

theorem bt_ofL (l : List UInt8) (j : Nat) (h : j < l.length) : bt (ofL l) (j : Int) = ((l[j].toNat : Nat) : Int) := bt_data (ofL l) j h
theorem take_ofL' (l : List UInt8) (n : Nat) : (ofL l).extract 0 n = ofL (l.take n) := by
  apply ba_ext
  simp [ofL, ByteArray.extract, ByteArray.copySlice]
theorem get_cut (z : Nat) : (getL (ofL ((enc z).take ((enc z).length - 1))) 0).2.2 = false := by
  unfold getL
  rw [if_neg (by omega)]
  by_cases c : (0 : Int) ≥ ((ofL ((enc z).take ((enc z).length - 1))).size : Nat)
  · rw [if_pos c]
  · rw [if_neg c, G_no]
    intro j _ hj
    have hj' : j < ((enc z).take ((enc z).length - 1)).length := hj
    rw [bt_ofL _ j hj', List.getElem_take]
    obtain ⟨d, hd, he⟩ := enc_inits z j (by rw [List.length_take] at hj'; omega)
    rw [he, idx_lt _ (by omega)]
    omega

theorem short_l0 (t : ByteArray) (ht : t.size ≤ 100) : ∀ (m x w k : Nat), x < 32 ^ m → (w : Nat) + m < 1000 →
    m + 60 ≤ k → t.size = w + ((if x = 0 then 0 else (enc x).length)) → (getL (t.extract 0 (t.size - 1)) 0).2.2 = false → 0 < t.size → abridgerlaw3_VlqShort.l0 k t (x : Int) (w : Int) = some true := by
  intro m
  induction m with
  | zero =>
    intro x w k hx hw hk hs hg hp
    obtain ⟨k, rfl⟩ : ∃ m, k = m + 1 := ⟨k - 1, by omega⟩
    have hx : x = 0 := by simpa using hx
    subst hx
    simp only [if_true, Nat.add_zero] at hs
    simp only [abridgerlaw3_VlqShort.l0]
    have w1 : wrap64 ((t.size : Int) - 1) = ((t.size - 1 : Nat) : Int) := by rw [wrap_id (by omega) (by omega)]; omega
    have q1 : ((t.size : Nat) : Int) = (w : Int) := by omega
    have q2 : (0 : Int) ≤ ((t.size - 1 : Nat) : Int) := by omega
    have q3 : ((t.size - 1 : Nat) : Int) ≤ (t.size : Int) := by omega
    have q4 : (t.extract 0 (t.size - 1)).size ≤ 140737488351232 := by rw [ByteArray.size_extract]; omega
    have q5 : 40 ≤ k := by omega
    rw [if_neg (by omega), if_pos q1, w1, if_pos q2, if_pos q3, show (((t.size - 1 : Nat) : Int)).toNat = t.size - 1 by omega, get_f k _ 0 q4 q5]
    simp only [Option.bind_some, hg]
    rfl
  | succ m ih =>
    intro x w k hx hw hk hs hg hp
    by_cases c : x = 0
    · exact ih x w k (by subst c; exact Nat.pow_pos (by omega)) (by omega) (by omega) hs hg hp
    · obtain ⟨k, rfl⟩ : ∃ m, k = m + 1 := ⟨k - 1, by omega⟩
      simp only [abridgerlaw3_VlqShort.l0]
      have q1 : ((x : Int) / 32) = ((x / 32 : Nat) : Int) := by omega
      have w1 : wrap64 ((w : Int) + 1) = ((w + 1 : Nat) : Int) := by rw [wrap_id (by omega) (by omega)]; omega
      have q2 : (x : Int) > 0 := by omega
      have q3 : x / 32 < 32 ^ m := by rw [Nat.pow_succ] at hx; omega
      rw [if_pos q2, q1, w1]
      refine ih (x / 32) (w + 1) k q3 (by omega) (by omega) ?_ hg hp
      rw [hs, if_neg c]
      by_cases d : x < 32
      · rw [enc_lt d, if_pos (by omega)]; rfl
      · rw [enc_ge d, if_neg (by omega)]; simp only [List.length_cons]; omega

theorem VlqShort : abridgerlaw3_VlqShort.Pure := by
  intro n hn
  refine ⟨900, ?_⟩
  have al : abridgerlaw3_alive.f 900 = some true := at_rounds abridgerlaw3_alive.mono (show 60 ≤ 900 by decide) alive_f
  unfold abridgerlaw3_VlqShort.f
  rw [al]
  simp only [Option.bind_some, if_true, abridgerlaw3_VlqShort.j0]
  by_cases c1 : n < -1099511627776
  · rw [if_pos c1]
  · rw [if_neg c1]
    by_cases c2 : n > 1099511627776
    · rw [if_pos (decide_eq_true c2)]
    · have ia : inr n := by unfold inr; omega
      have e0 : (⟨#[]⟩ : ByteArray).size ≤ 9223372036854775000 := by decide
      have pa := enc_pos (zig n)
      have hz := zig_lt ia
      have hlen := enc_len 8 (zig n) hz.1
      rw [decide_eq_false c2]
      simp only [Bool.false_eq_true, if_false]
      rw [put_f _ _ n (by omega) (by omega) e0 (by omega), empty_append, putL_in ia]
      simp only [Option.bind_some, abridgerlaw3_VlqShort.j1]
      have key : ∀ x : Int, x = ((n.natAbs : Nat) : Int) → abridgerlaw3_VlqShort.l0 898 (ofL (enc (zig n))) (x / 16) 1 = some true := by
        intro x hx
        have e1 : x / 16 = ((n.natAbs / 16 : Nat) : Int) := by omega
        have e2 : n.natAbs / 16 = zig n / 32 := by unfold zig; split <;> omega
        have e3 : zig n / 32 < 32 ^ 8 := by have := hz.1; omega
        rw [e1, e2]
        refine short_l0 (ofL (enc (zig n))) (by rw [ofL_size]; omega) 8 (zig n / 32) 1 898 e3 (by omega) (by omega) ?_ ?_ (by rw [ofL_size]; omega)
        · rw [ofL_size]
          by_cases d : zig n < 32
          · rw [enc_lt d, if_pos (by omega)]; rfl
          · rw [enc_ge d, if_neg (by omega)]; simp only [List.length_cons]; omega
        · rw [ofL_size, take_ofL']; exact get_cut (zig n)
      by_cases c3 : n < 0
      · have w1 : wrap64 (-n) = -n := wrap_id (by omega) (by omega)
        rw [if_pos c3, w1]
        exact key (-n) (by omega)
      · rw [if_neg c3]
        exact key n (by omega)

end Go.Proofs.Ytlpbebijhfkmeaa.Pure
