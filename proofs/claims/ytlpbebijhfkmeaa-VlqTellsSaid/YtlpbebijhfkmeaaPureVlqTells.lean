/- For every text of at most 100 bytes, every number and every place, package vlq writes and reads as the reference does; longer texts are passed over by the statement.
   Conditions: none beyond the statement's own. -/
import Derived.Test.YtlpbebijhfkmeaaPVlqx3
import Derived.Test.YtlpbebijhfkmeaaVlq
namespace Go.Proofs.Ytlpbebijhfkmeaa.Pure
open Go.RowKit Go.Proofs.Ytlpbebijhfkmeaa.PVlq Go.Proofs.Ytlpbebijhfkmeaa.Vlq Go.Proofs.YtlpbebijhfkmeaaW.PrintWords Go.Proofs.YtlpbebijhfkmeaaW.PrintLast Go.Proofs.YtlpbebijhfkmeaaW.PrintMore

def scan (c : Int) : Nat → Nat → Int → Int
  | 0, _, d => d
  | n + 1, k, d => scan c n (k + 1) (if bt (ofL L) (k : Int) = c then (k : Int) else d)
theorem scan_idx' : ∀ c : Fin 256, scan (c.1 : Int) 64 0 (-1) = idx' (c.1 : Int) := by decide +kernel
theorem scan_idx (c : Int) (h0 : 0 ≤ c) (h1 : c ≤ 255) : scan c 64 0 (-1) = idx' c := by
  have := scan_idx' ⟨c.toNat, by omega⟩
  rwa [show ((c.toNat : Nat) : Int) = c by omega] at this
theorem l1_scan (s : ByteArray) (a x x8 : Int) (h0 : 0 ≤ x8) (h1 : x8 < s.size) : ∀ (n j k : Nat) (d : Int), j + n = 64 →
    abridgerref1_GetVlq.l1 (k + n) s a x x8 d (j : Int) = abridgerref1_GetVlq.l1 k s a x x8 (scan (bt s x8) n j d) 64 := by
  intro n
  induction n with
  | zero => intro j k d h; obtain rfl : j = 64 := by omega
            rfl
  | succ n ih =>
    intro j k d h
    have e : wrap64 ((j : Int) + 1) = ((j + 1 : Nat) : Int) := by rw [wrap_id (by omega) (by omega)]; omega
    have ih := fun d => ih (j + 1) k d (by omega)
    have c1 : (j : Int) < 64 := by omega
    have c2 : (0 : Int) ≤ (j : Int) := by omega
    show abridgerref1_GetVlq.l1 ((k + n) + 1) s a x x8 d (j : Int) = _
    rw [abridgerref1_GetVlq.l1]
    simp only [abridgerref1_letters.f, Option.bind_some]
    have hz : (⟨#[65, 66, 67, 68, 69, 70, 71, 72, 73, 74, 75, 76, 77, 78, 79, 80, 81, 82, 83, 84, 85, 86, 87, 88, 89, 90, 97, 98, 99, 100, 101, 102, 103, 104, 105, 106, 107, 108, 109, 110, 111, 112, 113, 114, 115, 116, 117, 118, 119, 120, 121, 122, 48, 49, 50, 51, 52, 53, 54, 55, 56, 57, 43, 47]⟩ : ByteArray) = ofL L := rfl
    have hs : ((ofL L).size : Int) = 64 := rfl
    rw [hz, hs, if_pos c1, if_pos c2, if_pos c1, if_pos h0, if_pos h1, e, scan]
    by_cases c : bt (ofL L) (j : Int) = bt s x8
    · rw [if_pos c, if_pos c]; exact ih _
    · rw [if_neg c, if_neg c]; exact ih _
theorem u64_id (n : Int) (h0 : 0 ≤ n) (h1 : n < 2 ^ 62) : IntKind.u64.wrap n = n := by
  simp [IntKind.wrap, IntKind.bits, IntKind.signed]; omega
theorem ref_end (s : ByteArray) (at_ i k y : Nat) (q1 : (0 : Int) ≤ at_) (q2 : (at_ : Int) ≤ ((at_ + i + 1 : Nat) : Int)) (q3 : ((at_ + i + 1 : Nat) : Int) ≤ s.size) (q4 : ((at_ : Int)).toNat = at_) (q5 : (((at_ + i + 1 : Nat) : Int)).toNat = at_ + i + 1) (b5 : 12 ≤ k) (b6 : y < 2 ^ 62) :
    (if Go.bits .and .i64 (y : Int) 1 = 1 then ((abridgerref1_PutVlq.f k (⟨#[]⟩ : ByteArray) (wrap64 (-((y : Int) / 2)))).bind fun t112 => (if 0 ≤ (at_ : Int) then (if (at_ : Int) ≤ ((at_ + i + 1 : Nat) : Int) then (if ((at_ + i + 1 : Nat) : Int) ≤ (s.size : Int) then (if t112.toList = (s.extract ((at_ : Int)).toNat (((at_ + i + 1 : Nat) : Int)).toNat).toList then (some (wrap64 (-((y : Int) / 2)), ((at_ + i + 1 : Nat) : Int), true)) else (some (0, 0, false))) else (none)) else (none)) else (none))) else ((abridgerref1_PutVlq.f k (⟨#[]⟩ : ByteArray) ((y : Int) / 2)).bind fun t113 => (if 0 ≤ (at_ : Int) then (if (at_ : Int) ≤ ((at_ + i + 1 : Nat) : Int) then (if ((at_ + i + 1 : Nat) : Int) ≤ (s.size : Int) then (if t113.toList = (s.extract ((at_ : Int)).toNat (((at_ + i + 1 : Nat) : Int)).toNat).toList then (some ((y : Int) / 2, ((at_ + i + 1 : Nat) : Int), true)) else (some (0, 0, false))) else (none)) else (none)) else (none)))) = some (fin s at_ i y) := by
  have b1 : -9223372036854775808 ≤ -((y / 2 : Nat) : Int) := by omega
  have b2 : -((y / 2 : Nat) : Int) ≤ 9223372036854775807 := by omega
  have b3 : -9223372036854775808 ≤ ((y / 2 : Nat) : Int) := by omega
  have b4 : ((y / 2 : Nat) : Int) ≤ 9223372036854775807 := by omega
  have b7 : y % 2 = 1 → ((y % 2 : Nat) : Int) = 1 := by omega
  have b8 : ¬ y % 2 = 1 → ¬ ((y % 2 : Nat) : Int) = 1 := by omega
  have e : (y : Int) / 2 = ((y / 2 : Nat) : Int) := by omega
  rw [and1 y b6, e, wrap_id b1 b2]
  unfold fin
  by_cases c3 : y % 2 = 1
  · rw [if_pos (b7 c3), ref_f k _ _ b1 b2 (by decide) b5, empty_append]
    simp only [Option.bind_some, if_pos c3]
    rw [if_pos q1, if_pos q2, if_pos q3, ofL_toList, Go.ByteArray.toList_eq, q4, q5]
    split <;> rfl
  · rw [if_neg (b8 c3), ref_f k _ _ b3 b4 (by decide) b5, empty_append]
    simp only [Option.bind_some, if_neg c3]
    rw [if_pos q1, if_pos q2, if_pos q3, ofL_toList, Go.ByteArray.toList_eq, q4, q5]
    split <;> rfl
theorem u64_at (at_ i : Nat) (hi : i < 9) : IntKind.u64.wrap (wrap64 (5 * wrap64 (((at_ + i : Nat) : Int) - (at_ : Int)))) = ((5 * i : Nat) : Int) := by
  rw [wrap_id (n := ((at_ + i : Nat) : Int) - (at_ : Int)) (by omega) (by omega), wrap_id (by omega) (by omega), u64_id _ (by omega) (by omega)]; omega
theorem wrap_at (at_ i : Nat) (ha : at_ ≤ 140737488351232) (hi : i < 9) : wrap64 (((at_ + i : Nat) : Int) + 1) = ((at_ + i + 1 : Nat) : Int) := by rw [wrap_id (by omega) (by omega)]; omega
theorem rget_l0 (s : ByteArray) (at_ : Nat) (ha : at_ ≤ 140737488351232) : ∀ (m i x k : Nat), i + m = 9 → x < 32 ^ i → 80 * m + 20 ≤ k →
    abridgerref1_GetVlq.l0 k s (at_ : Int) (x : Int) ((at_ + i : Nat) : Int) = some (G s at_ m i x) := by
  intro m
  induction m with
  | zero =>
    intro i x k hi hx hk
    obtain ⟨k, rfl⟩ : ∃ m, k = m + 2 := ⟨k - 2, by omega⟩
    simp only [abridgerref1_GetVlq.l0]
    rw [wrap_id (by omega) (by omega), decide_eq_false (by omega)]
    simp only [abridgerref1_GetVlq.j1]
    split <;> rfl
  | succ m ih =>
    intro i x k hi hx hk
    obtain ⟨k, rfl⟩ : ∃ m, k = m + 3 := ⟨k - 3, by omega⟩
    obtain ⟨k, rfl⟩ : ∃ m, k = m + 64 := ⟨k - 64, by omega⟩
    have b5 : 12 ≤ k := by omega
    have bk : 80 * m + 20 ≤ k := by omega
    simp only [abridgerref1_GetVlq.l0]
    by_cases c : at_ + i < s.size
    · have r0 : (0 : Int) ≤ ((at_ + i : Nat) : Int) := by omega
      have r1 : ((at_ + i : Nat) : Int) < s.size := by omega
      rw [if_pos r1, wrap_id (by omega) (by omega), decide_eq_true (by omega)]
      simp only [abridgerref1_GetVlq.j1, if_true]
      have hb := bt_range s ((at_ + i : Nat) : Int)
      have hd := idx_range _ hb.1 hb.2
      rw [show k + 64 + 1 = (k + 1) + 64 by omega, show (0 : Int) = ((0 : Nat) : Int) from rfl, l1_scan s _ _ _ r0 r1 64 0 (k + 1) (-1) (by omega), scan_idx _ hb.1 hb.2]
      rw [abridgerref1_GetVlq.l1, if_neg (by omega), G, if_pos c]
      generalize idx' (bt s ((at_ + i : Nat) : Int)) = d at *
      by_cases c1 : d < 0
      · rw [if_pos c1, if_pos c1]
      · obtain ⟨e, rfl⟩ := Int.eq_ofNat_of_zero_le (show 0 ≤ d by omega)
        have b9 : i < 9 := by omega
        have b32 : e % 32 < 32 := by omega
        have z5 : (0 : Int) ≤ ((5 * i : Nat) : Int) := by omega
        have ze : ((e : Int)).toNat = e := by omega
        have q1 : (0 : Int) ≤ at_ := by omega
        have q2 : (at_ : Int) ≤ ((at_ + i + 1 : Nat) : Int) := by omega
        have q3 : ((at_ + i + 1 : Nat) : Int) ≤ s.size := by omega
        have q4 : ((at_ : Int)).toNat = at_ := by omega
        have q5 : (((at_ + i + 1 : Nat) : Int)).toNat = at_ + i + 1 := by omega
        have q6 : i + 1 + m = 9 := by omega
        have q7 : i + 1 ≤ 9 := by omega
        have hlt := step_lt x (e % 32) i hx (show e % 32 < 32 by omega)
        rw [if_neg c1, if_neg c1, u64_at at_ i b9, if_pos z5, and31 e (by omega), shl_d _ _ b32 b9, or_shl x (e % 32) i hx b32 b9, ze, wrap_at at_ i ha b9]
        by_cases c2 : (e : Int) < 32
        · have c3 : ¬ (e : Int) ≥ 32 := by omega
          rw [if_pos c2, if_neg c3]
          exact ref_end s at_ i k _ q1 q2 q3 q4 q5 b5 (Nat.lt_of_lt_of_le hlt (Nat.le_trans (pow_le9 q7) (by decide)))
        · have c3 : (e : Int) ≥ 32 := by omega
          rw [if_neg c2, if_pos c3]
          exact ih (i + 1) _ k q6 hlt bk
    · rw [if_neg (by omega), G, if_neg c]; simp only [abridgerref1_GetVlq.j1]; rfl
theorem rget_f (k : Nat) (s : ByteArray) (a : Int) (hs : s.size ≤ 140737488351232) (hk : 800 ≤ k) : abridgerref1_GetVlq.f k s a = some (getL s a) := by
  unfold abridgerref1_GetVlq.f getL
  by_cases c : a < 0
  · rw [if_pos c, if_pos c]
  · rw [if_neg c, if_neg c]
    by_cases c2 : a ≥ s.size
    · obtain ⟨k, rfl⟩ : ∃ m, k = m + 2 := ⟨k - 2, by omega⟩
      simp only [abridgerref1_GetVlq.l0]
      rw [if_neg (by omega), if_pos c2]; simp only [abridgerref1_GetVlq.j1]; rfl
    · rw [if_neg c2]
      have := rget_l0 s a.toNat (by omega) 9 0 0 k (by omega) (by decide) (by omega)
      rwa [show ((a.toNat + 0 : Nat) : Int) = a by omega, show ((a.toNat : Nat) : Int) = a by omega] at this

theorem VlqTells : abridgerlaw3_VlqTells.Pure := by
  intro s n a hs hn ha
  have hn' : -9223372036854775808 ≤ n ∧ n ≤ 9223372036854775807 := by
    simpa [Lit.wf, IntKind.min, IntKind.max, IntKind.signed, IntKind.bits] using hn
  refine ⟨900, ?_⟩
  unfold abridgerlaw3_VlqTells.f
  rw [at_rounds abridgerlaw3_alive.mono (show 60 ≤ 900 by decide) alive_f]
  simp only [Option.bind_some, if_true, abridgerlaw3_VlqTells.j0]
  by_cases c : (s.size : Int) > 100
  · rw [decide_eq_true c]; rfl
  · rw [decide_eq_false c]
    simp only [Bool.false_eq_true, if_false]
    rw [get_f _ s a hs (by omega), rget_f _ s a hs (by omega), put_f _ s n hn'.1 hn'.2 (by omega) (by omega), ref_f _ s n hn'.1 hn'.2 (by omega) (by omega)]
    simp

end Go.Proofs.Ytlpbebijhfkmeaa.Pure
