/- What is written by package vlq is read back, and no number's text begins another's: plain facts on digits.
   Conditions: numbers within -2^40 to 2^40. -/
import Derived.Test.YtlpbebijhfkmeaaVlq
namespace Go.Proofs.Ytlpbebijhfkmeaa.Vlq
open Go.RowKit Go.Proofs.Ytlpbebijhfkmeaa.PVlq Go.Proofs.YtlpbebijhfkmeaaW.PrintWords Go.Proofs.YtlpbebijhfkmeaaW.PrintLast Go.Proofs.YtlpbebijhfkmeaaW.PrintMore

theorem idx_lt' : ∀ d : Fin 64, idx' (((lt d.1).toNat : Nat) : Int) = (d.1 : Int) := by decide +kernel
theorem idx_lt (d : Nat) (h : d < 64) : idx' (((lt d).toNat : Nat) : Int) = (d : Int) := idx_lt' ⟨d, h⟩
theorem lt_inj {d e : Nat} (hd : d < 64) (he : e < 64) (h : lt d = lt e) : d = e := by
  have h1 := idx_lt d hd
  rw [h, idx_lt e he] at h1
  omega
theorem bt_data (s : ByteArray) (j : Nat) (h : j < s.data.toList.length) : bt s (j : Int) = ((s.data.toList[j].toNat : Nat) : Int) := by
  unfold bt
  have hj : ((j : Int)).toNat = j := by omega
  have h2 : j < s.size := by simpa using h
  rw [dif_pos (by rw [hj]; exact h2)]
  congr 2
theorem bt_drop (s : ByteArray) (j : Nat) (c : UInt8) (post : List UInt8) (h : s.data.toList.drop j = c :: post) : bt s (j : Int) = ((c.toNat : Nat) : Int) ∧ j < s.size := by
  have hl : j < s.data.toList.length := by
    apply Classical.byContradiction
    intro hn
    rw [List.drop_eq_nil_of_le (by omega)] at h
    cases h
  refine ⟨?_, by simpa using hl⟩
  rw [bt_data s j hl]
  rw [List.drop_eq_getElem_cons hl] at h
  injection h with h1 _
  rw [h1]
theorem drop_succ {l : List UInt8} {j : Nat} {c : UInt8} {post : List UInt8} (h : l.drop j = c :: post) : l.drop (j + 1) = post := by
  rw [← List.drop_drop, h]; rfl
theorem zig_inj {a b : Int} (h : zig a = zig b) : a = b := by
  unfold zig at h
  split at h <;> split at h <;> omega
theorem zig_back (n : Int) : (if zig n % 2 = 1 then -((zig n / 2 : Nat) : Int) else ((zig n / 2 : Nat) : Int)) = n := by
  unfold zig
  split <;> split <;> omega

theorem read_enc (s : ByteArray) (a : Nat) : ∀ (m i x z : Nat) (post : List UInt8), z < 32 ^ (m + 1) → s.data.toList.drop (a + i) = enc z ++ post →
    G s a (m + 1) i x = fin s a (i + ((enc z).length - 1)) (x + z * 32 ^ i) := by
  intro m
  induction m with
  | zero =>
    intro i x z post hz h
    have hz : z < 32 := by simpa using hz
    rw [enc_lt hz] at h ⊢
    obtain ⟨hb, hl⟩ := bt_drop s (a + i) (lt z) post h
    have c1 : ¬ ((z : Int) < 0) := by omega
    have c2 : ¬ ((z : Int) ≥ 32) := by omega
    have c3 : ((z : Int)).toNat % 32 = z := by omega
    rw [G, if_pos hl, hb, idx_lt z (by omega), if_neg c1, if_neg c2, c3]
    simp
  | succ m ih =>
    intro i x z post hz h
    by_cases c : z < 32
    · rw [enc_lt c] at h ⊢
      obtain ⟨hb, hl⟩ := bt_drop s (a + i) (lt z) post h
      have c1 : ¬ ((z : Int) < 0) := by omega
      have c2 : ¬ ((z : Int) ≥ 32) := by omega
      have c3 : ((z : Int)).toNat % 32 = z := by omega
      rw [G, if_pos hl, hb, idx_lt z (by omega), if_neg c1, if_neg c2, c3]
      simp
    · rw [enc_ge c] at h ⊢
      rw [List.cons_append] at h
      obtain ⟨hb, hl⟩ := bt_drop s (a + i) (lt (z % 32 + 32)) _ h
      have hn := drop_succ h
      have c1 : ¬ (((z % 32 + 32 : Nat) : Int) < 0) := by omega
      have c2 : (((z % 32 + 32 : Nat) : Int) ≥ 32) := by omega
      have c3 : (((z % 32 + 32 : Nat) : Int)).toNat % 32 = z % 32 := by omega
      have e1 := enc_pos (z / 32)
      rw [G, if_pos hl, hb, idx_lt _ (by omega), if_neg c1, if_pos c2, c3, ih (i + 1) _ (z / 32) post (by rw [Nat.pow_succ] at hz; omega) (by rw [← hn]; congr 1)]
      have e2 : x + z % 32 * 32 ^ i + z / 32 * 32 ^ (i + 1) = x + z * 32 ^ i := by
        have : z * 32 ^ i = (z % 32) * 32 ^ i + (z / 32) * (32 * 32 ^ i) := by
          rw [← Nat.mul_assoc, ← Nat.add_mul]; congr 1; omega
        rw [Nat.pow_succ, Nat.mul_comm (32 ^ i) 32, this]; omega
      have e3 : i + 1 + ((enc (z / 32)).length - 1) = i + ((lt (z % 32 + 32) :: enc (z / 32)).length - 1) := by simp only [List.length_cons]; omega
      rw [e2, e3]
def inr (n : Int) : Prop := ¬ (n < -1099511627776 ∨ n > 1099511627776)
theorem putL_in {n : Int} (h : inr n) : putL n = enc (zig n) := by unfold putL; rw [if_neg h]
theorem getL_enc (s : ByteArray) (a : Nat) (n : Int) (post : List UInt8) (h : inr n) (hd : s.data.toList.drop a = enc (zig n) ++ post) :
    getL s (a : Int) = (n, ((a + (enc (zig n)).length : Nat) : Int), true) := by
  have hp := enc_pos (zig n)
  have hl : a < s.size := by
    cases he : enc (zig n) with
    | nil => rw [he] at hp; simp at hp
    | cons c l => rw [he, List.cons_append] at hd; exact (bt_drop s a c _ hd).2
  have hz := zig_lt h
  unfold getL
  rw [if_neg (by omega), if_neg (by omega), show ((a : Int)).toNat = a by omega, read_enc s a 8 0 0 (zig n) post hz.1 (by simpa using hd)]
  unfold fin
  simp only [Nat.zero_add, Nat.pow_zero, Nat.mul_one]
  rw [zig_back n, putL_in h, show a + ((enc (zig n)).length - 1) + 1 = a + (enc (zig n)).length by omega, if_pos]
  rw [show (s.extract a (a + (enc (zig n)).length)).data.toList = (s.data.toList.drop a).take (enc (zig n)).length by simp [List.take_drop, ByteArray.extract, ByteArray.copySlice]]
  rw [hd, List.take_left]
theorem getL_end (s : ByteArray) : getL s (s.size : Int) = (0, 0, false) := by
  unfold getL; rw [if_neg (by omega), if_pos (by omega)]
theorem enc_inits (x : Nat) : ∀ j (h : j < (enc x).length - 1), ∃ d, d < 32 ∧ (enc x)[j]'(by omega) = lt (d + 32) := by
  induction x using Nat.strongRecOn with
  | ind x ih =>
    intro j h
    by_cases c : x < 32
    · rw [enc_lt c] at h; simp at h
    · have h' := h
      rw [enc_ge c] at h'
      simp only [List.length_cons, Nat.add_sub_cancel] at h'
      have hp := enc_pos (x / 32)
      cases j with
      | zero => exact ⟨x % 32, by omega, by simp only [enc_ge c, List.getElem_cons_zero]⟩
      | succ j =>
        obtain ⟨d, hd, he⟩ := ih (x / 32) (by omega) j (by omega)
        exact ⟨d, hd, by simp only [enc_ge c, List.getElem_cons_succ]; exact he⟩
theorem G_no (s : ByteArray) (a : Nat) (h : ∀ j, a ≤ j → j < s.size → idx' (bt s (j : Int)) ≥ 32) : ∀ m i x, G s a m i x = (0, 0, false) := by
  intro m
  induction m with
  | zero => intro i x; rfl
  | succ m ih =>
    intro i x
    rw [G]
    by_cases c : a + i < s.size
    · have := h (a + i) (by omega) c
      rw [if_pos c, if_neg (by omega), if_pos this, ih]
    · rw [if_neg c]
theorem enc_prefix (x : Nat) : ∀ y, enc x = (enc y).take (enc x).length → x = y := by
  induction x using Nat.strongRecOn with
  | ind x ih =>
    intro y h
    by_cases c : x < 32
    · rw [enc_lt c] at h
      by_cases d : y < 32
      · rw [enc_lt d] at h
        simp only [List.length_cons, List.length_nil, List.take_succ_cons, List.take_zero] at h
        injection h with h _
        exact lt_inj (by omega) (by omega) h
      · rw [enc_ge d] at h
        simp only [List.length_cons, List.length_nil, List.take_succ_cons, List.take_zero] at h
        injection h with h _
        have := lt_inj (by omega) (by omega) h
        omega
    · rw [enc_ge c] at h
      by_cases d : y < 32
      · rw [enc_lt d] at h
        simp only [List.length_cons, List.take_succ_cons, List.take_nil] at h
        injection h with h _
        have := lt_inj (by omega) (by omega) h
        omega
      · rw [enc_ge d] at h
        simp only [List.length_cons, List.take_succ_cons] at h
        injection h with h1 h2
        have e1 := lt_inj (by omega) (by omega) h1
        have e2 := ih (x / 32) (by omega) (y / 32) h2
        omega
end Go.Proofs.Ytlpbebijhfkmeaa.Vlq
