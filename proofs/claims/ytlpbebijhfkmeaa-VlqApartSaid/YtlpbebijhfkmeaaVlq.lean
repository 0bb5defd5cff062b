/- What package vlq writes and reads, in plain words: the digits of a number (enc), and the reading of digits (G).
   Conditions: numbers within -2^40 to 2^40 where they are written; texts of a size that memory allows. -/
import Derived.Test.YtlpbebijhfkmeaaPVlqx2
namespace Go.Proofs.Ytlpbebijhfkmeaa.Vlq
open Go.RowKit Go.Proofs.Ytlpbebijhfkmeaa.PVlq Go.Proofs.YtlpbebijhfkmeaaW.PrintWords Go.Proofs.YtlpbebijhfkmeaaW.PrintLast Go.Proofs.YtlpbebijhfkmeaaW.PrintMore

def L : List UInt8 := [65, 66, 67, 68, 69, 70, 71, 72, 73, 74, 75, 76, 77, 78, 79, 80, 81, 82, 83, 84, 85, 86, 87, 88, 89, 90, 97, 98, 99, 100, 101, 102, 103, 104, 105, 106, 107, 108, 109, 110, 111, 112, 113, 114, 115, 116, 117, 118, 119, 120, 121, 122, 48, 49, 50, 51, 52, 53, 54, 55, 56, 57, 43, 47]
def lt (d : Nat) : UInt8 := L.getD d 0
def ofL (l : List UInt8) : ByteArray := ⟨l.toArray⟩
theorem ofL_toList (l : List UInt8) : (ofL l).toList = l := by rw [Go.ByteArray.toList_eq]; rfl
theorem ofL_size (l : List UInt8) : (ofL l).size = l.length := rfl
theorem data_ofL (l : List UInt8) : (ofL l).data.toList = l := rfl
theorem ofL_data (s : ByteArray) : ofL s.data.toList = s := rfl
theorem ba_ext {s t : ByteArray} (h : s.data.toList = t.data.toList) : s = t := by
  cases s; cases t; congr 1; exact Array.ext' h
theorem ofL_append (a b : List UInt8) : ofL a ++ ofL b = ofL (a ++ b) := ba_ext (by simp [data_ofL])
theorem append_ofL (s : ByteArray) (a b : List UInt8) : (s ++ ofL a) ++ ofL b = s ++ ofL (a ++ b) := ba_ext (by simp [data_ofL])

theorem cut0 : ∀ d : Fin 64, (ofL L).extract d.1 (d.1 + 1) = ofL [lt d.1] := by decide +kernel
theorem cut (d : Nat) (h : d < 64) : (ofL L).extract d (d + 1) = ofL [lt d] := cut0 ⟨d, h⟩
theorem or32' : ∀ d : Fin 32, Go.bits .or .i64 (d.1 : Int) 32 = ((d.1 + 32 : Nat) : Int) := by decide +kernel
theorem or32 (d : Nat) (h : d < 32) : Go.bits .or .i64 (d : Int) 32 = ((d + 32 : Nat) : Int) := or32' ⟨d, h⟩
theorem wraps_i64 (n : Int) (h₀ : 0 ≤ n) (h₁ : n < 2 ^ 62) : IntKind.i64.wrap n = n := by rw [IntKind.wrap_i64]; omega
theorem and31 (x : Nat) (h : x < 2 ^ 62) : Go.bits .and .i64 (x : Int) 31 = ((x % 32 : Nat) : Int) := by
  have := bits_mask .i64 62 (by decide) wraps_i64 5 (by decide) (x : Int) (by omega) (by exact_mod_cast h)
  simpa using this
theorem and1 (x : Nat) (h : x < 2 ^ 62) : Go.bits .and .i64 (x : Int) 1 = ((x % 2 : Nat) : Int) := by
  have := bits_mask .i64 62 (by decide) wraps_i64 1 (by decide) (x : Int) (by omega) (by exact_mod_cast h)
  simpa using this
theorem or_add (p a b : Nat) (ha : a < 2 ^ p) (hb : a + b * 2 ^ p < 2 ^ 62) : Go.bits .or .i64 (a : Int) ((b * 2 ^ p : Nat) : Int) = ((a + b * 2 ^ p : Nat) : Int) := by
  rw [(bits_nat .i64 62 (by decide) wraps_i64 a (b * 2 ^ p) (by omega) (by omega)).2, Nat.or_comm, Nat.mul_comm b, ← Nat.two_pow_add_eq_or_of_lt ha b, Nat.add_comm]
theorem wrap_id {n : Int} (h0 : -9223372036854775808 ≤ n) (h1 : n ≤ 9223372036854775807) : wrap64 n = n := by unfold wrap64; omega

/-- the digits of a number, the least first -/
def enc (x : Nat) : List UInt8 := if x < 32 then [lt x] else lt (x % 32 + 32) :: enc (x / 32)
termination_by x
decreasing_by omega
theorem enc_lt {x : Nat} (h : x < 32) : enc x = [lt x] := by rw [enc, if_pos h]
theorem enc_ge {x : Nat} (h : ¬ x < 32) : enc x = lt (x % 32 + 32) :: enc (x / 32) := by rw [enc, if_neg h]
def zig (n : Int) : Nat := if n < 0 then (2 * -n).toNat + 1 else (2 * n).toNat
theorem enc_pos (x : Nat) : 0 < (enc x).length := by rw [enc]; split <;> simp
theorem enc_len (m : Nat) : ∀ x, x < 32 ^ (m + 1) → (enc x).length ≤ m + 1 := by
  induction m with
  | zero => intro x h; rw [enc_lt (by simpa using h)]; simp
  | succ m ih =>
    intro x h
    by_cases c : x < 32
    · rw [enc_lt c]; simp
    · rw [enc_ge c]
      have := ih (x / 32) (by rw [Nat.pow_succ] at h; omega)
      simp only [List.length_cons]; omega

theorem put_l0 (m : Nat) : ∀ (k x : Nat) (s : ByteArray), x < 32 ^ (m + 1) → x < 2 ^ 62 → m < k → s.size + m + 1 ≤ 9223372036854775807 →
    vlq_Put.l0 k s (x : Int) = some (s ++ ofL (enc x)) := by
  induction m with
  | zero =>
    intro k x s h h2 hk hs
    obtain ⟨k, rfl⟩ : ∃ m, k = m + 1 := ⟨k - 1, by omega⟩
    have hx : x < 32 := by simpa using h
    have w1 : wrap64 ((x : Int) + 1) = ((x + 1 : Nat) : Int) := by rw [wrap_id (by omega) (by omega)]; omega
    simp only [vlq_Put.l0]
    rw [if_neg (by omega), w1, if_pos (by omega), if_pos (by omega), if_pos (by omega)]
    have hc : (⟨#[65, 66, 67, 68, 69, 70, 71, 72, 73, 74, 75, 76, 77, 78, 79, 80, 81, 82, 83, 84, 85, 86, 87, 88, 89, 90, 97, 98, 99, 100, 101, 102, 103, 104, 105, 106, 107, 108, 109, 110, 111, 112, 113, 114, 115, 116, 117, 118, 119, 120, 121, 122, 48, 49, 50, 51, 52, 53, 54, 55, 56, 57, 43, 47]⟩ : ByteArray).extract ((x : Int)).toNat (((x + 1 : Nat) : Int)).toNat = ofL [lt x] := cut x (by omega)
    rw [hc, if_pos (by rw [ofL_size]; simp; omega), enc_lt hx]
  | succ m ih =>
    intro k x s h h2 hk hs
    obtain ⟨k, rfl⟩ : ∃ m, k = m + 1 := ⟨k - 1, by omega⟩
    by_cases c : x < 32
    · have w1 : wrap64 ((x : Int) + 1) = ((x + 1 : Nat) : Int) := by rw [wrap_id (by omega) (by omega)]; omega
      simp only [vlq_Put.l0]
      rw [if_neg (by omega), w1, if_pos (by omega), if_pos (by omega), if_pos (by omega)]
      have hc : (⟨#[65, 66, 67, 68, 69, 70, 71, 72, 73, 74, 75, 76, 77, 78, 79, 80, 81, 82, 83, 84, 85, 86, 87, 88, 89, 90, 97, 98, 99, 100, 101, 102, 103, 104, 105, 106, 107, 108, 109, 110, 111, 112, 113, 114, 115, 116, 117, 118, 119, 120, 121, 122, 48, 49, 50, 51, 52, 53, 54, 55, 56, 57, 43, 47]⟩ : ByteArray).extract ((x : Int)).toNat (((x + 1 : Nat) : Int)).toNat = ofL [lt x] := cut x (by omega)
      rw [hc, if_pos (by rw [ofL_size]; simp; omega), enc_lt c]
    · have e1 : Int.tmod (x : Int) 32 = ((x % 32 : Nat) : Int) := rfl
      have w1 : wrap64 (((x % 32 + 32 : Nat) : Int) + 1) = ((x % 32 + 32 + 1 : Nat) : Int) := by rw [wrap_id (by omega) (by omega)]; omega
      have e2 : ((x : Int) / 32) = ((x / 32 : Nat) : Int) := by omega
      simp only [vlq_Put.l0]
      rw [if_pos (by omega), e1, or32 _ (by omega), w1, if_pos (by omega), if_pos (by omega), if_pos (by omega)]
      have hc : (⟨#[65, 66, 67, 68, 69, 70, 71, 72, 73, 74, 75, 76, 77, 78, 79, 80, 81, 82, 83, 84, 85, 86, 87, 88, 89, 90, 97, 98, 99, 100, 101, 102, 103, 104, 105, 106, 107, 108, 109, 110, 111, 112, 113, 114, 115, 116, 117, 118, 119, 120, 121, 122, 48, 49, 50, 51, 52, 53, 54, 55, 56, 57, 43, 47]⟩ : ByteArray).extract (((x % 32 + 32 : Nat) : Int)).toNat (((x % 32 + 32 + 1 : Nat) : Int)).toNat = ofL [lt (x % 32 + 32)] := cut (x % 32 + 32) (by omega)
      rw [hc, if_pos (by rw [ofL_size]; simp; omega), e2, ih k (x / 32) _ (by rw [Nat.pow_succ] at h; omega) (by omega) (by omega) (by rw [ByteArray.size_append, ofL_size]; simp; omega), append_ofL, enc_ge c]
      rfl

/-- what is written behind a text -/
def putL (n : Int) : List UInt8 := if n < -1099511627776 ∨ n > 1099511627776 then [] else enc (zig n)
theorem zig_lt {n : Int} (h : ¬ (n < -1099511627776 ∨ n > 1099511627776)) : zig n < 32 ^ 9 ∧ zig n < 2 ^ 42 := by
  have e9 : (32 : Nat) ^ 9 = 35184372088832 := by decide
  have e42 : (2 : Nat) ^ 42 = 4398046511104 := by decide
  rw [e9, e42]; unfold zig; split <;> constructor <;> omega
theorem append_nil (s : ByteArray) : s ++ ofL [] = s := ba_ext (by simp [data_ofL])
theorem put_f (k : Nat) (s : ByteArray) (n : Int) (h1 : -9223372036854775808 ≤ n) (h2 : n ≤ 9223372036854775807) (hs : s.size ≤ 9223372036854775000) (hk : 12 ≤ k) :
    vlq_Put.f k s n = some (s ++ ofL (putL n)) := by
  obtain ⟨k, rfl⟩ : ∃ m, k = m + 2 := ⟨k - 2, by omega⟩
  unfold vlq_Put.f putL
  by_cases c : n < -1099511627776
  · rw [if_pos c, if_pos (.inl c), append_nil]; simp only [vlq_Put.j0]; rfl
  · rw [if_neg c]
    by_cases c2 : n > 1099511627776
    · rw [if_pos (.inr c2), decide_eq_true c2, append_nil]; simp only [vlq_Put.j0]; rfl
    · have hz := zig_lt (n := n) (by omega)
      rw [if_neg (by omega), decide_eq_false c2]
      simp only [vlq_Put.j0, Bool.false_eq_true, if_false, vlq_Put.j1]
      rw [wrap_id (n := n * 2) (by omega) (by omega)]
      by_cases c3 : n < 0
      · rw [if_pos (by omega), wrap_id (by omega) (by omega), show (1 : Int) - n * 2 = ((zig n : Nat) : Int) by unfold zig; rw [if_pos c3]; omega]
        exact put_l0 8 k (zig n) s hz.1 (by omega) (by omega) (by omega)
      · rw [if_neg (by omega), show n * 2 = ((zig n : Nat) : Int) by unfold zig; rw [if_neg c3]; omega]
        exact put_l0 8 k (zig n) s hz.1 (by omega) (by omega) (by omega)

/-- the reference writes the same -/
theorem ref_l0 (m : Nat) : ∀ (k x : Nat) (s : ByteArray), x < 32 ^ (m + 1) → x < 2 ^ 62 → m < k → s.size + m + 1 ≤ 9223372036854775807 →
    abridgerref1_PutVlq.l0 k s (x : Int) = some (s ++ ofL (enc x)) := by
  have last : ∀ (k x : Nat) (s : ByteArray), x < 32 → s.size + 1 ≤ 9223372036854775807 → 0 < k → abridgerref1_PutVlq.l0 k s (x : Int) = some (s ++ ofL (enc x)) := by
    intro k x s hx hs hk
    obtain ⟨k, rfl⟩ : ∃ m, k = m + 1 := ⟨k - 1, by omega⟩
    have w1 : wrap64 ((x : Int) + 1) = ((x + 1 : Nat) : Int) := by rw [wrap_id (by omega) (by omega)]; omega
    have e1 : Go.bits .and .i64 (x : Int) 31 = (x : Int) := by rw [and31 x (by omega), Nat.mod_eq_of_lt hx]
    simp only [abridgerref1_PutVlq.l0, abridgerref1_letters.f, Option.bind_some]
    have hc : (⟨#[65, 66, 67, 68, 69, 70, 71, 72, 73, 74, 75, 76, 77, 78, 79, 80, 81, 82, 83, 84, 85, 86, 87, 88, 89, 90, 97, 98, 99, 100, 101, 102, 103, 104, 105, 106, 107, 108, 109, 110, 111, 112, 113, 114, 115, 116, 117, 118, 119, 120, 121, 122, 48, 49, 50, 51, 52, 53, 54, 55, 56, 57, 43, 47]⟩ : ByteArray).extract ((x : Int)).toNat (((x + 1 : Nat) : Int)).toNat = ofL [lt x] := cut x (by omega)
    have hz : (⟨#[65, 66, 67, 68, 69, 70, 71, 72, 73, 74, 75, 76, 77, 78, 79, 80, 81, 82, 83, 84, 85, 86, 87, 88, 89, 90, 97, 98, 99, 100, 101, 102, 103, 104, 105, 106, 107, 108, 109, 110, 111, 112, 113, 114, 115, 116, 117, 118, 119, 120, 121, 122, 48, 49, 50, 51, 52, 53, 54, 55, 56, 57, 43, 47]⟩ : ByteArray).size = 64 := rfl
    rw [if_neg (by omega), e1, w1, if_pos (by omega), if_pos (by omega), if_pos (by rw [hz]; omega), hc, if_pos (by rw [ofL_size]; simp; omega), if_pos (by omega), enc_lt hx]
  induction m with
  | zero => intro k x s h h2 hk hs; exact last k x s (by simpa using h) (by omega) (by omega)
  | succ m ih =>
    intro k x s h h2 hk hs
    by_cases c : x < 32
    · exact last k x s c (by omega) (by omega)
    · obtain ⟨k, rfl⟩ : ∃ m, k = m + 1 := ⟨k - 1, by omega⟩
      have e1 : wrap64 (Go.bits .and .i64 (x : Int) 31 + 32) = ((x % 32 + 32 : Nat) : Int) := by rw [and31 x h2, wrap_id (by omega) (by omega)]; omega
      have w1 : wrap64 (((x % 32 + 32 : Nat) : Int) + 1) = ((x % 32 + 32 + 1 : Nat) : Int) := by rw [wrap_id (by omega) (by omega)]; omega
      have e2 : ((x : Int) / 32) = ((x / 32 : Nat) : Int) := by omega
      simp only [abridgerref1_PutVlq.l0, abridgerref1_letters.f, Option.bind_some]
      have hz : (⟨#[65, 66, 67, 68, 69, 70, 71, 72, 73, 74, 75, 76, 77, 78, 79, 80, 81, 82, 83, 84, 85, 86, 87, 88, 89, 90, 97, 98, 99, 100, 101, 102, 103, 104, 105, 106, 107, 108, 109, 110, 111, 112, 113, 114, 115, 116, 117, 118, 119, 120, 121, 122, 48, 49, 50, 51, 52, 53, 54, 55, 56, 57, 43, 47]⟩ : ByteArray).size = 64 := rfl
      have hc : (⟨#[65, 66, 67, 68, 69, 70, 71, 72, 73, 74, 75, 76, 77, 78, 79, 80, 81, 82, 83, 84, 85, 86, 87, 88, 89, 90, 97, 98, 99, 100, 101, 102, 103, 104, 105, 106, 107, 108, 109, 110, 111, 112, 113, 114, 115, 116, 117, 118, 119, 120, 121, 122, 48, 49, 50, 51, 52, 53, 54, 55, 56, 57, 43, 47]⟩ : ByteArray).extract (((x % 32 + 32 : Nat) : Int)).toNat (((x % 32 + 32 + 1 : Nat) : Int)).toNat = ofL [lt (x % 32 + 32)] := cut (x % 32 + 32) (by omega)
      rw [if_pos (by omega), e1, w1, if_pos (by omega), if_pos (by omega), if_pos (by rw [hz]; omega), hc, if_pos (by rw [ofL_size]; simp; omega), if_neg (by omega), e2, ih k (x / 32) _ (by rw [Nat.pow_succ] at h; omega) (by omega) (by omega) (by rw [ByteArray.size_append, ofL_size]; simp; omega), append_ofL, enc_ge c]
      rfl
theorem ref_f (k : Nat) (s : ByteArray) (n : Int) (h1 : -9223372036854775808 ≤ n) (h2 : n ≤ 9223372036854775807) (hs : s.size ≤ 9223372036854775000) (hk : 12 ≤ k) :
    abridgerref1_PutVlq.f k s n = some (s ++ ofL (putL n)) := by
  obtain ⟨k, rfl⟩ : ∃ m, k = m + 2 := ⟨k - 2, by omega⟩
  unfold abridgerref1_PutVlq.f putL
  by_cases c : n < -1099511627776
  · rw [if_pos c, if_pos (.inl c), append_nil]; simp only [abridgerref1_PutVlq.j0]; rfl
  · rw [if_neg c]
    by_cases c2 : n > 1099511627776
    · rw [if_pos (.inr c2), decide_eq_true c2, append_nil]; simp only [abridgerref1_PutVlq.j0]; rfl
    · have hz := zig_lt (n := n) (by omega)
      rw [if_neg (by omega), decide_eq_false c2]
      simp only [abridgerref1_PutVlq.j0, Bool.false_eq_true, if_false, abridgerref1_PutVlq.j1]
      by_cases c3 : n < 0
      · rw [if_pos (by omega), wrap_id (n := -2 * n) (by omega) (by omega), wrap_id (by omega) (by omega), show -2 * n + 1 = ((zig n : Nat) : Int) by unfold zig; rw [if_pos c3]; omega]
        exact ref_l0 8 k (zig n) s hz.1 (by omega) (by omega) (by omega)
      · rw [if_neg (by omega), wrap_id (n := 2 * n) (by omega) (by omega), show 2 * n = ((zig n : Nat) : Int) by unfold zig; rw [if_neg c3]; omega]
        exact ref_l0 8 k (zig n) s hz.1 (by omega) (by omega) (by omega)

/-! ## reading -/
def idx (c : UInt8) : Int := Lib.indexByte L c
def idx' (c : Int) : Int := Lib.indexByte L c.toNat.toUInt8
theorem idx_range' : ∀ c : Fin 256, -1 ≤ idx' (c.1 : Int) ∧ idx' (c.1 : Int) < 64 := by decide +kernel
theorem idx_range (c : Int) (h0 : 0 ≤ c) (h1 : c ≤ 255) : -1 ≤ idx' c ∧ idx' c < 64 := by
  have := idx_range' ⟨c.toNat, by omega⟩
  rwa [show ((c.toNat : Nat) : Int) = c by omega] at this
/-- the reading's end: the digits up to the i-th came to x -/
def fin (s : ByteArray) (at_ i x : Nat) : Int × Int × Bool :=
  let n : Int := if x % 2 = 1 then -((x / 2 : Nat) : Int) else ((x / 2 : Nat) : Int)
  if putL n = (s.extract at_ (at_ + i + 1)).data.toList then (n, ((at_ + i + 1 : Nat) : Int), true) else (0, 0, false)
/-- the reading from the i-th digit on, m digits at most -/
def G (s : ByteArray) (at_ : Nat) : Nat → Nat → Nat → Int × Int × Bool
  | 0, _, _ => (0, 0, false)
  | m + 1, i, x =>
    if at_ + i < s.size then
      if idx' (bt s ((at_ + i : Nat) : Int)) < 0 then (0, 0, false)
      else if idx' (bt s ((at_ + i : Nat) : Int)) ≥ 32 then G s at_ m (i + 1) (x + ((idx' (bt s ((at_ + i : Nat) : Int))).toNat % 32) * 32 ^ i)
      else fin s at_ i (x + ((idx' (bt s ((at_ + i : Nat) : Int))).toNat % 32) * 32 ^ i)
    else (0, 0, false)
theorem pow32 (i : Nat) : (32 : Nat) ^ i = 2 ^ (5 * i) := by rw [Nat.pow_mul]
theorem pow_le9 {i : Nat} (h : i ≤ 9) : (32 : Nat) ^ i ≤ 35184372088832 := by
  have := Nat.pow_le_pow_right (n := 32) (by omega) h
  have e9 : (32 : Nat) ^ 9 = 35184372088832 := by decide
  omega
theorem shl_d (d i : Nat) (hd : d < 32) (hi : i < 9) : shl .i64 (d : Int) ((5 * i : Nat) : Int) = ((d * 32 ^ i : Nat) : Int) := by
  have hp := pow_le9 (i := i + 1) (by omega)
  have h2 : d * 32 ^ i ≤ 32 ^ (i + 1) := by rw [Nat.pow_succ, Nat.mul_comm]; exact Nat.mul_le_mul_left _ (by omega)
  unfold shl
  rw [show (((5 * i : Nat) : Int)).toNat = 5 * i by omega, Nat.min_eq_left (by show 5 * i ≤ 64; omega)]
  have e : (d : Int) * 2 ^ (5 * i) = ((d * 32 ^ i : Nat) : Int) := by rw [pow32]; simp
  rw [e, wraps_i64 _ (by omega) (by omega)]
theorem or_shl (x d i : Nat) (hx : x < 32 ^ i) (hd : d < 32) (hi : i < 9) : Go.bits .or .i64 (x : Int) ((d * 32 ^ i : Nat) : Int) = ((x + d * 32 ^ i : Nat) : Int) := by
  have hp := pow_le9 (i := i + 1) (by omega)
  have h2 : 32 ^ i + d * 32 ^ i ≤ 32 ^ (i + 1) := by
    have : (d + 1) * 32 ^ i ≤ 32 * 32 ^ i := Nat.mul_le_mul_right _ (by omega)
    rw [Nat.pow_succ, Nat.mul_comm (32 ^ i) 32]; rw [Nat.add_mul, Nat.one_mul] at this; omega
  have h3 : x + d * 32 ^ i < 2 ^ 62 := by omega
  rw [pow32] at hx h3 ⊢
  exact or_add (5 * i) x d hx h3
theorem step_lt (x d i : Nat) (hx : x < 32 ^ i) (hd : d < 32) : x + d * 32 ^ i < 32 ^ (i + 1) := by
  have : (d + 1) * 32 ^ i ≤ 32 * 32 ^ i := Nat.mul_le_mul_right _ (by omega)
  rw [Nat.pow_succ, Nat.mul_comm (32 ^ i) 32]; rw [Nat.add_mul, Nat.one_mul] at this; omega
theorem empty_append (l : List UInt8) : (⟨#[]⟩ : ByteArray) ++ ofL l = ofL l := ba_ext (by simp [data_ofL])

theorem half_neg (y : Nat) (h : y < 2 ^ 62) : wrap64 (Int.tdiv (wrap64 (-(y : Int))) 2) = -((y / 2 : Nat) : Int) := by
  rw [wrap_id (n := -(y : Int)) (by omega) (by omega), Int.neg_tdiv, show Int.tdiv (y : Int) 2 = ((y / 2 : Nat) : Int) from rfl, wrap_id (by omega) (by omega)]
theorem half_pos (y : Nat) (h : y < 2 ^ 62) : wrap64 (Int.tdiv (y : Int) 2) = ((y / 2 : Nat) : Int) := by
  rw [show Int.tdiv (y : Int) 2 = ((y / 2 : Nat) : Int) from rfl, wrap_id (by omega) (by omega)]
theorem get_end (s : ByteArray) (at_ i k y : Nat) (q1 : (0 : Int) ≤ at_) (q2 : (at_ : Int) ≤ ((at_ + i + 1 : Nat) : Int)) (q3 : ((at_ + i + 1 : Nat) : Int) ≤ s.size) (q4 : ((at_ : Int)).toNat = at_) (q5 : (((at_ + i + 1 : Nat) : Int)).toNat = at_ + i + 1) (b5 : 12 ≤ k) (b6 : y < 2 ^ 62) :
    (if Go.bits .and .i64 (y : Int) 1 = 1 then ((vlq_Put.f k (⟨#[]⟩ : ByteArray) (wrap64 (Int.tdiv (wrap64 (-(y : Int))) 2))).bind fun t102 => (if 0 ≤ (at_ : Int) then (if (at_ : Int) ≤ ((at_ + i + 1 : Nat) : Int) then (if ((at_ + i + 1 : Nat) : Int) ≤ (s.size : Int) then (if t102.toList = (s.extract ((at_ : Int)).toNat (((at_ + i + 1 : Nat) : Int)).toNat).toList then (some (wrap64 (Int.tdiv (wrap64 (-(y : Int))) 2), ((at_ + i + 1 : Nat) : Int), true)) else (some (0, 0, false))) else (none)) else (none)) else (none))) else ((vlq_Put.f k (⟨#[]⟩ : ByteArray) (wrap64 (Int.tdiv (y : Int) 2))).bind fun t103 => (if 0 ≤ (at_ : Int) then (if (at_ : Int) ≤ ((at_ + i + 1 : Nat) : Int) then (if ((at_ + i + 1 : Nat) : Int) ≤ (s.size : Int) then (if t103.toList = (s.extract ((at_ : Int)).toNat (((at_ + i + 1 : Nat) : Int)).toNat).toList then (some (wrap64 (Int.tdiv (y : Int) 2), ((at_ + i + 1 : Nat) : Int), true)) else (some (0, 0, false))) else (none)) else (none)) else (none)))) = some (fin s at_ i y) := by
  have b1 : -9223372036854775808 ≤ -((y / 2 : Nat) : Int) := by omega
  have b2 : -((y / 2 : Nat) : Int) ≤ 9223372036854775807 := by omega
  have b3 : -9223372036854775808 ≤ ((y / 2 : Nat) : Int) := by omega
  have b4 : ((y / 2 : Nat) : Int) ≤ 9223372036854775807 := by omega
  have b7 : y % 2 = 1 → ((y % 2 : Nat) : Int) = 1 := by omega
  have b8 : ¬ y % 2 = 1 → ¬ ((y % 2 : Nat) : Int) = 1 := by omega
  rw [and1 y b6]
  unfold fin
  by_cases c3 : y % 2 = 1
  · rw [if_pos (b7 c3), half_neg y b6, put_f k _ _ b1 b2 (by decide) b5, empty_append]
    simp only [Option.bind_some, if_pos c3]
    rw [if_pos q1, if_pos q2, if_pos q3, ofL_toList, Go.ByteArray.toList_eq, q4, q5]
    split <;> rfl
  · rw [if_neg (b8 c3), half_pos y b6, put_f k _ _ b3 b4 (by decide) b5, empty_append]
    simp only [Option.bind_some, if_neg c3]
    rw [if_pos q1, if_pos q2, if_pos q3, ofL_toList, Go.ByteArray.toList_eq, q4, q5]
    split <;> rfl
theorem get_l0 (s : ByteArray) (at_ : Nat) (hs : s.size ≤ 140737488351232) (ha : at_ ≤ 140737488351232) : ∀ (m i x k : Nat), i + m = 9 → x < 32 ^ i → 2 * m + 20 ≤ k →
    vlq_Get.l0 k s (at_ : Int) (x : Int) (i : Int) = some (G s at_ m i x) := by
  intro m
  induction m with
  | zero =>
    intro i x k hi hx hk
    obtain ⟨k, rfl⟩ : ∃ m, k = m + 2 := ⟨k - 2, by omega⟩
    simp only [vlq_Get.l0]
    rw [if_neg (by omega)]; simp only [vlq_Get.j1]; rfl
  | succ m ih =>
    intro i x k hi hx hk
    obtain ⟨k, rfl⟩ : ∃ m, k = m + 2 := ⟨k - 2, by omega⟩
    have b5 : 12 ≤ k := by omega
    have bk : 2 * m + 20 ≤ k := by omega
    simp only [vlq_Get.l0]
    rw [if_pos (by omega), if_pos (by omega), wrap_id (n := (s.size : Int) - i) (by omega) (by omega)]
    by_cases c : at_ + i < s.size
    · rw [decide_eq_true (by omega)]
      simp only [vlq_Get.j1, if_true]
      rw [show wrap64 ((at_ : Int) + i) = ((at_ + i : Nat) : Int) by rw [wrap_id (by omega) (by omega)]; omega, if_pos (by omega), if_pos (by omega)]
      simp only [strings_IndexByte.f, Option.bind_some]
      rw [show Lib.indexByte (⟨#[65, 66, 67, 68, 69, 70, 71, 72, 73, 74, 75, 76, 77, 78, 79, 80, 81, 82, 83, 84, 85, 86, 87, 88, 89, 90, 97, 98, 99, 100, 101, 102, 103, 104, 105, 106, 107, 108, 109, 110, 111, 112, 113, 114, 115, 116, 117, 118, 119, 120, 121, 122, 48, 49, 50, 51, 52, 53, 54, 55, 56, 57, 43, 47]⟩ : ByteArray).data.toList (bt s ((at_ + i : Nat) : Int)).toNat.toUInt8 = idx' (bt s ((at_ + i : Nat) : Int)) from rfl]
      have hr := bt_range s ((at_ + i : Nat) : Int)
      have hd := idx_range _ hr.1 hr.2
      rw [G, if_pos c]
      generalize idx' (bt s ((at_ + i : Nat) : Int)) = d at *
      by_cases c1 : d < 0
      · rw [if_pos c1, if_pos c1]
      · obtain ⟨e, rfl⟩ := Int.eq_ofNat_of_zero_le (show 0 ≤ d by omega)
        have e5 : wrap64 (5 * (i : Int)) = ((5 * i : Nat) : Int) := by rw [wrap_id (by omega) (by omega)]; omega
        have em : Int.tmod (e : Int) 32 = ((e % 32 : Nat) : Int) := rfl
        rw [if_neg c1, if_neg c1, e5, if_pos (by omega), em, shl_d _ _ (by omega) (by omega), or_shl x (e % 32) i hx (by omega) (by omega), show ((e : Int)).toNat = e by omega]
        have hlt := step_lt x (e % 32) i hx (show e % 32 < 32 by omega)
        have hp := pow_le9 (i := i + 1) (by omega)
        by_cases c2 : (e : Int) ≥ 32
        · rw [if_pos c2, if_pos c2, show wrap64 ((i : Int) + 1) = ((i + 1 : Nat) : Int) by rw [wrap_id (by omega) (by omega)]; omega]
          exact ih (i + 1) _ k (by clear hlt hp; omega) hlt bk
        · rw [if_neg c2, if_neg c2]
          have q1 : (0 : Int) ≤ at_ := by omega
          have q2 : (at_ : Int) ≤ ((at_ + i + 1 : Nat) : Int) := by omega
          have q3 : ((at_ + i + 1 : Nat) : Int) ≤ s.size := by omega
          have q4 : ((at_ : Int)).toNat = at_ := by omega
          have q5 : (((at_ + i + 1 : Nat) : Int)).toNat = at_ + i + 1 := by omega
          have w1 : wrap64 (((at_ + i : Nat) : Int) + 1) = ((at_ + i + 1 : Nat) : Int) := by rw [wrap_id (by omega) (by omega)]; omega
          have b6 : x + e % 32 * 32 ^ i < 2 ^ 62 := by omega
          rw [w1]
          exact get_end s at_ i k _ q1 q2 q3 q4 q5 b5 b6
    · rw [decide_eq_false (by omega), G, if_neg c]; simp only [vlq_Get.j1]; rfl
/-- what Get answers at any place -/
def getL (s : ByteArray) (a : Int) : Int × Int × Bool := if a < 0 then (0, 0, false) else if a ≥ s.size then (0, 0, false) else G s a.toNat 9 0 0
theorem get_f (k : Nat) (s : ByteArray) (a : Int) (hs : s.size ≤ 140737488351232) (hk : 40 ≤ k) : vlq_Get.f k s a = some (getL s a) := by
  unfold vlq_Get.f getL
  by_cases c : a < 0
  · obtain ⟨k, rfl⟩ : ∃ m, k = m + 2 := ⟨k - 2, by omega⟩
    simp only [vlq_Get.l0]
    rw [if_pos (by omega), if_neg (by omega), if_pos c]; simp only [vlq_Get.j1]; rfl
  · rw [if_neg c]
    by_cases c2 : a ≥ s.size
    · obtain ⟨k, rfl⟩ : ∃ m, k = m + 2 := ⟨k - 2, by omega⟩
      simp only [vlq_Get.l0]
      rw [if_pos (by omega), if_pos (by omega), if_pos c2, wrap_id (by omega) (by omega), decide_eq_false (by omega)]; simp only [vlq_Get.j1]; rfl
    · rw [if_neg c2]
      have := get_l0 s a.toNat hs (by omega) 9 0 0 k (by omega) (by decide) (by omega)
      rwa [show ((a.toNat : Nat) : Int) = a by omega] at this
theorem alive_f : abridgerlaw3_alive.f 60 = some true := by decide +kernel
end Go.Proofs.Ytlpbebijhfkmeaa.Vlq
