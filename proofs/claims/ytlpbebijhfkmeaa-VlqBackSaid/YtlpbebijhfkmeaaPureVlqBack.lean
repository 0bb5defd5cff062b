/- Numbers written one behind the other are read back one behind the other, and nothing is read behind the last one.
   Conditions: none beyond the statement's own bounds. -/
import Derived.Test.YtlpbebijhfkmeaaPVlqx3
import Derived.Test.YtlpbebijhfkmeaaVlq2
namespace Go.Proofs.Ytlpbebijhfkmeaa.Pure
open Go.RowKit Go.Proofs.Ytlpbebijhfkmeaa.PVlq Go.Proofs.Ytlpbebijhfkmeaa.Vlq Go.Proofs.YtlpbebijhfkmeaaW.PrintWords Go.Proofs.YtlpbebijhfkmeaaW.PrintLast

def cat (l : List Int) : List UInt8 := l.flatMap fun n => enc (zig n)
theorem cat_append (a b : List Int) : cat (a ++ b) = cat a ++ cat b := by unfold cat; exact List.flatMap_append
theorem cat_one (n : Int) : cat [n] = enc (zig n) := by unfold cat; simp
theorem cat_cons (n : Int) (l : List Int) : cat (n :: l) = enc (zig n) ++ cat l := by unfold cat; simp
theorem cat_len (l : List Int) (h : ∀ n ∈ l, inr n) : (cat l).length ≤ 9 * l.length := by
  induction l with
  | nil => simp [cat]
  | cons n l ih =>
    have h1 := enc_len 8 (zig n) (zig_lt (h n (by simp))).1
    have h2 := ih (fun x hx => h x (by simp [hx]))
    rw [cat_cons, List.length_append, List.length_cons]; omega
theorem rd_get (l : List Int) (j : Nat) (h : j < l.length) : rd l (j : Int) = l[j] := by
  unfold rd; rw [show ((j : Int)).toNat = j by omega, List.getD_eq_getElem?_getD, List.getElem?_eq_getElem h]; rfl

theorem back_l1 (l : List Int) (hl : l.length ≤ 40) (hr : ∀ n ∈ l, inr n) : ∀ (d j k : Nat), j + d = l.length → d + 100 ≤ k →
    abridgerlaw3_VlqBack.l1 k l (ofL (cat l)) (((cat (l.take j)).length : Nat) : Int) (j : Int) = some true := by
  have hc := cat_len l hr
  have hsz : (ofL (cat l)).size ≤ 140737488351232 := by rw [ofL_size]; omega
  intro d
  induction d with
  | zero =>
    intro j k hj hk
    obtain ⟨k, rfl⟩ : ∃ m, k = m + 1 := ⟨k - 1, by omega⟩
    obtain rfl : j = l.length := by omega
    have q1 : ¬ ((l.length : Int) < (l.length : Int)) := by omega
    have q2 : 40 ≤ k := by omega
    simp only [abridgerlaw3_VlqBack.l1]
    rw [List.take_length, if_neg q1, get_f k _ _ hsz q2, show (((cat l).length : Nat) : Int) = (((ofL (cat l)).size : Nat) : Int) from rfl, getL_end]
    simp
  | succ d ih =>
    intro j k hj hk
    obtain ⟨k, rfl⟩ : ∃ m, k = m + 1 := ⟨k - 1, by omega⟩
    have hjl : j < l.length := by omega
    have q1 : (j : Int) < (l.length : Int) := by omega
    have q2 : 40 ≤ k := by omega
    have q3 : (0 : Int) ≤ (j : Int) := by omega
    have w1 : wrap64 ((j : Int) + 1) = ((j + 1 : Nat) : Int) := by rw [wrap_id (by omega) (by omega)]; omega
    have hin := hr l[j] (List.getElem_mem hjl)
    have hp := enc_pos (zig l[j])
    have hdrop : (ofL (cat l)).data.toList.drop (cat (l.take j)).length = enc (zig l[j]) ++ cat (l.drop (j + 1)) := by
      rw [data_ofL]
      have e : l = l.take j ++ (l[j] :: l.drop (j + 1)) := by rw [← List.drop_eq_getElem_cons hjl, List.take_append_drop]
      have e2 : cat l = cat (l.take j) ++ (enc (zig l[j]) ++ cat (l.drop (j + 1))) := by
        rw [← cat_cons, ← cat_append, ← e]
      rw [e2, List.drop_left]
    have hnext : (cat (l.take j)).length + (enc (zig l[j])).length = (cat (l.take (j + 1))).length := by
      rw [List.take_succ_eq_append_getElem hjl, cat_append, cat_one, List.length_append]
    have hg := getL_enc (ofL (cat l)) (cat (l.take j)).length l[j] _ hin hdrop
    have q4 : ¬ ((((cat (l.take j)).length + (enc (zig l[j])).length : Nat) : Int) ≤ (((cat (l.take j)).length : Nat) : Int)) := by omega
    have q5 : j + 1 + d = l.length := by omega
    have q6 : d + 100 ≤ k := by omega
    simp only [abridgerlaw3_VlqBack.l1]
    rw [if_pos q1, get_f k _ _ hsz q2, hg]
    simp only [Option.bind_some, if_true]
    rw [if_pos q3, rd_get l j hjl, if_pos rfl, if_neg q4, w1, hnext]
    exact ih (j + 1) k q5 q6

theorem back_l0 (l : List Int) (hl : l.length ≤ 40) : ∀ (d j k : Nat), j + d = l.length → (∀ n ∈ l.take j, inr n) → d + 200 ≤ k →
    abridgerlaw3_VlqBack.l0 k l (ofL (cat (l.take j))) (j : Int) = some true := by
  intro d
  induction d with
  | zero =>
    intro j k hj hr hk
    obtain ⟨k, rfl⟩ : ∃ m, k = m + 1 := ⟨k - 1, by omega⟩
    obtain rfl : j = l.length := by omega
    rw [List.take_length] at hr ⊢
    have q1 : ¬ ((l.length : Int) < (l.length : Int)) := by omega
    have h := back_l1 l hl hr l.length 0 k (by omega) (by omega)
    simp only [abridgerlaw3_VlqBack.l0]
    rw [if_neg q1]
    exact h
  | succ d ih =>
    intro j k hj hr hk
    obtain ⟨k, rfl⟩ : ∃ m, k = m + 1 := ⟨k - 1, by omega⟩
    have hjl : j < l.length := by omega
    have q1 : (j : Int) < (l.length : Int) := by omega
    have q3 : (0 : Int) ≤ (j : Int) := by omega
    have w1 : wrap64 ((j : Int) + 1) = ((j + 1 : Nat) : Int) := by rw [wrap_id (by omega) (by omega)]; omega
    have hc := cat_len (l.take j) hr
    have hj2 : (l.take j).length ≤ 40 := by rw [List.length_take]; omega
    simp only [abridgerlaw3_VlqBack.l0]
    rw [if_pos q1, if_pos q3, rd_get l j hjl]
    by_cases c1 : l[j] < -1099511627776
    · rw [if_pos c1]
    · rw [if_neg c1]
      by_cases c2 : l[j] > 1099511627776
      · rw [if_pos c2]
      · have hin : inr l[j] := by unfold inr; omega
        have q4 : (ofL (cat (l.take j))).size ≤ 9223372036854775000 := by rw [ofL_size]; omega
        rw [if_neg c2, put_f k _ l[j] (by omega) (by omega) q4 (by omega), putL_in hin, ofL_append]
        simp only [Option.bind_some]
        rw [w1]
        have e : cat (l.take j) ++ enc (zig l[j]) = cat (l.take (j + 1)) := by
          rw [List.take_succ_eq_append_getElem hjl, cat_append, cat_one]
        rw [e]
        refine ih (j + 1) k (by omega) ?_ (by omega)
        intro n hn
        rw [List.take_succ_eq_append_getElem hjl] at hn
        rcases List.mem_append.mp hn with h | h
        · exact hr n h
        · rw [List.mem_singleton.mp h]; exact hin

theorem VlqBack : abridgerlaw3_VlqBack.Pure := by
  intro l _ _ _
  refine ⟨900, ?_⟩
  have al : abridgerlaw3_alive.f 900 = some true := at_rounds abridgerlaw3_alive.mono (show 60 ≤ 900 by decide) alive_f
  unfold abridgerlaw3_VlqBack.f
  rw [al]
  simp only [Option.bind_some, if_true, abridgerlaw3_VlqBack.j0]
  by_cases c : ((l.length : Nat) : Int) > 40
  · rw [if_pos (decide_eq_true c)]
  · rw [decide_eq_false c]
    simp only [Bool.false_eq_true, if_false]
    exact back_l0 l (by omega) l.length 0 899 (by omega) (by simp) (by omega)

end Go.Proofs.Ytlpbebijhfkmeaa.Pure
