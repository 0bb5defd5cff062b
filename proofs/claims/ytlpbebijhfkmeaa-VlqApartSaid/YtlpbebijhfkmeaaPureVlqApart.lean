/- Two numbers are written as one text just if they are one, and no number's text begins another's.
   Conditions: none beyond the statement's own bounds. -/
import Derived.Test.YtlpbebijhfkmeaaPVlqx4
import Derived.Test.YtlpbebijhfkmeaaVlq2
namespace Go.Proofs.Ytlpbebijhfkmeaa.Pure
open Go.RowKit Go.Proofs.Ytlpbebijhfkmeaa.PVlq Go.Proofs.Ytlpbebijhfkmeaa.Vlq Go.Proofs.YtlpbebijhfkmeaaW.PrintWords Go.Proofs.YtlpbebijhfkmeaaW.PrintLast

theorem take_ofL (l : List UInt8) (n : Nat) : ((ofL l).extract 0 n).toList = l.take n := by
  rw [Go.ByteArray.toList_eq]
  simp [ofL, ByteArray.extract, ByteArray.copySlice]

theorem VlqApart : abridgerlaw3_VlqApart.Pure := by
  intro a b ha hb
  refine ⟨900, ?_⟩
  have al : abridgerlaw3_alive.f 900 = some true := at_rounds abridgerlaw3_alive.mono (show 60 ≤ 900 by decide) alive_f
  unfold abridgerlaw3_VlqApart.f
  rw [al]
  simp only [Option.bind_some, if_true, abridgerlaw3_VlqApart.j0]
  by_cases c1 : a < -1099511627776
  · rw [if_pos c1]
  · rw [if_neg c1]
    by_cases c2 : a > 1099511627776
    · rw [if_pos c2]
    · rw [if_neg c2]
      by_cases c3 : b < -1099511627776
      · rw [if_pos c3]
      · rw [if_neg c3]
        by_cases c4 : b > 1099511627776
        · rw [if_pos (decide_eq_true c4)]
        · have ia : inr a := by unfold inr; omega
          have ib : inr b := by unfold inr; omega
          have pa := enc_pos (zig a)
          have pb := enc_pos (zig b)
          have e0 : (⟨#[]⟩ : ByteArray).size ≤ 9223372036854775000 := by decide
          have na : ¬ (((enc (zig a)).length : Nat) : Int) = 0 := by omega
          have nb : ¬ (((enc (zig b)).length : Nat) : Int) = 0 := by omega
          rw [decide_eq_false c4]
          simp only [Bool.false_eq_true, if_false]
          rw [put_f _ _ a (by omega) (by omega) e0 (by omega), put_f _ _ b (by omega) (by omega) e0 (by omega), empty_append, empty_append, putL_in ia, putL_in ib]
          simp only [Option.bind_some, ofL_toList, ofL_size]
          rw [if_neg na, if_neg nb]
          by_cases c : a = b
          · subst c
            simp
          · have ne : enc (zig a) ≠ enc (zig b) := fun h => c (zig_inj (enc_prefix _ _ (by rw [← h, List.take_length])))
            have q1 : ((a == b) == (enc (zig a) == enc (zig b))) = true := by rw [beq_eq_false_iff_ne.mpr c, beq_eq_false_iff_ne.mpr ne]; rfl
            rw [if_pos q1, if_neg c]
            by_cases d : (((enc (zig a)).length : Nat) : Int) > (((enc (zig b)).length : Nat) : Int)
            · rw [if_pos d]
            · rw [if_neg d, if_pos (by omega), if_pos (by omega), take_ofL]
              have q2 : (enc (zig b)).take (enc (zig a)).length ≠ enc (zig a) := fun h => c (zig_inj (enc_prefix _ _ h.symm))
              simp [q2]

end Go.Proofs.Ytlpbebijhfkmeaa.Pure
