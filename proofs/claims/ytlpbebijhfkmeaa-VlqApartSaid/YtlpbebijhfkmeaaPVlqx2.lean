-- WRITTEN BY a program of this session (see wip/tools)
import Derived.Test.YtlpbebijhfkmeaaPVlqx0
import Derived.Test.YtlpbebijhfkmeaaPVlqx1
namespace Go.Proofs.Ytlpbebijhfkmeaa.PVlq
open Go.RowKit Go.Proofs.YtlpbebijhfkmeaaW.PrintWords Go.Proofs.YtlpbebijhfkmeaaW.PrintLast Go.Proofs.YtlpbebijhfkmeaaW.PrintMore
attribute [local go_sem] max2_int min2_int max_two min_two max_three min_three max_four min_four   -- for this text's walks alone
set_option linter.unusedVariables false
set_option linter.unusedSimpArgs false

/-! ### abridgerref1_PutVlq: function 13 -/
mutual
def abridgerref1_PutVlq.j0 : Nat → ByteArray → Int → Bool → Option (ByteArray)
  | 0, _, _, _ => none
  | k + 1, x0, x1, x12 => if x12 = true then (some x0) else (if x1 < 0 then (abridgerref1_PutVlq.j1 k x0 (wrap64 ((wrap64 ((-2) * x1)) + 1))) else (abridgerref1_PutVlq.j1 k x0 (wrap64 (2 * x1))))
def abridgerref1_PutVlq.j1 : Nat → ByteArray → Int → Option (ByteArray)
  | 0, _, _ => none
  | k + 1, x0, x5 => abridgerref1_PutVlq.l0 k x0 x5
def abridgerref1_PutVlq.l0 : Nat → ByteArray → Int → Option (ByteArray)
  | 0, _, _ => none
  | k + 1, x0, x5 => if (x5 / 32) > 0 then ((abridgerref1_letters.f).bind fun t109 => (if 0 ≤ (wrap64 ((Go.bits .and .i64 x5 31) + 32)) then (if (wrap64 ((Go.bits .and .i64 x5 31) + 32)) ≤ (wrap64 ((wrap64 ((Go.bits .and .i64 x5 31) + 32)) + 1)) then (if (wrap64 ((wrap64 ((Go.bits .and .i64 x5 31) + 32)) + 1)) ≤ (t109.size : Int) then (if x0.size + (t109.extract ((wrap64 ((Go.bits .and .i64 x5 31) + 32)) : Int).toNat ((wrap64 ((wrap64 ((Go.bits .and .i64 x5 31) + 32)) + 1)) : Int).toNat).size ≤ 9223372036854775807 then (if (x5 / 32) = 0 then (some (x0 ++ (t109.extract ((wrap64 ((Go.bits .and .i64 x5 31) + 32)) : Int).toNat ((wrap64 ((wrap64 ((Go.bits .and .i64 x5 31) + 32)) + 1)) : Int).toNat))) else (abridgerref1_PutVlq.l0 k (x0 ++ (t109.extract ((wrap64 ((Go.bits .and .i64 x5 31) + 32)) : Int).toNat ((wrap64 ((wrap64 ((Go.bits .and .i64 x5 31) + 32)) + 1)) : Int).toNat)) (x5 / 32))) else (none)) else (none)) else (none)) else (none))) else ((abridgerref1_letters.f).bind fun t110 => (if 0 ≤ (Go.bits .and .i64 x5 31) then (if (Go.bits .and .i64 x5 31) ≤ (wrap64 ((Go.bits .and .i64 x5 31) + 1)) then (if (wrap64 ((Go.bits .and .i64 x5 31) + 1)) ≤ (t110.size : Int) then (if x0.size + (t110.extract ((Go.bits .and .i64 x5 31) : Int).toNat ((wrap64 ((Go.bits .and .i64 x5 31) + 1)) : Int).toNat).size ≤ 9223372036854775807 then (if (x5 / 32) = 0 then (some (x0 ++ (t110.extract ((Go.bits .and .i64 x5 31) : Int).toNat ((wrap64 ((Go.bits .and .i64 x5 31) + 1)) : Int).toNat))) else (abridgerref1_PutVlq.l0 k (x0 ++ (t110.extract ((Go.bits .and .i64 x5 31) : Int).toNat ((wrap64 ((Go.bits .and .i64 x5 31) + 1)) : Int).toNat)) (x5 / 32))) else (none)) else (none)) else (none)) else (none)))
end
def abridgerref1_PutVlq.f (k : Nat) (a0 : ByteArray) (a1 : Int) : Option (ByteArray) := if a1 < (-1099511627776) then (abridgerref1_PutVlq.j0 k a0 a1 true) else (abridgerref1_PutVlq.j0 k a0 a1 (decide (a1 > 1099511627776)))
theorem abridgerref1_PutVlq.mono_l : ∀ k, (∀ y0 y1 y2, LeO (abridgerref1_PutVlq.j0 k y0 y1 y2) (abridgerref1_PutVlq.j0 (k + 1) y0 y1 y2)) ∧ (∀ y0 y1, LeO (abridgerref1_PutVlq.j1 k y0 y1) (abridgerref1_PutVlq.j1 (k + 1) y0 y1)) ∧ (∀ y0 y1, LeO (abridgerref1_PutVlq.l0 k y0 y1) (abridgerref1_PutVlq.l0 (k + 1) y0 y1))
  | 0 => ⟨fun _ _ _ r h => by simp [abridgerref1_PutVlq.j0] at h, fun _ _ r h => by simp [abridgerref1_PutVlq.j1] at h, fun _ _ r h => by simp [abridgerref1_PutVlq.l0] at h⟩
  | k + 1 => by
    obtain ⟨ih0, ih1, ih2⟩ := abridgerref1_PutVlq.mono_l k
    refine ⟨?_, ?_, ?_⟩
    · intro y0 y1 y2
      unfold abridgerref1_PutVlq.j0
      repeat' first
      | (with_reducible exact ih0 _ _ _)
      | (with_reducible exact ih1 _ _)
      | (with_reducible exact ih2 _ _)
      | (with_reducible exact LeO.refl _)
      | (with_reducible exact LeO.none _)
      | (with_reducible refine LeO.ite ?_ ?_)
      | (with_reducible refine LeO.bind ?_ (fun _ => ?_))
      | exact ih0 _ _ _
      | exact ih1 _ _
      | exact ih2 _ _
      | exact LeO.none _
      | refine LeO.ite ?_ ?_
      | refine LeO.bind ?_ (fun _ => ?_)
    · intro y0 y1
      unfold abridgerref1_PutVlq.j1
      repeat' first
      | (with_reducible exact ih0 _ _ _)
      | (with_reducible exact ih1 _ _)
      | (with_reducible exact ih2 _ _)
      | (with_reducible exact LeO.refl _)
      | (with_reducible exact LeO.none _)
      | (with_reducible refine LeO.ite ?_ ?_)
      | (with_reducible refine LeO.bind ?_ (fun _ => ?_))
      | exact ih0 _ _ _
      | exact ih1 _ _
      | exact ih2 _ _
      | exact LeO.none _
      | refine LeO.ite ?_ ?_
      | refine LeO.bind ?_ (fun _ => ?_)
    · intro y0 y1
      unfold abridgerref1_PutVlq.l0
      repeat' first
      | (with_reducible exact ih0 _ _ _)
      | (with_reducible exact ih1 _ _)
      | (with_reducible exact ih2 _ _)
      | (with_reducible exact LeO.refl _)
      | (with_reducible exact LeO.none _)
      | (with_reducible refine LeO.ite ?_ ?_)
      | (with_reducible refine LeO.bind ?_ (fun _ => ?_))
      | exact ih0 _ _ _
      | exact ih1 _ _
      | exact ih2 _ _
      | exact LeO.none _
      | refine LeO.ite ?_ ?_
      | refine LeO.bind ?_ (fun _ => ?_)
theorem abridgerref1_PutVlq.mono : ∀ a0 a1 k, LeO (abridgerref1_PutVlq.f k a0 a1) (abridgerref1_PutVlq.f (k + 1) a0 a1) := by
  intro a0 a1 k
  obtain ⟨ih0, ih1, ih2⟩ := abridgerref1_PutVlq.mono_l k
  unfold abridgerref1_PutVlq.f
  repeat' first
      | (with_reducible exact ih0 _ _ _)
      | (with_reducible exact ih1 _ _)
      | (with_reducible exact ih2 _ _)
      | (with_reducible exact LeO.refl _)
      | (with_reducible exact LeO.none _)
      | (with_reducible refine LeO.ite ?_ ?_)
      | (with_reducible refine LeO.bind ?_ (fun _ => ?_))
      | exact ih0 _ _ _
      | exact ih1 _ _
      | exact ih2 _ _
      | exact LeO.none _
      | refine LeO.ite ?_ ?_
      | refine LeO.bind ?_ (fun _ => ?_)
set_option maxHeartbeats 8000000 in
set_option maxRecDepth 100000 in
theorem abridgerref1_PutVlq.calls (k : Nat) (a0 : ByteArray) (a1 : Int) (r : ByteArray) (w : World) (h : abridgerref1_PutVlq.f k a0 a1 = some r) :
    Calls Try.prog 13 #[.string a0, .int .i64 a1] w fun e w' => e = .returned (.string r) ∧ Drawn0 w w' := by
  have H : (if a1 < (-1099511627776) then (abridgerref1_PutVlq.j0 k a0 a1 true) else (abridgerref1_PutVlq.j0 k a0 a1 (decide (a1 > 1099511627776)))) = some r := h
  clear h
  have HC3 := Aside0.mk H
  clear H
  go_enter Try.func13, Try.ntmps13
  go_upto_region 1 with (fail)
  go_cut [12] (fun v12 wc => ∃ (kq : Nat) (x12_2 : Bool), v12 = .bool x12_2 ∧ Aside0 (abridgerref1_PutVlq.j0 kq a0 a1 x12_2 = some r) ∧ Aside0 (kq ≤ k) ∧ Drawn0 w wc)
  case first =>
    have H := HC3.out
    clear HC3
    by_cases c4 : a1 < (-1099511627776)
    · rw [if_pos c4] at H
      have c4b0 : decide (a1 < (-1099511627776)) = true := decide_eq_true c4
      clear c4
      (first | rw [c4b0] | (simp only [i64_w, i32_w]; rw [c4b0]) | skip)
      have H' := Aside0.mk H
      clear H
      go_wp2
      go_meet
      case rel => exact ⟨_, (true), (by first | rfl | (simp; done) | (simp [*]; done)), H', ⟨by first | omega | exact Nat.le_refl _⟩, by repeat (first | exact Drawn0.refl _ | apply Drawn0.step)⟩
    · rw [if_neg c4] at H
      have c4b0 : decide (a1 < (-1099511627776)) = false := decide_eq_false c4
      clear c4
      (first | rw [c4b0] | (simp only [i64_w, i32_w]; rw [c4b0]) | skip)
      have H' := Aside0.mk H
      clear H
      go_wp2
      go_meet
      case rel => exact ⟨_, (decide (a1 > 1099511627776)), (by first | rfl | (simp; done) | (simp [*]; done)), H', ⟨by first | omega | exact Nat.le_refl _⟩, by repeat (first | exact Drawn0.refl _ | apply Drawn0.step)⟩
  case rest =>
    clear HC3
    try clear c1
    try clear p2
    try clear c4
    try clear c4b0
    obtain ⟨kq, x12_2, rfl, HA, HJ2, ⟨mc2, rfl⟩⟩ := hcut
    cases kq with
    | zero => exact absurd HA.out (by simp [abridgerref1_PutVlq.j0])
    | succ kj2 =>
      have H := HA.out
      clear HA
      simp only [abridgerref1_PutVlq.j0] at H
      by_cases c5 : x12_2 = true
      · subst c5
        have H1 : (some a0) = some r := by rw [if_pos rfl] at H; exact H
        clear H
        have H := H1
        clear H1
        obtain rfl := Option.some.inj H
        go_wp2
        go_ret
        exact ⟨by first | rfl | (simp; done) | (simp [*]; done), by repeat (first | exact Drawn0.refl _ | apply Drawn0.step)⟩
      · replace c5 := Bool.eq_false_iff.mpr c5
        subst c5
        have H1 : (if a1 < 0 then (abridgerref1_PutVlq.j1 kj2 a0 (wrap64 ((wrap64 ((-2) * a1)) + 1))) else (abridgerref1_PutVlq.j1 kj2 a0 (wrap64 (2 * a1)))) = some r := by rw [if_neg (show ¬ (false = true) by decide)] at H; exact H
        clear H
        have H := H1
        clear H1
        have HC6 := Aside0.mk H
        clear H
        go_upto_if 17 with (fail)
        go_cut [5] (fun v5 wc => ∃ (kq : Nat) (x5_5 : Int), v5 = .int .i64 x5_5 ∧ Aside0 (abridgerref1_PutVlq.j1 kq a0 x5_5 = some r) ∧ Aside0 (kq ≤ kj2) ∧ Drawn0 w wc)
        case first =>
          have H := HC6.out
          clear HC6
          by_cases c7 : a1 < 0
          · rw [if_pos c7] at H
            have c7b0 : decide (a1 < 0) = true := decide_eq_true c7
            clear c7
            (first | rw [c7b0] | (simp only [i64_w, i32_w]; rw [c7b0]) | skip)
            have H' := Aside0.mk H
            clear H
            go_wp2
            go_meet
            case rel => exact ⟨_, (wrap64 ((wrap64 ((-2) * a1)) + 1)), (by first | rfl | (simp; done) | (simp [*]; done)), H', ⟨by have := HJ2.out; first | omega | exact Nat.le_refl _⟩, by repeat (first | exact Drawn0.refl _ | apply Drawn0.step)⟩
          · rw [if_neg c7] at H
            have c7b0 : decide (a1 < 0) = false := decide_eq_false c7
            clear c7
            (first | rw [c7b0] | (simp only [i64_w, i32_w]; rw [c7b0]) | skip)
            have H' := Aside0.mk H
            clear H
            go_wp2
            go_meet
            case rel => exact ⟨_, (wrap64 (2 * a1)), (by first | rfl | (simp; done) | (simp [*]; done)), H', ⟨by have := HJ2.out; first | omega | exact Nat.le_refl _⟩, by repeat (first | exact Drawn0.refl _ | apply Drawn0.step)⟩
        case rest =>
          clear HC6
          try clear c1
          try clear c2
          try clear p2
          try clear c4
          try clear c4b0
          try clear c5
          try clear p6
          try clear c7
          try clear c7b0
          try clear p2
          obtain ⟨kq, x5_5, rfl, HA, HJ5, ⟨mc5, rfl⟩⟩ := hcut
          cases kq with
          | zero => exact absurd HA.out (by simp [abridgerref1_PutVlq.j1])
          | succ kj5 =>
            have H := HA.out
            clear HA
            simp only [abridgerref1_PutVlq.j1] at H
            have H' := Aside0.mk H
            clear H
            go_wp2
            go_loopg [0, 5] kj5 (fun kq v0 v5 w' => ∃ (x0_3 : ByteArray) (x5_3 : Int), v0 = .string x0_3 ∧ v5 = .int .i64 x5_3 ∧ Aside0 (abridgerref1_PutVlq.l0 kq x0_3 x5_3 = some r) ∧ Aside0 (kq ≤ kj5) ∧ Drawn0 w w')
            case atStart => exact ⟨(a0), (x5_5), (by first | rfl | (simp; done) | (simp [*]; done)), (by first | rfl | (simp; done) | (simp [*]; done)), H', ⟨Nat.le_refl _⟩, by repeat (first | exact Drawn0.refl _ | apply Drawn0.step)⟩
            case round =>
              clear H'
              try clear c1
              try clear c2
              try clear p2
              try clear c4
              try clear c4b0
              try clear c5
              try clear p6
              try clear c7
              try clear c7b0
              try clear p2
              try clear p6
              obtain ⟨x0_3, x5_3, rfl, rfl, HA, HK3, ⟨m3, rfl⟩⟩ := hrel
              cases gk with
              | zero => exact absurd HA.out (by simp [abridgerref1_PutVlq.l0])
              | succ k3 =>
                have H := HA.out
                clear HA
                simp only [abridgerref1_PutVlq.l0] at H
                by_cases c8 : (x5_3 / 32) > 0
                · rw [if_pos c8] at H
                  have c8b0 : decide (0 < (x5_3 / 32)) = true := decide_eq_true c8
                  clear c8
                  replace H := Option.bind_eq_some_iff.mp H
                  obtain ⟨t109, A90, H⟩ := H
                  replace H : (if 0 ≤ (wrap64 ((Go.bits .and .i64 x5_3 31) + 32)) then (if (wrap64 ((Go.bits .and .i64 x5_3 31) + 32)) ≤ (wrap64 ((wrap64 ((Go.bits .and .i64 x5_3 31) + 32)) + 1)) then (if (wrap64 ((wrap64 ((Go.bits .and .i64 x5_3 31) + 32)) + 1)) ≤ (t109.size : Int) then (if x0_3.size + (t109.extract ((wrap64 ((Go.bits .and .i64 x5_3 31) + 32)) : Int).toNat ((wrap64 ((wrap64 ((Go.bits .and .i64 x5_3 31) + 32)) + 1)) : Int).toNat).size ≤ 9223372036854775807 then (if (x5_3 / 32) = 0 then (some (x0_3 ++ (t109.extract ((wrap64 ((Go.bits .and .i64 x5_3 31) + 32)) : Int).toNat ((wrap64 ((wrap64 ((Go.bits .and .i64 x5_3 31) + 32)) + 1)) : Int).toNat))) else (abridgerref1_PutVlq.l0 k3 (x0_3 ++ (t109.extract ((wrap64 ((Go.bits .and .i64 x5_3 31) + 32)) : Int).toNat ((wrap64 ((wrap64 ((Go.bits .and .i64 x5_3 31) + 32)) + 1)) : Int).toNat)) (x5_3 / 32))) else (none)) else (none)) else (none)) else (none)) = some r := H
                  have A9 := Aside0.mk A90
                  clear A90
                  obtain ⟨ji10, hji10⟩ : ∃ j_ : Int, (wrap64 ((Go.bits .and .i64 x5_3 31) + 32)) = j_ := ⟨_, rfl⟩
                  replace H : (if 0 ≤ (ji10) then (if (ji10) ≤ (wrap64 ((ji10) + 1)) then (if (wrap64 ((ji10) + 1)) ≤ (t109.size : Int) then (if x0_3.size + (t109.extract ((ji10) : Int).toNat ((wrap64 ((ji10) + 1)) : Int).toNat).size ≤ 9223372036854775807 then (if (x5_3 / 32) = 0 then (some (x0_3 ++ (t109.extract ((ji10) : Int).toNat ((wrap64 ((ji10) + 1)) : Int).toNat))) else (abridgerref1_PutVlq.l0 k3 (x0_3 ++ (t109.extract ((ji10) : Int).toNat ((wrap64 ((ji10) + 1)) : Int).toNat)) (x5_3 / 32))) else (none)) else (none)) else (none)) else (none)) = some r := by first | (rw [hji10] at H; exact H) | (simp only [hji10] at H ⊢; exact H)
                  (try rw [hji10] at A9)
                  have hji10w : (IntKind.i64.wrap ((Go.bits .and .i64 x5_3 31) + 32)) = ji10 := (i64_w _).trans hji10
                  by_cases c11 : 0 ≤ (ji10)
                  · rw [if_pos c11] at H
                    have c11b0 := eq_true c11
                    have c11b1 : decide (0 ≤ (ji10)) = true := decide_eq_true c11
                    clear c11
                    by_cases c12 : (ji10) ≤ (wrap64 ((ji10) + 1))
                    · rw [if_pos c12] at H
                      have c12b0 := eq_true c12
                      have c12b1 : decide ((ji10) ≤ (wrap64 ((ji10) + 1))) = true := decide_eq_true c12
                      by_cases c13 : (wrap64 ((ji10) + 1)) ≤ (t109.size : Int)
                      · rw [if_pos c13] at H
                        have c13b0 := eq_true c13
                        have c13b1 : decide ((wrap64 ((ji10) + 1)) ≤ (t109.size : Int)) = true := decide_eq_true c13
                        by_cases c14 : x0_3.size + (t109.extract ((ji10) : Int).toNat ((wrap64 ((ji10) + 1)) : Int).toNat).size ≤ 9223372036854775807
                        · rw [if_pos c14] at H
                          have c14b0 := eq_true c14
                          have c14b1 : decide (x0_3.size + (t109.extract ((ji10) : Int).toNat ((wrap64 ((ji10) + 1)) : Int).toNat).size ≤ 9223372036854775807) = true := decide_eq_true c14
                          try have c14b2 : (9223372036854775807 < x0_3.size + (t109.extract ((ji10) : Int).toNat ((wrap64 ((ji10) + 1)) : Int).toNat).size) = False := eq_false (Nat.not_lt.2 c14)
                          by_cases c15 : (x5_3 / 32) = 0
                          · rw [if_pos c15] at H
                            have c15b0 : ((x5_3 / 32) == 0) = true := beq_iff_eq.mpr c15
                            have c15b1 : ((x5_3 / 32) != 0) = false := bne_eq_false_iff_eq.mpr c15
                            clear c15
                            obtain rfl := Option.some.inj H
                            go_wp2_with (first | ((with_reducible refine gate_callee (f := 19) rfl ?_); refine goesL_ (some 30) rfl rfl Try.func19 (by kernel_rfl) rfl #[] rfl (by (try simp only [List.map_toArray, List.map_cons, List.map_nil]); first | done | rfl | (simp only [List.length_drop, List.length_take]; rfl)) ?_; (with_reducible refine (abridgerref1_letters.calls  t109 _ A9.out).mono ?_); rintro e w' ⟨rfl, ⟨nd, rfl⟩⟩; refine ⟨_, rfl, ?_⟩))
                            go_ret
                            exact ⟨by first | rfl | (simp; done) | (simp only [← hji10] <;> (first | rfl | simp)) | (simp [*]; done), by repeat (first | exact Drawn0.refl _ | apply Drawn0.step)⟩
                          · rw [if_neg c15] at H
                            have c15b0 : ((x5_3 / 32) == 0) = false := beq_eq_false_iff_ne.mpr c15
                            have c15b1 : ((x5_3 / 32) != 0) = true := bne_iff_ne.mpr c15
                            have H' := Aside0.mk H
                            clear H
                            go_wp2_with (first | ((with_reducible refine gate_callee (f := 19) rfl ?_); refine goesL_ (some 30) rfl rfl Try.func19 (by kernel_rfl) rfl #[] rfl (by (try simp only [List.map_toArray, List.map_cons, List.map_nil]); first | done | rfl | (simp only [List.length_drop, List.length_take]; rfl)) ?_; (with_reducible refine (abridgerref1_letters.calls  t109 _ A9.out).mono ?_); rintro e w' ⟨rfl, ⟨nd, rfl⟩⟩; refine ⟨_, rfl, ?_⟩))
                            go_roundg k3
                            case measure => have := HJ2.out; have := HJ5.out; have := HK3.out; omega
                            case rel => exact ⟨(x0_3 ++ (t109.extract ((ji10) : Int).toNat ((wrap64 ((ji10) + 1)) : Int).toNat)), (x5_3 / 32), (by first | rfl | (simp; done) | (simp only [← hji10] <;> (first | rfl | simp)) | (simp [*]; done)), (by first | rfl | (simp; done) | (simp [*]; done)), H', ⟨by have := HJ2.out; have := HJ5.out; have := HK3.out; omega⟩, by repeat (first | exact Drawn0.refl _ | apply Drawn0.step)⟩
                        · rw [if_neg c14] at H
                          exact absurd H (by simp)
                      · rw [if_neg c13] at H
                        exact absurd H (by simp)
                    · rw [if_neg c12] at H
                      exact absurd H (by simp)
                  · rw [if_neg c11] at H
                    exact absurd H (by simp)
                · rw [if_neg c8] at H
                  have c8b0 : decide (0 < (x5_3 / 32)) = false := decide_eq_false c8
                  clear c8
                  replace H := Option.bind_eq_some_iff.mp H
                  obtain ⟨t110, A160, H⟩ := H
                  replace H : (if 0 ≤ (Go.bits .and .i64 x5_3 31) then (if (Go.bits .and .i64 x5_3 31) ≤ (wrap64 ((Go.bits .and .i64 x5_3 31) + 1)) then (if (wrap64 ((Go.bits .and .i64 x5_3 31) + 1)) ≤ (t110.size : Int) then (if x0_3.size + (t110.extract ((Go.bits .and .i64 x5_3 31) : Int).toNat ((wrap64 ((Go.bits .and .i64 x5_3 31) + 1)) : Int).toNat).size ≤ 9223372036854775807 then (if (x5_3 / 32) = 0 then (some (x0_3 ++ (t110.extract ((Go.bits .and .i64 x5_3 31) : Int).toNat ((wrap64 ((Go.bits .and .i64 x5_3 31) + 1)) : Int).toNat))) else (abridgerref1_PutVlq.l0 k3 (x0_3 ++ (t110.extract ((Go.bits .and .i64 x5_3 31) : Int).toNat ((wrap64 ((Go.bits .and .i64 x5_3 31) + 1)) : Int).toNat)) (x5_3 / 32))) else (none)) else (none)) else (none)) else (none)) = some r := H
                  have A16 := Aside0.mk A160
                  clear A160
                  by_cases c17 : 0 ≤ (Go.bits .and .i64 x5_3 31)
                  · rw [if_pos c17] at H
                    have c17b0 := eq_true c17
                    have c17b1 : decide (0 ≤ (Go.bits .and .i64 x5_3 31)) = true := decide_eq_true c17
                    clear c17
                    by_cases c18 : (Go.bits .and .i64 x5_3 31) ≤ (wrap64 ((Go.bits .and .i64 x5_3 31) + 1))
                    · rw [if_pos c18] at H
                      have c18b0 := eq_true c18
                      have c18b1 : decide ((Go.bits .and .i64 x5_3 31) ≤ (wrap64 ((Go.bits .and .i64 x5_3 31) + 1))) = true := decide_eq_true c18
                      by_cases c19 : (wrap64 ((Go.bits .and .i64 x5_3 31) + 1)) ≤ (t110.size : Int)
                      · rw [if_pos c19] at H
                        have c19b0 := eq_true c19
                        have c19b1 : decide ((wrap64 ((Go.bits .and .i64 x5_3 31) + 1)) ≤ (t110.size : Int)) = true := decide_eq_true c19
                        by_cases c20 : x0_3.size + (t110.extract ((Go.bits .and .i64 x5_3 31) : Int).toNat ((wrap64 ((Go.bits .and .i64 x5_3 31) + 1)) : Int).toNat).size ≤ 9223372036854775807
                        · rw [if_pos c20] at H
                          have c20b0 := eq_true c20
                          have c20b1 : decide (x0_3.size + (t110.extract ((Go.bits .and .i64 x5_3 31) : Int).toNat ((wrap64 ((Go.bits .and .i64 x5_3 31) + 1)) : Int).toNat).size ≤ 9223372036854775807) = true := decide_eq_true c20
                          try have c20b2 : (9223372036854775807 < x0_3.size + (t110.extract ((Go.bits .and .i64 x5_3 31) : Int).toNat ((wrap64 ((Go.bits .and .i64 x5_3 31) + 1)) : Int).toNat).size) = False := eq_false (Nat.not_lt.2 c20)
                          by_cases c21 : (x5_3 / 32) = 0
                          · rw [if_pos c21] at H
                            have c21b0 : ((x5_3 / 32) == 0) = true := beq_iff_eq.mpr c21
                            have c21b1 : ((x5_3 / 32) != 0) = false := bne_eq_false_iff_eq.mpr c21
                            clear c21
                            obtain rfl := Option.some.inj H
                            go_wp2_with (first | ((with_reducible refine gate_callee (f := 19) rfl ?_); refine goesL_ (some 30) rfl rfl Try.func19 (by kernel_rfl) rfl #[] rfl (by (try simp only [List.map_toArray, List.map_cons, List.map_nil]); first | done | rfl | (simp only [List.length_drop, List.length_take]; rfl)) ?_; (with_reducible refine (abridgerref1_letters.calls  t110 _ A16.out).mono ?_); rintro e w' ⟨rfl, ⟨nd, rfl⟩⟩; refine ⟨_, rfl, ?_⟩))
                            go_ret
                            exact ⟨by first | rfl | (simp; done) | (simp [*]; done), by repeat (first | exact Drawn0.refl _ | apply Drawn0.step)⟩
                          · rw [if_neg c21] at H
                            have c21b0 : ((x5_3 / 32) == 0) = false := beq_eq_false_iff_ne.mpr c21
                            have c21b1 : ((x5_3 / 32) != 0) = true := bne_iff_ne.mpr c21
                            have H' := Aside0.mk H
                            clear H
                            go_wp2_with (first | ((with_reducible refine gate_callee (f := 19) rfl ?_); refine goesL_ (some 30) rfl rfl Try.func19 (by kernel_rfl) rfl #[] rfl (by (try simp only [List.map_toArray, List.map_cons, List.map_nil]); first | done | rfl | (simp only [List.length_drop, List.length_take]; rfl)) ?_; (with_reducible refine (abridgerref1_letters.calls  t110 _ A16.out).mono ?_); rintro e w' ⟨rfl, ⟨nd, rfl⟩⟩; refine ⟨_, rfl, ?_⟩))
                            go_roundg k3
                            case measure => have := HJ2.out; have := HJ5.out; have := HK3.out; omega
                            case rel => exact ⟨(x0_3 ++ (t110.extract ((Go.bits .and .i64 x5_3 31) : Int).toNat ((wrap64 ((Go.bits .and .i64 x5_3 31) + 1)) : Int).toNat)), (x5_3 / 32), (by first | rfl | (simp; done) | (simp [*]; done)), (by first | rfl | (simp; done) | (simp [*]; done)), H', ⟨by have := HJ2.out; have := HJ5.out; have := HK3.out; omega⟩, by repeat (first | exact Drawn0.refl _ | apply Drawn0.step)⟩
                        · rw [if_neg c20] at H
                          exact absurd H (by simp)
                      · rw [if_neg c19] at H
                        exact absurd H (by simp)
                    · rw [if_neg c18] at H
                      exact absurd H (by simp)
                  · rw [if_neg c17] at H
                    exact absurd H (by simp)

/-! ### abridgerref1_GetVlq: function 11 -/
mutual
def abridgerref1_GetVlq.l0 : Nat → ByteArray → Int → Int → Int → Option (Int × Int × Bool)
  | 0, _, _, _, _ => none
  | k + 1, x0, x1, x7, x8 => if x8 < (x0.size : Int) then (abridgerref1_GetVlq.j1 k x0 x1 x7 x8 (decide (x8 < (wrap64 (x1 + 9))))) else (abridgerref1_GetVlq.j1 k x0 x1 x7 x8 false)
def abridgerref1_GetVlq.j1 : Nat → ByteArray → Int → Int → Int → Bool → Option (Int × Int × Bool)
  | 0, _, _, _, _, _ => none
  | k + 1, x0, x1, x7, x8, x24 => if x24 = true then (abridgerref1_GetVlq.l1 k x0 x1 x7 x8 (-1) 0) else (some (0, 0, false))
def abridgerref1_GetVlq.l1 : Nat → ByteArray → Int → Int → Int → Int → Int → Option (Int × Int × Bool)
  | 0, _, _, _, _, _, _ => none
  | k + 1, x0, x1, x7, x8, x9, x10 => if x10 < 64 then ((abridgerref1_letters.f).bind fun t111 => (if 0 ≤ x10 then (if x10 < (t111.size : Int) then (if 0 ≤ x8 then (if x8 < (x0.size : Int) then (if (bt t111 x10) = (bt x0 x8) then (abridgerref1_GetVlq.l1 k x0 x1 x7 x8 x10 (wrap64 (x10 + 1))) else (abridgerref1_GetVlq.l1 k x0 x1 x7 x8 x9 (wrap64 (x10 + 1)))) else (none)) else (none)) else (none)) else (none))) else (if x9 < 0 then (some (0, 0, false)) else (if 0 ≤ (IntKind.u64.wrap (wrap64 (5 * (wrap64 (x8 - x1))))) then (if x9 < 32 then (if (Go.bits .and .i64 (Go.bits .or .i64 x7 (shl .i64 (Go.bits .and .i64 x9 31) (IntKind.u64.wrap (wrap64 (5 * (wrap64 (x8 - x1))))))) 1) = 1 then ((abridgerref1_PutVlq.f k (⟨#[]⟩ : ByteArray) (wrap64 (-((Go.bits .or .i64 x7 (shl .i64 (Go.bits .and .i64 x9 31) (IntKind.u64.wrap (wrap64 (5 * (wrap64 (x8 - x1))))))) / 2)))).bind fun t112 => (if 0 ≤ x1 then (if x1 ≤ (wrap64 (x8 + 1)) then (if (wrap64 (x8 + 1)) ≤ (x0.size : Int) then (if t112.toList = (x0.extract (x1 : Int).toNat ((wrap64 (x8 + 1)) : Int).toNat).toList then (some (wrap64 (-((Go.bits .or .i64 x7 (shl .i64 (Go.bits .and .i64 x9 31) (IntKind.u64.wrap (wrap64 (5 * (wrap64 (x8 - x1))))))) / 2)), wrap64 (x8 + 1), true)) else (some (0, 0, false))) else (none)) else (none)) else (none))) else ((abridgerref1_PutVlq.f k (⟨#[]⟩ : ByteArray) ((Go.bits .or .i64 x7 (shl .i64 (Go.bits .and .i64 x9 31) (IntKind.u64.wrap (wrap64 (5 * (wrap64 (x8 - x1))))))) / 2)).bind fun t113 => (if 0 ≤ x1 then (if x1 ≤ (wrap64 (x8 + 1)) then (if (wrap64 (x8 + 1)) ≤ (x0.size : Int) then (if t113.toList = (x0.extract (x1 : Int).toNat ((wrap64 (x8 + 1)) : Int).toNat).toList then (some ((Go.bits .or .i64 x7 (shl .i64 (Go.bits .and .i64 x9 31) (IntKind.u64.wrap (wrap64 (5 * (wrap64 (x8 - x1))))))) / 2, wrap64 (x8 + 1), true)) else (some (0, 0, false))) else (none)) else (none)) else (none)))) else (abridgerref1_GetVlq.l0 k x0 x1 (Go.bits .or .i64 x7 (shl .i64 (Go.bits .and .i64 x9 31) (IntKind.u64.wrap (wrap64 (5 * (wrap64 (x8 - x1))))))) (wrap64 (x8 + 1)))) else (none)))
end
def abridgerref1_GetVlq.f (k : Nat) (a0 : ByteArray) (a1 : Int) : Option (Int × Int × Bool) := if a1 < 0 then (some (0, 0, false)) else (abridgerref1_GetVlq.l0 k a0 a1 0 a1)
theorem abridgerref1_GetVlq.mono_l : ∀ k, (∀ y0 y1 y2 y3, LeO (abridgerref1_GetVlq.l0 k y0 y1 y2 y3) (abridgerref1_GetVlq.l0 (k + 1) y0 y1 y2 y3)) ∧ (∀ y0 y1 y2 y3 y4, LeO (abridgerref1_GetVlq.j1 k y0 y1 y2 y3 y4) (abridgerref1_GetVlq.j1 (k + 1) y0 y1 y2 y3 y4)) ∧ (∀ y0 y1 y2 y3 y4 y5, LeO (abridgerref1_GetVlq.l1 k y0 y1 y2 y3 y4 y5) (abridgerref1_GetVlq.l1 (k + 1) y0 y1 y2 y3 y4 y5))
  | 0 => ⟨fun _ _ _ _ r h => by simp [abridgerref1_GetVlq.l0] at h, fun _ _ _ _ _ r h => by simp [abridgerref1_GetVlq.j1] at h, fun _ _ _ _ _ _ r h => by simp [abridgerref1_GetVlq.l1] at h⟩
  | k + 1 => by
    obtain ⟨ih0, ih1, ih2⟩ := abridgerref1_GetVlq.mono_l k
    refine ⟨?_, ?_, ?_⟩
    · intro y0 y1 y2 y3
      unfold abridgerref1_GetVlq.l0
      repeat' first
      | (with_reducible exact ih0 _ _ _ _)
      | (with_reducible exact ih1 _ _ _ _ _)
      | (with_reducible exact ih2 _ _ _ _ _ _)
      | (with_reducible exact abridgerref1_PutVlq.mono _ _ _)
      | (with_reducible exact LeO.refl _)
      | (with_reducible exact LeO.none _)
      | (with_reducible refine LeO.ite ?_ ?_)
      | (with_reducible refine LeO.bind ?_ (fun _ => ?_))
      | exact ih0 _ _ _ _
      | exact ih1 _ _ _ _ _
      | exact ih2 _ _ _ _ _ _
      | exact abridgerref1_PutVlq.mono _ _ _
      | exact LeO.none _
      | refine LeO.ite ?_ ?_
      | refine LeO.bind ?_ (fun _ => ?_)
    · intro y0 y1 y2 y3 y4
      unfold abridgerref1_GetVlq.j1
      repeat' first
      | (with_reducible exact ih0 _ _ _ _)
      | (with_reducible exact ih1 _ _ _ _ _)
      | (with_reducible exact ih2 _ _ _ _ _ _)
      | (with_reducible exact abridgerref1_PutVlq.mono _ _ _)
      | (with_reducible exact LeO.refl _)
      | (with_reducible exact LeO.none _)
      | (with_reducible refine LeO.ite ?_ ?_)
      | (with_reducible refine LeO.bind ?_ (fun _ => ?_))
      | exact ih0 _ _ _ _
      | exact ih1 _ _ _ _ _
      | exact ih2 _ _ _ _ _ _
      | exact abridgerref1_PutVlq.mono _ _ _
      | exact LeO.none _
      | refine LeO.ite ?_ ?_
      | refine LeO.bind ?_ (fun _ => ?_)
    · intro y0 y1 y2 y3 y4 y5
      unfold abridgerref1_GetVlq.l1
      repeat' first
      | (with_reducible exact ih0 _ _ _ _)
      | (with_reducible exact ih1 _ _ _ _ _)
      | (with_reducible exact ih2 _ _ _ _ _ _)
      | (with_reducible exact abridgerref1_PutVlq.mono _ _ _)
      | (with_reducible exact LeO.refl _)
      | (with_reducible exact LeO.none _)
      | (with_reducible refine LeO.ite ?_ ?_)
      | (with_reducible refine LeO.bind ?_ (fun _ => ?_))
      | exact ih0 _ _ _ _
      | exact ih1 _ _ _ _ _
      | exact ih2 _ _ _ _ _ _
      | exact abridgerref1_PutVlq.mono _ _ _
      | exact LeO.none _
      | refine LeO.ite ?_ ?_
      | refine LeO.bind ?_ (fun _ => ?_)
theorem abridgerref1_GetVlq.mono : ∀ a0 a1 k, LeO (abridgerref1_GetVlq.f k a0 a1) (abridgerref1_GetVlq.f (k + 1) a0 a1) := by
  intro a0 a1 k
  obtain ⟨ih0, ih1, ih2⟩ := abridgerref1_GetVlq.mono_l k
  unfold abridgerref1_GetVlq.f
  repeat' first
      | (with_reducible exact ih0 _ _ _ _)
      | (with_reducible exact ih1 _ _ _ _ _)
      | (with_reducible exact ih2 _ _ _ _ _ _)
      | (with_reducible exact abridgerref1_PutVlq.mono _ _ _)
      | (with_reducible exact LeO.refl _)
      | (with_reducible exact LeO.none _)
      | (with_reducible refine LeO.ite ?_ ?_)
      | (with_reducible refine LeO.bind ?_ (fun _ => ?_))
      | exact ih0 _ _ _ _
      | exact ih1 _ _ _ _ _
      | exact ih2 _ _ _ _ _ _
      | exact abridgerref1_PutVlq.mono _ _ _
      | exact LeO.none _
      | refine LeO.ite ?_ ?_
      | refine LeO.bind ?_ (fun _ => ?_)
set_option maxHeartbeats 8000000 in
set_option maxRecDepth 100000 in
theorem abridgerref1_GetVlq.calls (k : Nat) (a0 : ByteArray) (a1 : Int) (r1 : Int) (r2 : Int) (r3 : Bool) (w : World) (h : abridgerref1_GetVlq.f k a0 a1 = some (r1, r2, r3)) :
    Calls Try.prog 11 #[.string a0, .int .i64 a1] w fun e w' => e = .returned (.tuple #[.int .i64 r1, .int .i64 r2, .bool r3]) ∧ Drawn0 w w' := by
  have H : (if a1 < 0 then (some (0, 0, false)) else (abridgerref1_GetVlq.l0 k a0 a1 0 a1)) = some (r1, r2, r3) := h
  clear h
  by_cases c3 : a1 < 0
  · rw [if_pos c3] at H
    have c3b0 : decide (a1 < 0) = true := decide_eq_true c3
    clear c3
    simp only [Option.some.injEq, Prod.mk.injEq] at H
    obtain ⟨rfl, rfl, rfl⟩ := H
    go_enter Try.func11, Try.ntmps11
    go_wp2
    repeat (go_quiet (fail); try go_wp2)
    go_ret3
    exact ⟨by first | rfl | (simp; done) | (simp [*]; done), by repeat (first | exact Drawn0.refl _ | apply Drawn0.step)⟩
  · rw [if_neg c3] at H
    have c3b0 : decide (a1 < 0) = false := decide_eq_false c3
    clear c3
    have H' := Aside0.mk H
    clear H
    go_enter Try.func11, Try.ntmps11
    go_wp2
    repeat (go_quiet (fail); try go_wp2)
    go_loopg [7, 8] k (fun kq v7 v8 w' => ∃ (x7_1 : Int) (x8_1 : Int), v7 = .int .i64 x7_1 ∧ v8 = .int .i64 x8_1 ∧ Aside0 (abridgerref1_GetVlq.l0 kq a0 a1 x7_1 x8_1 = some (r1, r2, r3)) ∧ Aside0 (kq ≤ k) ∧ Drawn0 w w')
    case atStart => exact ⟨(0), (a1), (by first | rfl | (simp; done) | (simp [*]; done)), (by first | rfl | (simp; done) | (simp [*]; done)), H', ⟨Nat.le_refl _⟩, by repeat (first | exact Drawn0.refl _ | apply Drawn0.step)⟩
    case round =>
      clear H'
      try clear c1
      try clear p2
      try clear c3
      try clear c3b0
      obtain ⟨x7_1, x8_1, rfl, rfl, HA, HK1, ⟨m1, rfl⟩⟩ := hrel
      cases gk with
      | zero => exact absurd HA.out (by simp [abridgerref1_GetVlq.l0])
      | succ k1 =>
        have H := HA.out
        clear HA
        simp only [abridgerref1_GetVlq.l0] at H
        have HC4 := Aside0.mk H
        clear H
        go_upto_region 5 with (fail)
        repeat (go_quiet (fail); go_upto_region 5 with (fail))
        go_cut [24] (fun v24 wc => ∃ (kq : Nat) (x24_3 : Bool), v24 = .bool x24_3 ∧ Aside0 (abridgerref1_GetVlq.j1 kq a0 a1 x7_1 x8_1 x24_3 = some (r1, r2, r3)) ∧ Aside0 (kq ≤ k1) ∧ Drawn0 w wc)
        case first =>
          have H := HC4.out
          clear HC4
          by_cases c5 : x8_1 < (a0.size : Int)
          · rw [if_pos c5] at H
            have c5b0 : decide (x8_1 < (a0.size : Int)) = true := decide_eq_true c5
            clear c5
            (first | rw [c5b0] | (simp only [i64_w, i32_w]; rw [c5b0]) | skip)
            have H' := Aside0.mk H
            clear H
            go_wp2
            repeat (go_quiet (fail); try go_wp2)
            go_meet
            case rel => exact ⟨_, (decide (x8_1 < (wrap64 (a1 + 9)))), (by first | rfl | (simp; done) | (simp [*]; done)), H', ⟨by have := HK1.out; first | omega | exact Nat.le_refl _⟩, by repeat (first | exact Drawn0.refl _ | apply Drawn0.step)⟩
          · rw [if_neg c5] at H
            have c5b0 : decide (x8_1 < (a0.size : Int)) = false := decide_eq_false c5
            clear c5
            (first | rw [c5b0] | (simp only [i64_w, i32_w]; rw [c5b0]) | skip)
            have H' := Aside0.mk H
            clear H
            go_wp2
            repeat (go_quiet (fail); try go_wp2)
            go_meet
            case rel => exact ⟨_, (false), (by first | rfl | (simp; done) | (simp [*]; done)), H', ⟨by have := HK1.out; first | omega | exact Nat.le_refl _⟩, by repeat (first | exact Drawn0.refl _ | apply Drawn0.step)⟩
        case rest =>
          clear HC4
          try clear c1
          try clear p2
          try clear c3
          try clear c3b0
          try clear c5
          try clear c5b0
          try clear p2
          obtain ⟨kq, x24_3, rfl, HA, HJ3, ⟨mc3, rfl⟩⟩ := hcut
          cases kq with
          | zero => exact absurd HA.out (by simp [abridgerref1_GetVlq.j1])
          | succ kj3 =>
            have H := HA.out
            clear HA
            simp only [abridgerref1_GetVlq.j1] at H
            by_cases c6 : x24_3 = true
            · subst c6
              have H1 : (abridgerref1_GetVlq.l1 kj3 a0 a1 x7_1 x8_1 (-1) 0) = some (r1, r2, r3) := by rw [if_pos rfl] at H; exact H
              clear H
              have H := H1
              clear H1
              have H' := Aside0.mk H
              clear H
              go_wp2
              repeat (go_quiet (fail); try go_wp2)
              go_loopg [9, 10] kj3 (fun kq v9 v10 w' => ∃ (x9_3 : Int) (x10_3 : Int), v9 = .int .i64 x9_3 ∧ v10 = .int .i64 x10_3 ∧ Aside0 (abridgerref1_GetVlq.l1 kq a0 a1 x7_1 x8_1 x9_3 x10_3 = some (r1, r2, r3)) ∧ Aside0 (kq ≤ kj3) ∧ Drawn0 w w')
              case atStart => exact ⟨((-1)), (0), (by first | rfl | (simp; done) | (simp [*]; done)), (by first | rfl | (simp; done) | (simp [*]; done)), H', ⟨Nat.le_refl _⟩, by repeat (first | exact Drawn0.refl _ | apply Drawn0.step)⟩
              case round =>
                clear H'
                try clear c1
                try clear p2
                try clear c3
                try clear c3b0
                try clear c5
                try clear c5b0
                try clear c6
                try clear p6
                try clear p2
                obtain ⟨x9_3, x10_3, rfl, rfl, HA, HK3, ⟨m3, rfl⟩⟩ := hrel
                cases gk with
                | zero => exact absurd HA.out (by simp [abridgerref1_GetVlq.l1])
                | succ k3 =>
                  have H := HA.out
                  clear HA
                  simp only [abridgerref1_GetVlq.l1] at H
                  by_cases c7 : x10_3 < 64
                  · rw [if_pos c7] at H
                    have c7b0 : decide (x10_3 < 64) = true := decide_eq_true c7
                    clear c7
                    replace H := Option.bind_eq_some_iff.mp H
                    obtain ⟨t111, A80, H⟩ := H
                    replace H : (if 0 ≤ x10_3 then (if x10_3 < (t111.size : Int) then (if 0 ≤ x8_1 then (if x8_1 < (a0.size : Int) then (if (bt t111 x10_3) = (bt a0 x8_1) then (abridgerref1_GetVlq.l1 k3 a0 a1 x7_1 x8_1 x10_3 (wrap64 (x10_3 + 1))) else (abridgerref1_GetVlq.l1 k3 a0 a1 x7_1 x8_1 x9_3 (wrap64 (x10_3 + 1)))) else (none)) else (none)) else (none)) else (none)) = some (r1, r2, r3) := H
                    have A8 := Aside0.mk A80
                    clear A80
                    by_cases c9 : 0 ≤ x10_3
                    · rw [if_pos c9] at H
                      have c9b0 : decide (0 ≤ x10_3) = true := decide_eq_true c9
                      clear c9
                      by_cases c10 : x10_3 < (t111.size : Int)
                      · rw [if_pos c10] at H
                        have c10b0 : decide (x10_3 < (t111.size : Int)) = true := decide_eq_true c10
                        clear c10
                        by_cases c12 : 0 ≤ x8_1
                        · rw [if_pos c12] at H
                          have c12b0 : decide (0 ≤ x8_1) = true := decide_eq_true c12
                          clear c12
                          by_cases c13 : x8_1 < (a0.size : Int)
                          · rw [if_pos c13] at H
                            have c13b0 : decide (x8_1 < (a0.size : Int)) = true := decide_eq_true c13
                            clear c13
                            by_cases c15 : (bt t111 x10_3) = (bt a0 x8_1)
                            · rw [if_pos c15] at H
                              have c15b0 : ((bt t111 x10_3) == (bt a0 x8_1)) = true := beq_iff_eq.mpr c15
                              have c15b1 : ((bt t111 x10_3) != (bt a0 x8_1)) = false := bne_eq_false_iff_eq.mpr c15
                              clear c15
                              have H' := Aside0.mk H
                              clear H
                              go_wp2_with (first | (go_at_call 19; (with_reducible refine (abridgerref1_letters.calls  t111 _ A8.out).mono ?_); rintro e w' ⟨rfl, ⟨nd, rfl⟩⟩; (try first | exact ⟨rfl, _, World.drewN_drewN _ _ _⟩ | exact ⟨rfl, _, Eq.trans (World.drewN_drewN _ _ _) (congrArg (World.drewN _) (Nat.add_assoc _ _ _))⟩); have p11 : 0 ≤ (x10_3 : Int) := of_decide_eq_true (by first | (with_reducible assumption) | assumption); have q11 : x10_3 < (t111.size : Int) := of_decide_eq_true (by first | (with_reducible assumption) | assumption); have hx11 := bt_at t111 x10_3; replace p11 := eq_true p11; replace q11 := eq_true q11; have p14 : 0 ≤ (x8_1 : Int) := of_decide_eq_true (by first | (with_reducible assumption) | assumption); have q14 : x8_1 < (a0.size : Int) := of_decide_eq_true (by first | (with_reducible assumption) | assumption); have hx14 := bt_at a0 x8_1; replace p14 := eq_true p14; replace q14 := eq_true q14))
                              repeat (go_quiet (first | (go_at_call 19; (with_reducible refine (abridgerref1_letters.calls  t111 _ A8.out).mono ?_); rintro e w' ⟨rfl, ⟨nd, rfl⟩⟩; (try first | exact ⟨rfl, _, World.drewN_drewN _ _ _⟩ | exact ⟨rfl, _, Eq.trans (World.drewN_drewN _ _ _) (congrArg (World.drewN _) (Nat.add_assoc _ _ _))⟩); have p11 : 0 ≤ (x10_3 : Int) := of_decide_eq_true (by first | (with_reducible assumption) | assumption); have q11 : x10_3 < (t111.size : Int) := of_decide_eq_true (by first | (with_reducible assumption) | assumption); have hx11 := bt_at t111 x10_3; replace p11 := eq_true p11; replace q11 := eq_true q11; have p14 : 0 ≤ (x8_1 : Int) := of_decide_eq_true (by first | (with_reducible assumption) | assumption); have q14 : x8_1 < (a0.size : Int) := of_decide_eq_true (by first | (with_reducible assumption) | assumption); have hx14 := bt_at a0 x8_1; replace p14 := eq_true p14; replace q14 := eq_true q14)); try go_wp2_with (first | (go_at_call 19; (with_reducible refine (abridgerref1_letters.calls  t111 _ A8.out).mono ?_); rintro e w' ⟨rfl, ⟨nd, rfl⟩⟩; (try first | exact ⟨rfl, _, World.drewN_drewN _ _ _⟩ | exact ⟨rfl, _, Eq.trans (World.drewN_drewN _ _ _) (congrArg (World.drewN _) (Nat.add_assoc _ _ _))⟩); have p11 : 0 ≤ (x10_3 : Int) := of_decide_eq_true (by first | (with_reducible assumption) | assumption); have q11 : x10_3 < (t111.size : Int) := of_decide_eq_true (by first | (with_reducible assumption) | assumption); have hx11 := bt_at t111 x10_3; replace p11 := eq_true p11; replace q11 := eq_true q11; have p14 : 0 ≤ (x8_1 : Int) := of_decide_eq_true (by first | (with_reducible assumption) | assumption); have q14 : x8_1 < (a0.size : Int) := of_decide_eq_true (by first | (with_reducible assumption) | assumption); have hx14 := bt_at a0 x8_1; replace p14 := eq_true p14; replace q14 := eq_true q14)))
                              go_roundg k3
                              case measure => have := HK1.out; have := HJ3.out; have := HK3.out; omega
                              case rel => exact ⟨(x10_3), (wrap64 (x10_3 + 1)), (by first | rfl | (simp; done) | (simp [*]; done)), (by first | rfl | (simp; done) | (simp [*]; done)), H', ⟨by have := HK1.out; have := HJ3.out; have := HK3.out; omega⟩, by repeat (first | exact Drawn0.refl _ | apply Drawn0.step)⟩
                            · rw [if_neg c15] at H
                              have c15b0 : ((bt t111 x10_3) == (bt a0 x8_1)) = false := beq_eq_false_iff_ne.mpr c15
                              have c15b1 : ((bt t111 x10_3) != (bt a0 x8_1)) = true := bne_iff_ne.mpr c15
                              have H' := Aside0.mk H
                              clear H
                              go_wp2_with (first | (go_at_call 19; (with_reducible refine (abridgerref1_letters.calls  t111 _ A8.out).mono ?_); rintro e w' ⟨rfl, ⟨nd, rfl⟩⟩; (try first | exact ⟨rfl, _, World.drewN_drewN _ _ _⟩ | exact ⟨rfl, _, Eq.trans (World.drewN_drewN _ _ _) (congrArg (World.drewN _) (Nat.add_assoc _ _ _))⟩); have p11 : 0 ≤ (x10_3 : Int) := of_decide_eq_true (by first | (with_reducible assumption) | assumption); have q11 : x10_3 < (t111.size : Int) := of_decide_eq_true (by first | (with_reducible assumption) | assumption); have hx11 := bt_at t111 x10_3; replace p11 := eq_true p11; replace q11 := eq_true q11; have p14 : 0 ≤ (x8_1 : Int) := of_decide_eq_true (by first | (with_reducible assumption) | assumption); have q14 : x8_1 < (a0.size : Int) := of_decide_eq_true (by first | (with_reducible assumption) | assumption); have hx14 := bt_at a0 x8_1; replace p14 := eq_true p14; replace q14 := eq_true q14))
                              repeat (go_quiet (first | (go_at_call 19; (with_reducible refine (abridgerref1_letters.calls  t111 _ A8.out).mono ?_); rintro e w' ⟨rfl, ⟨nd, rfl⟩⟩; (try first | exact ⟨rfl, _, World.drewN_drewN _ _ _⟩ | exact ⟨rfl, _, Eq.trans (World.drewN_drewN _ _ _) (congrArg (World.drewN _) (Nat.add_assoc _ _ _))⟩); have p11 : 0 ≤ (x10_3 : Int) := of_decide_eq_true (by first | (with_reducible assumption) | assumption); have q11 : x10_3 < (t111.size : Int) := of_decide_eq_true (by first | (with_reducible assumption) | assumption); have hx11 := bt_at t111 x10_3; replace p11 := eq_true p11; replace q11 := eq_true q11; have p14 : 0 ≤ (x8_1 : Int) := of_decide_eq_true (by first | (with_reducible assumption) | assumption); have q14 : x8_1 < (a0.size : Int) := of_decide_eq_true (by first | (with_reducible assumption) | assumption); have hx14 := bt_at a0 x8_1; replace p14 := eq_true p14; replace q14 := eq_true q14)); try go_wp2_with (first | (go_at_call 19; (with_reducible refine (abridgerref1_letters.calls  t111 _ A8.out).mono ?_); rintro e w' ⟨rfl, ⟨nd, rfl⟩⟩; (try first | exact ⟨rfl, _, World.drewN_drewN _ _ _⟩ | exact ⟨rfl, _, Eq.trans (World.drewN_drewN _ _ _) (congrArg (World.drewN _) (Nat.add_assoc _ _ _))⟩); have p11 : 0 ≤ (x10_3 : Int) := of_decide_eq_true (by first | (with_reducible assumption) | assumption); have q11 : x10_3 < (t111.size : Int) := of_decide_eq_true (by first | (with_reducible assumption) | assumption); have hx11 := bt_at t111 x10_3; replace p11 := eq_true p11; replace q11 := eq_true q11; have p14 : 0 ≤ (x8_1 : Int) := of_decide_eq_true (by first | (with_reducible assumption) | assumption); have q14 : x8_1 < (a0.size : Int) := of_decide_eq_true (by first | (with_reducible assumption) | assumption); have hx14 := bt_at a0 x8_1; replace p14 := eq_true p14; replace q14 := eq_true q14)))
                              go_roundg k3
                              case measure => have := HK1.out; have := HJ3.out; have := HK3.out; omega
                              case rel => exact ⟨(x9_3), (wrap64 (x10_3 + 1)), (by first | rfl | (simp; done) | (simp [*]; done)), (by first | rfl | (simp; done) | (simp [*]; done)), H', ⟨by have := HK1.out; have := HJ3.out; have := HK3.out; omega⟩, by repeat (first | exact Drawn0.refl _ | apply Drawn0.step)⟩
                          · rw [if_neg c13] at H
                            exact absurd H (by simp)
                        · rw [if_neg c12] at H
                          exact absurd H (by simp)
                      · rw [if_neg c10] at H
                        exact absurd H (by simp)
                    · rw [if_neg c9] at H
                      exact absurd H (by simp)
                  · rw [if_neg c7] at H
                    have c7b0 : decide (x10_3 < 64) = false := decide_eq_false c7
                    clear c7
                    by_cases c16 : x9_3 < 0
                    · rw [if_pos c16] at H
                      have c16b0 : decide (x9_3 < 0) = true := decide_eq_true c16
                      clear c16
                      simp only [Option.some.injEq, Prod.mk.injEq] at H
                      obtain ⟨rfl, rfl, rfl⟩ := H
                      go_wp2
                      repeat (go_quiet (fail); try go_wp2)
                      go_ret3
                      exact ⟨by first | rfl | (simp; done) | (simp [*]; done), by repeat (first | exact Drawn0.refl _ | apply Drawn0.step)⟩
                    · rw [if_neg c16] at H
                      have c16b0 : decide (x9_3 < 0) = false := decide_eq_false c16
                      clear c16
                      obtain ⟨ji17, hji17⟩ : ∃ j_ : Int, (IntKind.u64.wrap (wrap64 (5 * (wrap64 (x8_1 - a1))))) = j_ := ⟨_, rfl⟩
                      replace H : (if 0 ≤ (ji17) then (if x9_3 < 32 then (if (Go.bits .and .i64 (Go.bits .or .i64 x7_1 (shl .i64 (Go.bits .and .i64 x9_3 31) (ji17))) 1) = 1 then ((abridgerref1_PutVlq.f k3 (⟨#[]⟩ : ByteArray) (wrap64 (-((Go.bits .or .i64 x7_1 (shl .i64 (Go.bits .and .i64 x9_3 31) (ji17))) / 2)))).bind fun t112 => (if 0 ≤ a1 then (if a1 ≤ (wrap64 (x8_1 + 1)) then (if (wrap64 (x8_1 + 1)) ≤ (a0.size : Int) then (if t112.toList = (a0.extract (a1 : Int).toNat ((wrap64 (x8_1 + 1)) : Int).toNat).toList then (some (wrap64 (-((Go.bits .or .i64 x7_1 (shl .i64 (Go.bits .and .i64 x9_3 31) (ji17))) / 2)), wrap64 (x8_1 + 1), true)) else (some (0, 0, false))) else (none)) else (none)) else (none))) else ((abridgerref1_PutVlq.f k3 (⟨#[]⟩ : ByteArray) ((Go.bits .or .i64 x7_1 (shl .i64 (Go.bits .and .i64 x9_3 31) (ji17))) / 2)).bind fun t113 => (if 0 ≤ a1 then (if a1 ≤ (wrap64 (x8_1 + 1)) then (if (wrap64 (x8_1 + 1)) ≤ (a0.size : Int) then (if t113.toList = (a0.extract (a1 : Int).toNat ((wrap64 (x8_1 + 1)) : Int).toNat).toList then (some ((Go.bits .or .i64 x7_1 (shl .i64 (Go.bits .and .i64 x9_3 31) (ji17))) / 2, wrap64 (x8_1 + 1), true)) else (some (0, 0, false))) else (none)) else (none)) else (none)))) else (abridgerref1_GetVlq.l0 k3 a0 a1 (Go.bits .or .i64 x7_1 (shl .i64 (Go.bits .and .i64 x9_3 31) (ji17))) (wrap64 (x8_1 + 1)))) else (none)) = some (r1, r2, r3) := by first | (rw [hji17] at H; exact H) | (simp only [hji17] at H ⊢; exact H)
                      by_cases c18 : 0 ≤ (ji17)
                      · rw [if_pos c18] at H
                        have c18b0 := eq_true c18
                        have c18b1 : decide (0 ≤ (ji17)) = true := decide_eq_true c18
                        clear c18
                        obtain ⟨ji19, hji19⟩ : ∃ j_ : Int, (shl .i64 (Go.bits .and .i64 x9_3 31) (ji17)) = j_ := ⟨_, rfl⟩
                        replace H : (if x9_3 < 32 then (if (Go.bits .and .i64 (Go.bits .or .i64 x7_1 (ji19)) 1) = 1 then ((abridgerref1_PutVlq.f k3 (⟨#[]⟩ : ByteArray) (wrap64 (-((Go.bits .or .i64 x7_1 (ji19)) / 2)))).bind fun t112 => (if 0 ≤ a1 then (if a1 ≤ (wrap64 (x8_1 + 1)) then (if (wrap64 (x8_1 + 1)) ≤ (a0.size : Int) then (if t112.toList = (a0.extract (a1 : Int).toNat ((wrap64 (x8_1 + 1)) : Int).toNat).toList then (some (wrap64 (-((Go.bits .or .i64 x7_1 (ji19)) / 2)), wrap64 (x8_1 + 1), true)) else (some (0, 0, false))) else (none)) else (none)) else (none))) else ((abridgerref1_PutVlq.f k3 (⟨#[]⟩ : ByteArray) ((Go.bits .or .i64 x7_1 (ji19)) / 2)).bind fun t113 => (if 0 ≤ a1 then (if a1 ≤ (wrap64 (x8_1 + 1)) then (if (wrap64 (x8_1 + 1)) ≤ (a0.size : Int) then (if t113.toList = (a0.extract (a1 : Int).toNat ((wrap64 (x8_1 + 1)) : Int).toNat).toList then (some ((Go.bits .or .i64 x7_1 (ji19)) / 2, wrap64 (x8_1 + 1), true)) else (some (0, 0, false))) else (none)) else (none)) else (none)))) else (abridgerref1_GetVlq.l0 k3 a0 a1 (Go.bits .or .i64 x7_1 (ji19)) (wrap64 (x8_1 + 1)))) = some (r1, r2, r3) := by first | (rw [hji19] at H; exact H) | (simp only [hji19] at H ⊢; exact H)
                        have hji19_ : (IntKind.i64.wrap ((Go.bits .and .i64 x9_3 31) * 2 ^ min (ji17).toNat 64)) = ji19 := hji19
                        have hji19z : (ji17) ≤ 64 → (IntKind.i64.wrap ((Go.bits .and .i64 x9_3 31) * 2 ^ (ji17).toNat)) = ji19 := shl_small hji19
                        have hji19y : (wrap64 ((Go.bits .and .i64 x9_3 31) * 2 ^ min (ji17).toNat 64)) = ji19 := (i64_w _).symm.trans hji19_
                        have hji19x : (ji17) ≤ 64 → (wrap64 ((Go.bits .and .i64 x9_3 31) * 2 ^ (ji17).toNat)) = ji19 := fun h_ => (i64_w _).symm.trans (hji19z h_)
                        by_cases c20 : x9_3 < 32
                        · rw [if_pos c20] at H
                          have c20b0 : decide (x9_3 < 32) = true := decide_eq_true c20
                          clear c20
                          by_cases c21 : (Go.bits .and .i64 (Go.bits .or .i64 x7_1 (ji19)) 1) = 1
                          · rw [if_pos c21] at H
                            have c21b0 : ((Go.bits .and .i64 (Go.bits .or .i64 x7_1 (ji19)) 1) == 1) = true := beq_iff_eq.mpr c21
                            have c21b1 : ((Go.bits .and .i64 (Go.bits .or .i64 x7_1 (ji19)) 1) != 1) = false := bne_eq_false_iff_eq.mpr c21
                            clear c21
                            replace H := Option.bind_eq_some_iff.mp H
                            obtain ⟨t112, A220, H⟩ := H
                            replace H : (if 0 ≤ a1 then (if a1 ≤ (wrap64 (x8_1 + 1)) then (if (wrap64 (x8_1 + 1)) ≤ (a0.size : Int) then (if t112.toList = (a0.extract (a1 : Int).toNat ((wrap64 (x8_1 + 1)) : Int).toNat).toList then (some (wrap64 (-((Go.bits .or .i64 x7_1 (ji19)) / 2)), wrap64 (x8_1 + 1), true)) else (some (0, 0, false))) else (none)) else (none)) else (none)) = some (r1, r2, r3) := H
                            have A22 := Aside0.mk A220
                            clear A220
                            by_cases c23 : 0 ≤ a1
                            · rw [if_pos c23] at H
                              have c23b0 := eq_true c23
                              have c23b1 : decide (0 ≤ a1) = true := decide_eq_true c23
                              clear c23
                              by_cases c24 : a1 ≤ (wrap64 (x8_1 + 1))
                              · rw [if_pos c24] at H
                                have c24b0 := eq_true c24
                                have c24b1 : decide (a1 ≤ (wrap64 (x8_1 + 1))) = true := decide_eq_true c24
                                by_cases c25 : (wrap64 (x8_1 + 1)) ≤ (a0.size : Int)
                                · rw [if_pos c25] at H
                                  have c25b0 := eq_true c25
                                  have c25b1 : decide ((wrap64 (x8_1 + 1)) ≤ (a0.size : Int)) = true := decide_eq_true c25
                                  by_cases c26 : t112.toList = (a0.extract (a1 : Int).toNat ((wrap64 (x8_1 + 1)) : Int).toNat).toList
                                  · rw [if_pos c26] at H
                                    have c26b0 : (t112.toList == (a0.extract (a1 : Int).toNat ((wrap64 (x8_1 + 1)) : Int).toNat).toList) = true := beq_iff_eq.mpr c26
                                    have c26b1 : (t112.toList != (a0.extract (a1 : Int).toNat ((wrap64 (x8_1 + 1)) : Int).toNat).toList) = false := bne_eq_false_iff_eq.mpr c26
                                    clear c26
                                    simp only [Option.some.injEq, Prod.mk.injEq] at H
                                    obtain ⟨rfl, rfl, rfl⟩ := H
                                    go_wp2_with (first | (go_at_call 13; (with_reducible refine (abridgerref1_PutVlq.calls k3 (⟨#[]⟩ : ByteArray) (wrap64 (-((Go.bits .or .i64 x7_1 (ji19)) / 2))) t112 _ A22.out).mono ?_); rintro e w' ⟨rfl, ⟨nd, rfl⟩⟩; (try first | exact ⟨rfl, _, World.drewN_drewN _ _ _⟩ | exact ⟨rfl, _, Eq.trans (World.drewN_drewN _ _ _) (congrArg (World.drewN _) (Nat.add_assoc _ _ _))⟩)))
                                    repeat (go_quiet (first | (go_at_call 13; (with_reducible refine (abridgerref1_PutVlq.calls k3 (⟨#[]⟩ : ByteArray) (wrap64 (-((Go.bits .or .i64 x7_1 (ji19)) / 2))) t112 _ A22.out).mono ?_); rintro e w' ⟨rfl, ⟨nd, rfl⟩⟩; (try first | exact ⟨rfl, _, World.drewN_drewN _ _ _⟩ | exact ⟨rfl, _, Eq.trans (World.drewN_drewN _ _ _) (congrArg (World.drewN _) (Nat.add_assoc _ _ _))⟩))); try go_wp2_with (first | (go_at_call 13; (with_reducible refine (abridgerref1_PutVlq.calls k3 (⟨#[]⟩ : ByteArray) (wrap64 (-((Go.bits .or .i64 x7_1 (ji19)) / 2))) t112 _ A22.out).mono ?_); rintro e w' ⟨rfl, ⟨nd, rfl⟩⟩; (try first | exact ⟨rfl, _, World.drewN_drewN _ _ _⟩ | exact ⟨rfl, _, Eq.trans (World.drewN_drewN _ _ _) (congrArg (World.drewN _) (Nat.add_assoc _ _ _))⟩))))
                                    go_ret3
                                    exact ⟨by first | rfl | (simp; done) | (simp only [← hji17, ← hji19] <;> (first | rfl | simp)) | (simp [*]; done), by repeat (first | exact Drawn0.refl _ | apply Drawn0.step)⟩
                                  · rw [if_neg c26] at H
                                    have c26b0 : (t112.toList == (a0.extract (a1 : Int).toNat ((wrap64 (x8_1 + 1)) : Int).toNat).toList) = false := beq_eq_false_iff_ne.mpr c26
                                    have c26b1 : (t112.toList != (a0.extract (a1 : Int).toNat ((wrap64 (x8_1 + 1)) : Int).toNat).toList) = true := bne_iff_ne.mpr c26
                                    simp only [Option.some.injEq, Prod.mk.injEq] at H
                                    obtain ⟨rfl, rfl, rfl⟩ := H
                                    go_wp2_with (first | (go_at_call 13; (with_reducible refine (abridgerref1_PutVlq.calls k3 (⟨#[]⟩ : ByteArray) (wrap64 (-((Go.bits .or .i64 x7_1 (ji19)) / 2))) t112 _ A22.out).mono ?_); rintro e w' ⟨rfl, ⟨nd, rfl⟩⟩; (try first | exact ⟨rfl, _, World.drewN_drewN _ _ _⟩ | exact ⟨rfl, _, Eq.trans (World.drewN_drewN _ _ _) (congrArg (World.drewN _) (Nat.add_assoc _ _ _))⟩)))
                                    repeat (go_quiet (first | (go_at_call 13; (with_reducible refine (abridgerref1_PutVlq.calls k3 (⟨#[]⟩ : ByteArray) (wrap64 (-((Go.bits .or .i64 x7_1 (ji19)) / 2))) t112 _ A22.out).mono ?_); rintro e w' ⟨rfl, ⟨nd, rfl⟩⟩; (try first | exact ⟨rfl, _, World.drewN_drewN _ _ _⟩ | exact ⟨rfl, _, Eq.trans (World.drewN_drewN _ _ _) (congrArg (World.drewN _) (Nat.add_assoc _ _ _))⟩))); try go_wp2_with (first | (go_at_call 13; (with_reducible refine (abridgerref1_PutVlq.calls k3 (⟨#[]⟩ : ByteArray) (wrap64 (-((Go.bits .or .i64 x7_1 (ji19)) / 2))) t112 _ A22.out).mono ?_); rintro e w' ⟨rfl, ⟨nd, rfl⟩⟩; (try first | exact ⟨rfl, _, World.drewN_drewN _ _ _⟩ | exact ⟨rfl, _, Eq.trans (World.drewN_drewN _ _ _) (congrArg (World.drewN _) (Nat.add_assoc _ _ _))⟩))))
                                    go_ret3
                                    exact ⟨by first | rfl | (simp; done) | (simp only [← hji17, ← hji19] <;> (first | rfl | simp)) | (simp [*]; done), by repeat (first | exact Drawn0.refl _ | apply Drawn0.step)⟩
                                · rw [if_neg c25] at H
                                  exact absurd H (by simp)
                              · rw [if_neg c24] at H
                                exact absurd H (by simp)
                            · rw [if_neg c23] at H
                              exact absurd H (by simp)
                          · rw [if_neg c21] at H
                            have c21b0 : ((Go.bits .and .i64 (Go.bits .or .i64 x7_1 (ji19)) 1) == 1) = false := beq_eq_false_iff_ne.mpr c21
                            have c21b1 : ((Go.bits .and .i64 (Go.bits .or .i64 x7_1 (ji19)) 1) != 1) = true := bne_iff_ne.mpr c21
                            replace H := Option.bind_eq_some_iff.mp H
                            obtain ⟨t113, A270, H⟩ := H
                            replace H : (if 0 ≤ a1 then (if a1 ≤ (wrap64 (x8_1 + 1)) then (if (wrap64 (x8_1 + 1)) ≤ (a0.size : Int) then (if t113.toList = (a0.extract (a1 : Int).toNat ((wrap64 (x8_1 + 1)) : Int).toNat).toList then (some ((Go.bits .or .i64 x7_1 (ji19)) / 2, wrap64 (x8_1 + 1), true)) else (some (0, 0, false))) else (none)) else (none)) else (none)) = some (r1, r2, r3) := H
                            have A27 := Aside0.mk A270
                            clear A270
                            by_cases c28 : 0 ≤ a1
                            · rw [if_pos c28] at H
                              have c28b0 := eq_true c28
                              have c28b1 : decide (0 ≤ a1) = true := decide_eq_true c28
                              clear c28
                              by_cases c29 : a1 ≤ (wrap64 (x8_1 + 1))
                              · rw [if_pos c29] at H
                                have c29b0 := eq_true c29
                                have c29b1 : decide (a1 ≤ (wrap64 (x8_1 + 1))) = true := decide_eq_true c29
                                by_cases c30 : (wrap64 (x8_1 + 1)) ≤ (a0.size : Int)
                                · rw [if_pos c30] at H
                                  have c30b0 := eq_true c30
                                  have c30b1 : decide ((wrap64 (x8_1 + 1)) ≤ (a0.size : Int)) = true := decide_eq_true c30
                                  by_cases c31 : t113.toList = (a0.extract (a1 : Int).toNat ((wrap64 (x8_1 + 1)) : Int).toNat).toList
                                  · rw [if_pos c31] at H
                                    have c31b0 : (t113.toList == (a0.extract (a1 : Int).toNat ((wrap64 (x8_1 + 1)) : Int).toNat).toList) = true := beq_iff_eq.mpr c31
                                    have c31b1 : (t113.toList != (a0.extract (a1 : Int).toNat ((wrap64 (x8_1 + 1)) : Int).toNat).toList) = false := bne_eq_false_iff_eq.mpr c31
                                    clear c31
                                    simp only [Option.some.injEq, Prod.mk.injEq] at H
                                    obtain ⟨rfl, rfl, rfl⟩ := H
                                    go_wp2_with (first | (go_at_call 13; (with_reducible refine (abridgerref1_PutVlq.calls k3 (⟨#[]⟩ : ByteArray) ((Go.bits .or .i64 x7_1 (ji19)) / 2) t113 _ A27.out).mono ?_); rintro e w' ⟨rfl, ⟨nd, rfl⟩⟩; (try first | exact ⟨rfl, _, World.drewN_drewN _ _ _⟩ | exact ⟨rfl, _, Eq.trans (World.drewN_drewN _ _ _) (congrArg (World.drewN _) (Nat.add_assoc _ _ _))⟩)))
                                    repeat (go_quiet (first | (go_at_call 13; (with_reducible refine (abridgerref1_PutVlq.calls k3 (⟨#[]⟩ : ByteArray) ((Go.bits .or .i64 x7_1 (ji19)) / 2) t113 _ A27.out).mono ?_); rintro e w' ⟨rfl, ⟨nd, rfl⟩⟩; (try first | exact ⟨rfl, _, World.drewN_drewN _ _ _⟩ | exact ⟨rfl, _, Eq.trans (World.drewN_drewN _ _ _) (congrArg (World.drewN _) (Nat.add_assoc _ _ _))⟩))); try go_wp2_with (first | (go_at_call 13; (with_reducible refine (abridgerref1_PutVlq.calls k3 (⟨#[]⟩ : ByteArray) ((Go.bits .or .i64 x7_1 (ji19)) / 2) t113 _ A27.out).mono ?_); rintro e w' ⟨rfl, ⟨nd, rfl⟩⟩; (try first | exact ⟨rfl, _, World.drewN_drewN _ _ _⟩ | exact ⟨rfl, _, Eq.trans (World.drewN_drewN _ _ _) (congrArg (World.drewN _) (Nat.add_assoc _ _ _))⟩))))
                                    go_ret3
                                    exact ⟨by first | rfl | (simp; done) | (simp only [← hji17, ← hji19] <;> (first | rfl | simp)) | (simp [*]; done), by repeat (first | exact Drawn0.refl _ | apply Drawn0.step)⟩
                                  · rw [if_neg c31] at H
                                    have c31b0 : (t113.toList == (a0.extract (a1 : Int).toNat ((wrap64 (x8_1 + 1)) : Int).toNat).toList) = false := beq_eq_false_iff_ne.mpr c31
                                    have c31b1 : (t113.toList != (a0.extract (a1 : Int).toNat ((wrap64 (x8_1 + 1)) : Int).toNat).toList) = true := bne_iff_ne.mpr c31
                                    simp only [Option.some.injEq, Prod.mk.injEq] at H
                                    obtain ⟨rfl, rfl, rfl⟩ := H
                                    go_wp2_with (first | (go_at_call 13; (with_reducible refine (abridgerref1_PutVlq.calls k3 (⟨#[]⟩ : ByteArray) ((Go.bits .or .i64 x7_1 (ji19)) / 2) t113 _ A27.out).mono ?_); rintro e w' ⟨rfl, ⟨nd, rfl⟩⟩; (try first | exact ⟨rfl, _, World.drewN_drewN _ _ _⟩ | exact ⟨rfl, _, Eq.trans (World.drewN_drewN _ _ _) (congrArg (World.drewN _) (Nat.add_assoc _ _ _))⟩)))
                                    repeat (go_quiet (first | (go_at_call 13; (with_reducible refine (abridgerref1_PutVlq.calls k3 (⟨#[]⟩ : ByteArray) ((Go.bits .or .i64 x7_1 (ji19)) / 2) t113 _ A27.out).mono ?_); rintro e w' ⟨rfl, ⟨nd, rfl⟩⟩; (try first | exact ⟨rfl, _, World.drewN_drewN _ _ _⟩ | exact ⟨rfl, _, Eq.trans (World.drewN_drewN _ _ _) (congrArg (World.drewN _) (Nat.add_assoc _ _ _))⟩))); try go_wp2_with (first | (go_at_call 13; (with_reducible refine (abridgerref1_PutVlq.calls k3 (⟨#[]⟩ : ByteArray) ((Go.bits .or .i64 x7_1 (ji19)) / 2) t113 _ A27.out).mono ?_); rintro e w' ⟨rfl, ⟨nd, rfl⟩⟩; (try first | exact ⟨rfl, _, World.drewN_drewN _ _ _⟩ | exact ⟨rfl, _, Eq.trans (World.drewN_drewN _ _ _) (congrArg (World.drewN _) (Nat.add_assoc _ _ _))⟩))))
                                    go_ret3
                                    exact ⟨by first | rfl | (simp; done) | (simp only [← hji17, ← hji19] <;> (first | rfl | simp)) | (simp [*]; done), by repeat (first | exact Drawn0.refl _ | apply Drawn0.step)⟩
                                · rw [if_neg c30] at H
                                  exact absurd H (by simp)
                              · rw [if_neg c29] at H
                                exact absurd H (by simp)
                            · rw [if_neg c28] at H
                              exact absurd H (by simp)
                        · rw [if_neg c20] at H
                          have c20b0 : decide (x9_3 < 32) = false := decide_eq_false c20
                          clear c20
                          have H' := Aside0.mk H
                          clear H
                          go_wp2
                          repeat (go_quiet (fail); try go_wp2)
                          go_roundg k3
                          case measure => have := HK1.out; have := HJ3.out; have := HK3.out; omega
                          case rel => exact ⟨(Go.bits .or .i64 x7_1 (ji19)), (wrap64 (x8_1 + 1)), (by first | rfl | (simp; done) | (simp only [← hji19] <;> (first | rfl | simp)) | (simp [*]; done)), (by first | rfl | (simp; done) | (simp [*]; done)), H', ⟨by have := HK1.out; have := HJ3.out; have := HK3.out; omega⟩, by repeat (first | exact Drawn0.refl _ | apply Drawn0.step)⟩
                      · rw [if_neg c18] at H
                        exact absurd H (by simp)
            · replace c6 := Bool.eq_false_iff.mpr c6
              subst c6
              have H1 : (some (0, 0, false)) = some (r1, r2, r3) := by rw [if_neg (show ¬ (false = true) by decide)] at H; exact H
              clear H
              have H := H1
              clear H1
              simp only [Option.some.injEq, Prod.mk.injEq] at H
              obtain ⟨rfl, rfl, rfl⟩ := H
              go_wp2
              repeat (go_quiet (fail); try go_wp2)
              go_ret3
              exact ⟨by first | rfl | (simp; done) | (simp [*]; done), by repeat (first | exact Drawn0.refl _ | apply Drawn0.step)⟩

end Go.Proofs.Ytlpbebijhfkmeaa.PVlq
