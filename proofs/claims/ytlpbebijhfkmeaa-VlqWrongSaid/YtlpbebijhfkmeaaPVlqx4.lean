-- WRITTEN BY a program of this session (see wip/tools)
import Derived.Test.YtlpbebijhfkmeaaPVlqx0
import Derived.Test.YtlpbebijhfkmeaaPVlqx1
namespace Go.Proofs.Ytlpbebijhfkmeaa.PVlq
open Go.RowKit Go.Proofs.YtlpbebijhfkmeaaW.PrintWords Go.Proofs.YtlpbebijhfkmeaaW.PrintLast Go.Proofs.YtlpbebijhfkmeaaW.PrintMore
attribute [local go_sem] max2_int min2_int max_two min_two max_three min_three max_four min_four   -- for this text's walks alone
set_option linter.unusedVariables false
set_option linter.unusedSimpArgs false

/-! ### abridgerlaw3_VlqShort: function 5 -/
mutual
def abridgerlaw3_VlqShort.j0 : Nat → Int → Bool → Bool → Option (Bool)
  | 0, _, _, _ => none
  | k + 1, x0, x3, x20 => if x20 = true then (some x3) else ((vlq_Put.f k (⟨#[]⟩ : ByteArray) x0).bind fun t136 => (if x0 < 0 then (abridgerlaw3_VlqShort.j1 k t136 (wrap64 (-x0))) else (abridgerlaw3_VlqShort.j1 k t136 x0)))
def abridgerlaw3_VlqShort.j1 : Nat → ByteArray → Int → Option (Bool)
  | 0, _, _ => none
  | k + 1, x4, x5 => abridgerlaw3_VlqShort.l0 k x4 (x5 / 16) 1
def abridgerlaw3_VlqShort.l0 : Nat → ByteArray → Int → Int → Option (Bool)
  | 0, _, _, _ => none
  | k + 1, x4, x5, x6 => if x5 > 0 then (abridgerlaw3_VlqShort.l0 k x4 (x5 / 32) (wrap64 (x6 + 1))) else (if (x4.size : Int) = x6 then (if 0 ≤ (wrap64 ((x4.size : Int) - 1)) then (if (wrap64 ((x4.size : Int) - 1)) ≤ (x4.size : Int) then ((vlq_Get.f k (x4.extract 0 ((wrap64 ((x4.size : Int) - 1)) : Int).toNat) 0).bind fun bt137 => (some (!bt137.2.2))) else (none)) else (none)) else (some false))
end
def abridgerlaw3_VlqShort.f (k : Nat) (a0 : Int) : Option (Bool) := (abridgerlaw3_alive.f k).bind fun t135 => (if t135 = true then (if a0 < (-1099511627776) then (abridgerlaw3_VlqShort.j0 k a0 t135 true) else (abridgerlaw3_VlqShort.j0 k a0 t135 (decide (a0 > 1099511627776)))) else (abridgerlaw3_VlqShort.j0 k a0 t135 true))
theorem abridgerlaw3_VlqShort.mono_l : ∀ k, (∀ y0 y1 y2, LeO (abridgerlaw3_VlqShort.j0 k y0 y1 y2) (abridgerlaw3_VlqShort.j0 (k + 1) y0 y1 y2)) ∧ (∀ y0 y1, LeO (abridgerlaw3_VlqShort.j1 k y0 y1) (abridgerlaw3_VlqShort.j1 (k + 1) y0 y1)) ∧ (∀ y0 y1 y2, LeO (abridgerlaw3_VlqShort.l0 k y0 y1 y2) (abridgerlaw3_VlqShort.l0 (k + 1) y0 y1 y2))
  | 0 => ⟨fun _ _ _ r h => by simp [abridgerlaw3_VlqShort.j0] at h, fun _ _ r h => by simp [abridgerlaw3_VlqShort.j1] at h, fun _ _ _ r h => by simp [abridgerlaw3_VlqShort.l0] at h⟩
  | k + 1 => by
    obtain ⟨ih0, ih1, ih2⟩ := abridgerlaw3_VlqShort.mono_l k
    refine ⟨?_, ?_, ?_⟩
    · intro y0 y1 y2
      unfold abridgerlaw3_VlqShort.j0
      repeat' first
      | (with_reducible exact ih0 _ _ _)
      | (with_reducible exact ih1 _ _)
      | (with_reducible exact ih2 _ _ _)
      | (with_reducible exact abridgerlaw3_alive.mono _)
      | (with_reducible exact vlq_Get.mono _ _ _)
      | (with_reducible exact vlq_Put.mono _ _ _)
      | (with_reducible exact LeO.refl _)
      | (with_reducible exact LeO.none _)
      | (with_reducible refine LeO.ite ?_ ?_)
      | (with_reducible refine LeO.bind ?_ (fun _ => ?_))
      | exact ih0 _ _ _
      | exact ih1 _ _
      | exact ih2 _ _ _
      | exact abridgerlaw3_alive.mono _
      | exact vlq_Get.mono _ _ _
      | exact vlq_Put.mono _ _ _
      | exact LeO.none _
      | refine LeO.ite ?_ ?_
      | refine LeO.bind ?_ (fun _ => ?_)
    · intro y0 y1
      unfold abridgerlaw3_VlqShort.j1
      repeat' first
      | (with_reducible exact ih0 _ _ _)
      | (with_reducible exact ih1 _ _)
      | (with_reducible exact ih2 _ _ _)
      | (with_reducible exact abridgerlaw3_alive.mono _)
      | (with_reducible exact vlq_Get.mono _ _ _)
      | (with_reducible exact vlq_Put.mono _ _ _)
      | (with_reducible exact LeO.refl _)
      | (with_reducible exact LeO.none _)
      | (with_reducible refine LeO.ite ?_ ?_)
      | (with_reducible refine LeO.bind ?_ (fun _ => ?_))
      | exact ih0 _ _ _
      | exact ih1 _ _
      | exact ih2 _ _ _
      | exact abridgerlaw3_alive.mono _
      | exact vlq_Get.mono _ _ _
      | exact vlq_Put.mono _ _ _
      | exact LeO.none _
      | refine LeO.ite ?_ ?_
      | refine LeO.bind ?_ (fun _ => ?_)
    · intro y0 y1 y2
      unfold abridgerlaw3_VlqShort.l0
      repeat' first
      | (with_reducible exact ih0 _ _ _)
      | (with_reducible exact ih1 _ _)
      | (with_reducible exact ih2 _ _ _)
      | (with_reducible exact abridgerlaw3_alive.mono _)
      | (with_reducible exact vlq_Get.mono _ _ _)
      | (with_reducible exact vlq_Put.mono _ _ _)
      | (with_reducible exact LeO.refl _)
      | (with_reducible exact LeO.none _)
      | (with_reducible refine LeO.ite ?_ ?_)
      | (with_reducible refine LeO.bind ?_ (fun _ => ?_))
      | exact ih0 _ _ _
      | exact ih1 _ _
      | exact ih2 _ _ _
      | exact abridgerlaw3_alive.mono _
      | exact vlq_Get.mono _ _ _
      | exact vlq_Put.mono _ _ _
      | exact LeO.none _
      | refine LeO.ite ?_ ?_
      | refine LeO.bind ?_ (fun _ => ?_)
theorem abridgerlaw3_VlqShort.mono : ∀ a0 k, LeO (abridgerlaw3_VlqShort.f k a0) (abridgerlaw3_VlqShort.f (k + 1) a0) := by
  intro a0 k
  obtain ⟨ih0, ih1, ih2⟩ := abridgerlaw3_VlqShort.mono_l k
  unfold abridgerlaw3_VlqShort.f
  repeat' first
      | (with_reducible exact ih0 _ _ _)
      | (with_reducible exact ih1 _ _)
      | (with_reducible exact ih2 _ _ _)
      | (with_reducible exact abridgerlaw3_alive.mono _)
      | (with_reducible exact vlq_Get.mono _ _ _)
      | (with_reducible exact vlq_Put.mono _ _ _)
      | (with_reducible exact LeO.refl _)
      | (with_reducible exact LeO.none _)
      | (with_reducible refine LeO.ite ?_ ?_)
      | (with_reducible refine LeO.bind ?_ (fun _ => ?_))
      | exact ih0 _ _ _
      | exact ih1 _ _
      | exact ih2 _ _ _
      | exact abridgerlaw3_alive.mono _
      | exact vlq_Get.mono _ _ _
      | exact vlq_Put.mono _ _ _
      | exact LeO.none _
      | refine LeO.ite ?_ ?_
      | refine LeO.bind ?_ (fun _ => ?_)
set_option maxHeartbeats 8000000 in
set_option maxRecDepth 100000 in
theorem abridgerlaw3_VlqShort.calls (k : Nat) (a0 : Int) (r : Bool) (w : World) (h : abridgerlaw3_VlqShort.f k a0 = some r) :
    Calls Try.prog 5 #[.int .i64 a0] w fun e w' => e = .returned (.bool r) ∧ Drawn0 w w' := by
  have H : ((abridgerlaw3_alive.f k).bind fun t135 => (if t135 = true then (if a0 < (-1099511627776) then (abridgerlaw3_VlqShort.j0 k a0 t135 true) else (abridgerlaw3_VlqShort.j0 k a0 t135 (decide (a0 > 1099511627776)))) else (abridgerlaw3_VlqShort.j0 k a0 t135 true))) = some r := h
  clear h
  replace H := Option.bind_eq_some_iff.mp H
  obtain ⟨t135, A20, H⟩ := H
  replace H : (if t135 = true then (if a0 < (-1099511627776) then (abridgerlaw3_VlqShort.j0 k a0 t135 true) else (abridgerlaw3_VlqShort.j0 k a0 t135 (decide (a0 > 1099511627776)))) else (abridgerlaw3_VlqShort.j0 k a0 t135 true)) = some r := H
  have A2 := Aside0.mk A20
  clear A20
  have HC3 := Aside0.mk H
  clear H
  go_enter Try.func5, Try.ntmps5
  go_upto_region 2 with (first | ((with_reducible refine gate_callee (f := 9) rfl ?_); refine goesL_ (some 10) rfl rfl Try.func9 (by kernel_rfl) rfl #[] rfl (by (try simp only [List.map_toArray, List.map_cons, List.map_nil]); first | done | rfl | (simp only [List.length_drop, List.length_take]; rfl)) ?_; (with_reducible refine (abridgerlaw3_alive.calls k  t135 _ A2.out).mono ?_); rintro e w' ⟨rfl, ⟨nd, rfl⟩⟩; refine ⟨_, rfl, ?_⟩))
  (try simp only [Act.put, List.setIfInBounds_toArray, List.set_cons_zero, List.set_cons_succ])
  go_cut [20] (fun v20 wc => ∃ (kq : Nat) (x20_2 : Bool), v20 = .bool x20_2 ∧ Aside0 (abridgerlaw3_VlqShort.j0 kq a0 t135 x20_2 = some r) ∧ Aside0 (kq ≤ k) ∧ Drawn0 w wc)
  case first =>
    have H := HC3.out
    clear HC3
    by_cases c4 : t135 = true
    · subst c4
      have H1 : (if a0 < (-1099511627776) then (abridgerlaw3_VlqShort.j0 k a0 true true) else (abridgerlaw3_VlqShort.j0 k a0 true (decide (a0 > 1099511627776)))) = some r := by rw [if_pos rfl] at H; exact H
      clear H
      have H := H1
      clear H1
      by_cases c5 : a0 < (-1099511627776)
      · rw [if_pos c5] at H
        have c5b0 : decide (a0 < (-1099511627776)) = true := decide_eq_true c5
        clear c5
        (first | rw [c5b0] | (simp only [i64_w, i32_w]; rw [c5b0]) | skip)
        have H' := Aside0.mk H
        clear H
        go_wp2
        go_meet
        case rel => exact ⟨_, (true), (by first | rfl | (simp; done) | (simp [*]; done)), H', ⟨by first | omega | exact Nat.le_refl _⟩, by repeat (first | exact Drawn0.refl _ | apply Drawn0.step)⟩
      · rw [if_neg c5] at H
        have c5b0 : decide (a0 < (-1099511627776)) = false := decide_eq_false c5
        clear c5
        (first | rw [c5b0] | (simp only [i64_w, i32_w]; rw [c5b0]) | skip)
        have H' := Aside0.mk H
        clear H
        go_wp2
        go_meet
        case rel => exact ⟨_, (decide (a0 > 1099511627776)), (by first | rfl | (simp; done) | (simp [*]; done)), H', ⟨by first | omega | exact Nat.le_refl _⟩, by repeat (first | exact Drawn0.refl _ | apply Drawn0.step)⟩
    · replace c4 := Bool.eq_false_iff.mpr c4
      subst c4
      have H1 : (abridgerlaw3_VlqShort.j0 k a0 false true) = some r := by rw [if_neg (show ¬ (false = true) by decide)] at H; exact H
      clear H
      have H := H1
      clear H1
      have H' := Aside0.mk H
      clear H
      go_wp2
      go_meet
      case rel => exact ⟨_, (true), (by first | rfl | (simp; done) | (simp [*]; done)), H', ⟨by first | omega | exact Nat.le_refl _⟩, by repeat (first | exact Drawn0.refl _ | apply Drawn0.step)⟩
  case rest =>
    clear HC3
    try clear p2
    try clear c4
    try clear c5
    try clear c5b0
    obtain ⟨kq, x20_2, rfl, HA, HJ2, ⟨mc2, rfl⟩⟩ := hcut
    cases kq with
    | zero => exact absurd HA.out (by simp [abridgerlaw3_VlqShort.j0])
    | succ kj2 =>
      have H := HA.out
      clear HA
      simp only [abridgerlaw3_VlqShort.j0] at H
      by_cases c6 : x20_2 = true
      · subst c6
        have H1 : (some t135) = some r := by rw [if_pos rfl] at H; exact H
        clear H
        have H := H1
        clear H1
        obtain rfl := Option.some.inj H
        go_wp2
        go_ret
        exact ⟨by first | rfl | (simp; done) | (simp [*]; done), by repeat (first | exact Drawn0.refl _ | apply Drawn0.step)⟩
      · replace c6 := Bool.eq_false_iff.mpr c6
        subst c6
        have H1 : ((vlq_Put.f kj2 (⟨#[]⟩ : ByteArray) a0).bind fun t136 => (if a0 < 0 then (abridgerlaw3_VlqShort.j1 kj2 t136 (wrap64 (-a0))) else (abridgerlaw3_VlqShort.j1 kj2 t136 a0))) = some r := by rw [if_neg (show ¬ (false = true) by decide)] at H; exact H
        clear H
        have H := H1
        clear H1
        replace H := Option.bind_eq_some_iff.mp H
        obtain ⟨t136, A70, H⟩ := H
        replace H : (if a0 < 0 then (abridgerlaw3_VlqShort.j1 kj2 t136 (wrap64 (-a0))) else (abridgerlaw3_VlqShort.j1 kj2 t136 a0)) = some r := H
        have A7 := Aside0.mk A70
        clear A70
        have HC8 := Aside0.mk H
        clear H
        go_upto_if 26 with (first | ((with_reducible refine gate_callee (f := 12) rfl ?_); refine goesL_ (some 23) rfl rfl Try.func12 (by kernel_rfl) rfl #[.string (⟨#[]⟩ : ByteArray), .int .i64 a0] rfl (by (try simp only [List.map_toArray, List.map_cons, List.map_nil]); first | done | rfl | (simp only [List.length_drop, List.length_take]; rfl)) ?_; (with_reducible refine (vlq_Put.calls kj2 (⟨#[]⟩ : ByteArray) a0 t136 _ A7.out).mono ?_); rintro e w' ⟨rfl, ⟨nd, rfl⟩⟩; refine ⟨_, rfl, ?_⟩))
        (try simp only [Act.put, List.setIfInBounds_toArray, List.set_cons_zero, List.set_cons_succ])
        go_cut [5] (fun v5 wc => ∃ (kq : Nat) (x5_7 : Int), v5 = .int .i64 x5_7 ∧ Aside0 (abridgerlaw3_VlqShort.j1 kq t136 x5_7 = some r) ∧ Aside0 (kq ≤ kj2) ∧ Drawn0 w wc)
        case first =>
          have H := HC8.out
          clear HC8
          by_cases c9 : a0 < 0
          · rw [if_pos c9] at H
            have c9b0 : decide (a0 < 0) = true := decide_eq_true c9
            clear c9
            (first | rw [c9b0] | (simp only [i64_w, i32_w]; rw [c9b0]) | skip)
            have H' := Aside0.mk H
            clear H
            go_wp2
            go_meet
            case rel => exact ⟨_, (wrap64 (-a0)), (by first | rfl | (simp; done) | (simp [*]; done)), H', ⟨by have := HJ2.out; first | omega | exact Nat.le_refl _⟩, by repeat (first | exact Drawn0.refl _ | apply Drawn0.step)⟩
          · rw [if_neg c9] at H
            have c9b0 : decide (a0 < 0) = false := decide_eq_false c9
            clear c9
            (first | rw [c9b0] | (simp only [i64_w, i32_w]; rw [c9b0]) | skip)
            have H' := Aside0.mk H
            clear H
            go_wp2
            go_meet
            case rel => exact ⟨_, (a0), (by first | rfl | (simp; done) | (simp [*]; done)), H', ⟨by have := HJ2.out; first | omega | exact Nat.le_refl _⟩, by repeat (first | exact Drawn0.refl _ | apply Drawn0.step)⟩
        case rest =>
          clear HC8
          try clear c1
          try clear c2
          try clear p2
          try clear c4
          try clear c5
          try clear c5b0
          try clear c6
          try clear p6
          try clear c9
          try clear c9b0
          try clear p2
          obtain ⟨kq, x5_7, rfl, HA, HJ7, ⟨mc7, rfl⟩⟩ := hcut
          cases kq with
          | zero => exact absurd HA.out (by simp [abridgerlaw3_VlqShort.j1])
          | succ kj7 =>
            have H := HA.out
            clear HA
            simp only [abridgerlaw3_VlqShort.j1] at H
            have H' := Aside0.mk H
            clear H
            go_wp2
            go_loopg [5, 6] kj7 (fun kq v5 v6 w' => ∃ (x5_3 : Int) (x6_3 : Int), v5 = .int .i64 x5_3 ∧ v6 = .int .i64 x6_3 ∧ Aside0 (abridgerlaw3_VlqShort.l0 kq t136 x5_3 x6_3 = some r) ∧ Aside0 (kq ≤ kj7) ∧ Drawn0 w w')
            case atStart => exact ⟨(x5_7 / 16), (1), (by first | rfl | (simp; done) | (simp [*]; done)), (by first | rfl | (simp; done) | (simp [*]; done)), H', ⟨Nat.le_refl _⟩, by repeat (first | exact Drawn0.refl _ | apply Drawn0.step)⟩
            case round =>
              clear H'
              try clear c1
              try clear c2
              try clear p2
              try clear c4
              try clear c5
              try clear c5b0
              try clear c6
              try clear p6
              try clear c7
              try clear c9
              try clear c9b0
              try clear p2
              try clear p6
              obtain ⟨x5_3, x6_3, rfl, rfl, HA, HK3, ⟨m3, rfl⟩⟩ := hrel
              cases gk with
              | zero => exact absurd HA.out (by simp [abridgerlaw3_VlqShort.l0])
              | succ k3 =>
                have H := HA.out
                clear HA
                simp only [abridgerlaw3_VlqShort.l0] at H
                by_cases c10 : x5_3 > 0
                · rw [if_pos c10] at H
                  have c10b0 : decide (0 < x5_3) = true := decide_eq_true c10
                  clear c10
                  have H' := Aside0.mk H
                  clear H
                  go_wp2
                  go_roundg k3
                  case measure => have := HJ2.out; have := HJ7.out; have := HK3.out; omega
                  case rel => exact ⟨(x5_3 / 32), (wrap64 (x6_3 + 1)), (by first | rfl | (simp; done) | (simp [*]; done)), (by first | rfl | (simp; done) | (simp [*]; done)), H', ⟨by have := HJ2.out; have := HJ7.out; have := HK3.out; omega⟩, by repeat (first | exact Drawn0.refl _ | apply Drawn0.step)⟩
                · rw [if_neg c10] at H
                  have c10b0 : decide (0 < x5_3) = false := decide_eq_false c10
                  clear c10
                  by_cases c11 : (t136.size : Int) = x6_3
                  · rw [if_pos c11] at H
                    have c11b0 : ((t136.size : Int) == x6_3) = true := beq_iff_eq.mpr c11
                    have c11b1 : ((t136.size : Int) != x6_3) = false := bne_eq_false_iff_eq.mpr c11
                    clear c11
                    obtain ⟨ji12, hji12⟩ : ∃ j_ : Int, (wrap64 ((t136.size : Int) - 1)) = j_ := ⟨_, rfl⟩
                    replace H : (if 0 ≤ (ji12) then (if (ji12) ≤ (t136.size : Int) then ((vlq_Get.f k3 (t136.extract 0 ((ji12) : Int).toNat) 0).bind fun bt137 => (some (!bt137.2.2))) else (none)) else (none)) = some r := by first | (rw [hji12] at H; exact H) | (simp only [hji12] at H ⊢; exact H)
                    have hji12w : (IntKind.i64.wrap ((t136.size : Int) - 1)) = ji12 := (i64_w _).trans hji12
                    by_cases c13 : 0 ≤ (ji12)
                    · rw [if_pos c13] at H
                      have c13b0 := eq_true c13
                      have c13b1 : decide (0 ≤ (ji12)) = true := decide_eq_true c13
                      clear c13
                      by_cases c14 : (ji12) ≤ (t136.size : Int)
                      · rw [if_pos c14] at H
                        have c14b0 := eq_true c14
                        have c14b1 : decide ((ji12) ≤ (t136.size : Int)) = true := decide_eq_true c14
                        clear c14
                        replace H := Option.bind_eq_some_iff.mp H
                        obtain ⟨⟨t137, t138, t139⟩, A150, H⟩ := H
                        replace H : (some (!t139)) = some r := H
                        have A15 := Aside0.mk A150
                        clear A150
                        obtain rfl := Option.some.inj H
                        go_wp2_with (first | ((with_reducible refine gate_callee (f := 10) rfl ?_); refine goesL_ (some 47) rfl rfl Try.func10 (by kernel_rfl) rfl #[.string (t136.extract 0 ((ji12) : Int).toNat), .int .i64 0] rfl (by (try simp only [List.map_toArray, List.map_cons, List.map_nil]); first | done | (simp only [hji12]; rfl) | rfl | (simp only [List.length_drop, List.length_take]; rfl)) ?_; (with_reducible refine (vlq_Get.calls k3 (t136.extract 0 ((ji12) : Int).toNat) 0 t137 t138 t139 _ A15.out).mono ?_); rintro e w' ⟨rfl, ⟨nd, rfl⟩⟩; refine ⟨_, rfl, ?_⟩))
                        go_ret
                        exact ⟨by first | rfl | (simp; done) | (simp only [← hji12] <;> (first | rfl | simp)) | (simp [*]; done), by repeat (first | exact Drawn0.refl _ | apply Drawn0.step)⟩
                      · rw [if_neg c14] at H
                        exact absurd H (by simp)
                    · rw [if_neg c13] at H
                      exact absurd H (by simp)
                  · rw [if_neg c11] at H
                    have c11b0 : ((t136.size : Int) == x6_3) = false := beq_eq_false_iff_ne.mpr c11
                    have c11b1 : ((t136.size : Int) != x6_3) = true := bne_iff_ne.mpr c11
                    obtain rfl := Option.some.inj H
                    go_wp2
                    go_ret
                    exact ⟨by first | rfl | (simp; done) | (simp [*]; done), by repeat (first | exact Drawn0.refl _ | apply Drawn0.step)⟩

/-- THE ONE PURE STATEMENT of abridgerlaw3_VlqShort: yours. -/
def abridgerlaw3_VlqShort.Pure : Prop := ∀ (a0 : Int), (Lit.int .i64 a0).wf = true → ∃ k, abridgerlaw3_VlqShort.f k a0 = some true
theorem abridgerlaw3_VlqShort.walk (P : abridgerlaw3_VlqShort.Pure) (a0 : Int) (w : World) (w0 : (Lit.int .i64 a0).wf = true) :
    Calls Try.prog 5 #[.int .i64 a0] w fun e w' => e = .returned (.bool true) ∧ Below w.heap.size w w' := by
  obtain ⟨k, h⟩ := P a0 w0
  refine (abridgerlaw3_VlqShort.calls k a0 true w h).mono ?_
  rintro e w' ⟨rfl, hd⟩
  exact ⟨rfl, hd.below⟩

/-! ### abridgerlaw3_VlqWrong: function 6 -/
def abridgerlaw3_VlqWrong.f (k : Nat) (a0 : Int) : Option (Bool) := (abridgerlaw3_alive.f k).bind fun t140 => ((some (([(⟨#[65]⟩ : ByteArray), (⟨#[66]⟩ : ByteArray), (⟨#[67]⟩ : ByteArray), (⟨#[68]⟩ : ByteArray), (⟨#[]⟩ : ByteArray), (⟨#[103]⟩ : ByteArray), (⟨#[103, 65]⟩ : ByteArray), (⟨#[103, 66]⟩ : ByteArray), (⟨#[103, 103, 65]⟩ : ByteArray), (⟨#[33]⟩ : ByteArray), (⟨#[97]⟩ : ByteArray), (⟨#[47]⟩ : ByteArray), (⟨#[43, 68]⟩ : ByteArray), (⟨#[103, 103, 103, 103, 103, 103, 103, 67]⟩ : ByteArray), (⟨#[103, 103, 103, 103, 103, 103, 103, 103, 103, 103, 103, 67]⟩ : ByteArray), (⟨#[61]⟩ : ByteArray), (⟨#[65, 65]⟩ : ByteArray)] : List ByteArray) : List ByteArray)).bind fun y141 => ((some (([true, false, true, true, false, false, false, true, false, false, true, false, true, true, false, false, true] : List Bool) : List Bool)).bind fun y144 => (if t140 = true then (if a0 < 0 then (some t140) else (if a0 ≥ (y141.length : Int) then (some t140) else (if 0 ≤ a0 then (if a0 < (y141.length : Int) then ((vlq_Get.f k (rdOf ByteArray.empty y141 a0) 0).bind fun bt148 => (if a0 < (y144.length : Int) then (some (bt148.2.2 == (rdOf false y144 a0))) else (none))) else (none)) else (none)))) else (some t140))))
theorem abridgerlaw3_VlqWrong.mono : ∀ a0 k, LeO (abridgerlaw3_VlqWrong.f k a0) (abridgerlaw3_VlqWrong.f (k + 1) a0) := by
  intro a0 k
  unfold abridgerlaw3_VlqWrong.f
  repeat' first
      | (with_reducible exact abridgerlaw3_alive.mono _)
      | (with_reducible exact vlq_Get.mono _ _ _)
      | (with_reducible exact LeO.refl _)
      | (with_reducible exact LeO.none _)
      | (with_reducible refine LeO.ite ?_ ?_)
      | (with_reducible refine LeO.bind ?_ (fun _ => ?_))
      | exact abridgerlaw3_alive.mono _
      | exact vlq_Get.mono _ _ _
      | exact LeO.none _
      | refine LeO.ite ?_ ?_
      | refine LeO.bind ?_ (fun _ => ?_)
set_option maxHeartbeats 8000000 in
set_option maxRecDepth 100000 in
theorem abridgerlaw3_VlqWrong.calls (k : Nat) (a0 : Int) (r : Bool) (w : World) (h : abridgerlaw3_VlqWrong.f k a0 = some r) :
    Calls Try.prog 6 #[.int .i64 a0] w fun e w' => e = .returned (.bool r) ∧ Below w.heap.size w w' := by
  have HB := Aside0.mk (Below.refl w.heap.size w)
  have H : ((abridgerlaw3_alive.f k).bind fun t140 => ((some (([(⟨#[65]⟩ : ByteArray), (⟨#[66]⟩ : ByteArray), (⟨#[67]⟩ : ByteArray), (⟨#[68]⟩ : ByteArray), (⟨#[]⟩ : ByteArray), (⟨#[103]⟩ : ByteArray), (⟨#[103, 65]⟩ : ByteArray), (⟨#[103, 66]⟩ : ByteArray), (⟨#[103, 103, 65]⟩ : ByteArray), (⟨#[33]⟩ : ByteArray), (⟨#[97]⟩ : ByteArray), (⟨#[47]⟩ : ByteArray), (⟨#[43, 68]⟩ : ByteArray), (⟨#[103, 103, 103, 103, 103, 103, 103, 67]⟩ : ByteArray), (⟨#[103, 103, 103, 103, 103, 103, 103, 103, 103, 103, 103, 67]⟩ : ByteArray), (⟨#[61]⟩ : ByteArray), (⟨#[65, 65]⟩ : ByteArray)] : List ByteArray) : List ByteArray)).bind fun y141 => ((some (([true, false, true, true, false, false, false, true, false, false, true, false, true, true, false, false, true] : List Bool) : List Bool)).bind fun y144 => (if t140 = true then (if a0 < 0 then (some t140) else (if a0 ≥ (y141.length : Int) then (some t140) else (if 0 ≤ a0 then (if a0 < (y141.length : Int) then ((vlq_Get.f k (rdOf ByteArray.empty y141 a0) 0).bind fun bt148 => (if a0 < (y144.length : Int) then (some (bt148.2.2 == (rdOf false y144 a0))) else (none))) else (none)) else (none)))) else (some t140))))) = some r := h
  clear h
  replace H := Option.bind_eq_some_iff.mp H
  obtain ⟨t140, A20, H⟩ := H
  replace H : ((some (([(⟨#[65]⟩ : ByteArray), (⟨#[66]⟩ : ByteArray), (⟨#[67]⟩ : ByteArray), (⟨#[68]⟩ : ByteArray), (⟨#[]⟩ : ByteArray), (⟨#[103]⟩ : ByteArray), (⟨#[103, 65]⟩ : ByteArray), (⟨#[103, 66]⟩ : ByteArray), (⟨#[103, 103, 65]⟩ : ByteArray), (⟨#[33]⟩ : ByteArray), (⟨#[97]⟩ : ByteArray), (⟨#[47]⟩ : ByteArray), (⟨#[43, 68]⟩ : ByteArray), (⟨#[103, 103, 103, 103, 103, 103, 103, 67]⟩ : ByteArray), (⟨#[103, 103, 103, 103, 103, 103, 103, 103, 103, 103, 103, 67]⟩ : ByteArray), (⟨#[61]⟩ : ByteArray), (⟨#[65, 65]⟩ : ByteArray)] : List ByteArray) : List ByteArray)).bind fun y141 => ((some (([true, false, true, true, false, false, false, true, false, false, true, false, true, true, false, false, true] : List Bool) : List Bool)).bind fun y144 => (if t140 = true then (if a0 < 0 then (some t140) else (if a0 ≥ (y141.length : Int) then (some t140) else (if 0 ≤ a0 then (if a0 < (y141.length : Int) then ((vlq_Get.f k (rdOf ByteArray.empty y141 a0) 0).bind fun bt148 => (if a0 < (y144.length : Int) then (some (bt148.2.2 == (rdOf false y144 a0))) else (none))) else (none)) else (none)))) else (some t140)))) = some r := H
  have A2 := Aside0.mk A20
  clear A20
  obtain ⟨y141, hy141⟩ : ∃ y_ : List ByteArray, y_ = (([(⟨#[65]⟩ : ByteArray), (⟨#[66]⟩ : ByteArray), (⟨#[67]⟩ : ByteArray), (⟨#[68]⟩ : ByteArray), (⟨#[]⟩ : ByteArray), (⟨#[103]⟩ : ByteArray), (⟨#[103, 65]⟩ : ByteArray), (⟨#[103, 66]⟩ : ByteArray), (⟨#[103, 103, 65]⟩ : ByteArray), (⟨#[33]⟩ : ByteArray), (⟨#[97]⟩ : ByteArray), (⟨#[47]⟩ : ByteArray), (⟨#[43, 68]⟩ : ByteArray), (⟨#[103, 103, 103, 103, 103, 103, 103, 67]⟩ : ByteArray), (⟨#[103, 103, 103, 103, 103, 103, 103, 103, 103, 103, 103, 67]⟩ : ByteArray), (⟨#[61]⟩ : ByteArray), (⟨#[65, 65]⟩ : ByteArray)] : List ByteArray)) := ⟨_, rfl⟩
  replace H : ((some (([true, false, true, true, false, false, false, true, false, false, true, false, true, true, false, false, true] : List Bool) : List Bool)).bind fun y144 => (if t140 = true then (if a0 < 0 then (some t140) else (if a0 ≥ (y141.length : Int) then (some t140) else (if 0 ≤ a0 then (if a0 < (y141.length : Int) then ((vlq_Get.f k (rdOf ByteArray.empty y141 a0) 0).bind fun bt148 => (if a0 < (y144.length : Int) then (some (bt148.2.2 == (rdOf false y144 a0))) else (none))) else (none)) else (none)))) else (some t140))) = some r := by first | (rw [hy141]; with_reducible exact H) | (have H2_ := (Option.bind_some _ _).symm.trans H; rw [hy141]; with_reducible exact H2_) | (have H2_ := (Option.bind_some _ _).symm.trans H; with_reducible exact H2_) | with_reducible exact H | (rw [hy141]; exact H) | exact H
  have Ny141 := Aside0.mk hy141
  clear hy141
  obtain ⟨y144, hy144⟩ : ∃ y_ : List Bool, y_ = (([true, false, true, true, false, false, false, true, false, false, true, false, true, true, false, false, true] : List Bool)) := ⟨_, rfl⟩
  replace H : (if t140 = true then (if a0 < 0 then (some t140) else (if a0 ≥ (y141.length : Int) then (some t140) else (if 0 ≤ a0 then (if a0 < (y141.length : Int) then ((vlq_Get.f k (rdOf ByteArray.empty y141 a0) 0).bind fun bt148 => (if a0 < (y144.length : Int) then (some (bt148.2.2 == (rdOf false y144 a0))) else (none))) else (none)) else (none)))) else (some t140)) = some r := by first | (rw [hy144]; with_reducible exact H) | (have H2_ := (Option.bind_some _ _).symm.trans H; rw [hy144]; with_reducible exact H2_) | (have H2_ := (Option.bind_some _ _).symm.trans H; with_reducible exact H2_) | with_reducible exact H | (rw [hy144]; exact H) | exact H
  have Ny144 := Aside0.mk hy144
  clear hy144
  by_cases c3 : t140 = true
  · subst c3
    have H1 : (if a0 < 0 then (some true) else (if a0 ≥ (y141.length : Int) then (some true) else (if 0 ≤ a0 then (if a0 < (y141.length : Int) then ((vlq_Get.f k (rdOf ByteArray.empty y141 a0) 0).bind fun bt148 => (if a0 < (y144.length : Int) then (some (bt148.2.2 == (rdOf false y144 a0))) else (none))) else (none)) else (none)))) = some r := by rw [if_pos rfl] at H; exact H
    clear H
    have H := H1
    clear H1
    by_cases c4 : a0 < 0
    · rw [if_pos c4] at H
      have c4b0 : decide (a0 < 0) = true := decide_eq_true c4
      clear c4
      obtain rfl := Option.some.inj H
      go_enter Try.func6, Try.ntmps6
      go_wp2_with (first | ((with_reducible refine gate_callee (f := 9) rfl ?_); refine goesL_ (some 9) rfl rfl Try.func9 (by kernel_rfl) rfl #[] rfl (by (try simp only [List.map_toArray, List.map_cons, List.map_nil]); first | done | rfl | (simp only [List.length_drop, List.length_take]; rfl)) ?_; (with_reducible refine (abridgerlaw3_alive.calls k  true _ A2.out).mono ?_); rintro e w' ⟨rfl, ⟨nd, rfl⟩⟩; refine ⟨_, rfl, ?_⟩) | ((with_reducible refine gate_dst (N := 10) rfl ?_); (try (refine gate_guard (by rfl) ?_; dsimp only)); refine Kd.R_lit Kd.string _ 9 ?hg (N := 10) ?hd (xs := ([(⟨#[65]⟩ : ByteArray), (⟨#[66]⟩ : ByteArray), (⟨#[67]⟩ : ByteArray), (⟨#[68]⟩ : ByteArray), (⟨#[]⟩ : ByteArray), (⟨#[103]⟩ : ByteArray), (⟨#[103, 65]⟩ : ByteArray), (⟨#[103, 66]⟩ : ByteArray), (⟨#[103, 103, 65]⟩ : ByteArray), (⟨#[33]⟩ : ByteArray), (⟨#[97]⟩ : ByteArray), (⟨#[47]⟩ : ByteArray), (⟨#[43, 68]⟩ : ByteArray), (⟨#[103, 103, 103, 103, 103, 103, 103, 67]⟩ : ByteArray), (⟨#[103, 103, 103, 103, 103, 103, 103, 103, 103, 103, 103, 67]⟩ : ByteArray), (⟨#[61]⟩ : ByteArray), (⟨#[65, 65]⟩ : ByteArray)] : List ByteArray)) (inner := [.string (⟨#[65]⟩ : ByteArray), .string (⟨#[66]⟩ : ByteArray), .string (⟨#[67]⟩ : ByteArray), .string (⟨#[68]⟩ : ByteArray), .string (⟨#[]⟩ : ByteArray), .string (⟨#[103]⟩ : ByteArray), .string (⟨#[103, 65]⟩ : ByteArray), .string (⟨#[103, 66]⟩ : ByteArray), .string (⟨#[103, 103, 65]⟩ : ByteArray), .string (⟨#[33]⟩ : ByteArray), .string (⟨#[97]⟩ : ByteArray), .string (⟨#[47]⟩ : ByteArray), .string (⟨#[43, 68]⟩ : ByteArray), .string (⟨#[103, 103, 103, 103, 103, 103, 103, 67]⟩ : ByteArray), .string (⟨#[103, 103, 103, 103, 103, 103, 103, 103, 103, 103, 103, 67]⟩ : ByteArray), .string (⟨#[61]⟩ : ByteArray), .string (⟨#[65, 65]⟩ : ByteArray)]) (ok := fun _ => True) (okp := fun _ => True) ?hr ?hp (fun _ hk => hk) trivial (Below.refl _ _) (Nat.le_refl _) (by simp) ?_; (case hd => rfl); (case hg => rfl); (case hr => first | (go_simp; done) | (go_simp; rfl)); (case hp => exact (Reps.one (show Kd.M Kd.string _ _ _ (⟨#[65]⟩ : ByteArray) [.string (⟨#[65]⟩ : ByteArray)] from rfl) (Reps.one (show Kd.M Kd.string _ _ _ (⟨#[66]⟩ : ByteArray) [.string (⟨#[66]⟩ : ByteArray)] from rfl) (Reps.one (show Kd.M Kd.string _ _ _ (⟨#[67]⟩ : ByteArray) [.string (⟨#[67]⟩ : ByteArray)] from rfl) (Reps.one (show Kd.M Kd.string _ _ _ (⟨#[68]⟩ : ByteArray) [.string (⟨#[68]⟩ : ByteArray)] from rfl) (Reps.one (show Kd.M Kd.string _ _ _ (⟨#[]⟩ : ByteArray) [.string (⟨#[]⟩ : ByteArray)] from rfl) (Reps.one (show Kd.M Kd.string _ _ _ (⟨#[103]⟩ : ByteArray) [.string (⟨#[103]⟩ : ByteArray)] from rfl) (Reps.one (show Kd.M Kd.string _ _ _ (⟨#[103, 65]⟩ : ByteArray) [.string (⟨#[103, 65]⟩ : ByteArray)] from rfl) (Reps.one (show Kd.M Kd.string _ _ _ (⟨#[103, 66]⟩ : ByteArray) [.string (⟨#[103, 66]⟩ : ByteArray)] from rfl) (Reps.one (show Kd.M Kd.string _ _ _ (⟨#[103, 103, 65]⟩ : ByteArray) [.string (⟨#[103, 103, 65]⟩ : ByteArray)] from rfl) (Reps.one (show Kd.M Kd.string _ _ _ (⟨#[33]⟩ : ByteArray) [.string (⟨#[33]⟩ : ByteArray)] from rfl) (Reps.one (show Kd.M Kd.string _ _ _ (⟨#[97]⟩ : ByteArray) [.string (⟨#[97]⟩ : ByteArray)] from rfl) (Reps.one (show Kd.M Kd.string _ _ _ (⟨#[47]⟩ : ByteArray) [.string (⟨#[47]⟩ : ByteArray)] from rfl) (Reps.one (show Kd.M Kd.string _ _ _ (⟨#[43, 68]⟩ : ByteArray) [.string (⟨#[43, 68]⟩ : ByteArray)] from rfl) (Reps.one (show Kd.M Kd.string _ _ _ (⟨#[103, 103, 103, 103, 103, 103, 103, 67]⟩ : ByteArray) [.string (⟨#[103, 103, 103, 103, 103, 103, 103, 67]⟩ : ByteArray)] from rfl) (Reps.one (show Kd.M Kd.string _ _ _ (⟨#[103, 103, 103, 103, 103, 103, 103, 103, 103, 103, 103, 67]⟩ : ByteArray) [.string (⟨#[103, 103, 103, 103, 103, 103, 103, 103, 103, 103, 103, 67]⟩ : ByteArray)] from rfl) (Reps.one (show Kd.M Kd.string _ _ _ (⟨#[61]⟩ : ByteArray) [.string (⟨#[61]⟩ : ByteArray)] from rfl) (Reps.one (show Kd.M Kd.string _ _ _ (⟨#[65, 65]⟩ : ByteArray) [.string (⟨#[65, 65]⟩ : ByteArray)] from rfl) (Reps.none _ _))))))))))))))))))); intro v142 w5 ho6 hb hg_ hnew_; clear hg_ hnew_; (first | rw [← Ny141.out] at ho6 | (simp only [Int.reduceToNat] at ho6; rw [← Ny141.out] at ho6)); have n0_ := Aside0.mk (Kd.R_lower ho6 (below_size (by repeat (first | (with_reducible first | exact HB.out | apply below_alloc | apply pw_below_drewN | apply below_drew1) | exact HB.out)))); have n1_ := Aside0.mk (below_step (by repeat (first | (with_reducible first | exact HB.out | apply below_alloc | apply pw_below_drewN | apply below_drew1) | exact HB.out)) hb); clear HB; have HO143 := n0_; have HB := n1_; clear n0_ n1_; clear hb ho6) | ((with_reducible refine gate_dst (N := 11) rfl ?_); (try (refine gate_guard (by rfl) ?_; dsimp only)); refine Kd.R_lit Kd.bool _ 4 ?hg (N := 11) ?hd (xs := ([true, false, true, true, false, false, false, true, false, false, true, false, true, true, false, false, true] : List Bool)) (inner := [.bool true, .bool false, .bool true, .bool true, .bool false, .bool false, .bool false, .bool true, .bool false, .bool false, .bool true, .bool false, .bool true, .bool true, .bool false, .bool false, .bool true]) (ok := fun _ => True) (okp := fun _ => True) ?hr ?hp (fun _ hk => hk) trivial (Below.refl _ _) (Nat.le_refl _) (by simp) ?_; (case hd => rfl); (case hg => rfl); (case hr => first | (go_simp; done) | (go_simp; rfl)); (case hp => exact (Reps.one (show Kd.M Kd.bool _ _ _ true [.bool true] from rfl) (Reps.one (show Kd.M Kd.bool _ _ _ false [.bool false] from rfl) (Reps.one (show Kd.M Kd.bool _ _ _ true [.bool true] from rfl) (Reps.one (show Kd.M Kd.bool _ _ _ true [.bool true] from rfl) (Reps.one (show Kd.M Kd.bool _ _ _ false [.bool false] from rfl) (Reps.one (show Kd.M Kd.bool _ _ _ false [.bool false] from rfl) (Reps.one (show Kd.M Kd.bool _ _ _ false [.bool false] from rfl) (Reps.one (show Kd.M Kd.bool _ _ _ true [.bool true] from rfl) (Reps.one (show Kd.M Kd.bool _ _ _ false [.bool false] from rfl) (Reps.one (show Kd.M Kd.bool _ _ _ false [.bool false] from rfl) (Reps.one (show Kd.M Kd.bool _ _ _ true [.bool true] from rfl) (Reps.one (show Kd.M Kd.bool _ _ _ false [.bool false] from rfl) (Reps.one (show Kd.M Kd.bool _ _ _ true [.bool true] from rfl) (Reps.one (show Kd.M Kd.bool _ _ _ true [.bool true] from rfl) (Reps.one (show Kd.M Kd.bool _ _ _ false [.bool false] from rfl) (Reps.one (show Kd.M Kd.bool _ _ _ false [.bool false] from rfl) (Reps.one (show Kd.M Kd.bool _ _ _ true [.bool true] from rfl) (Reps.none _ _))))))))))))))))))); intro v145 w7 ho8 hb hg_ hnew_; clear hg_ hnew_; (first | rw [← Ny144.out] at ho8 | (simp only [Int.reduceToNat] at ho8; rw [← Ny144.out] at ho8)); have n0_ := Aside0.mk (Kd.R_below (by (with_reducible repeat (first | apply Kd.R_alloc | apply Kd.R_drewN | apply Kd.R_drew)); exact HO143.out) hb); have n1_ := Aside0.mk (Kd.R_lower ho8 (below_size (by repeat (first | (with_reducible first | exact HB.out | apply below_alloc | apply pw_below_drewN | apply below_drew1) | exact HB.out)))); have n2_ := Aside0.mk (below_step (by repeat (first | (with_reducible first | exact HB.out | apply below_alloc | apply pw_below_drewN | apply below_drew1) | exact HB.out)) hb); clear HO143; clear HB; have HO143 := n0_; have HO146 := n1_; have HB := n2_; clear n0_ n1_ n2_; clear hb ho8))
      go_ret
      exact ⟨by first | rfl | (simp [errW_none, errW_some] <;> rfl) | (simp [*, errW_none, errW_some] <;> rfl), by repeat (first | (with_reducible first | exact HB.out | apply below_alloc | apply pw_below_drewN | apply below_drew1) | exact HB.out)⟩
    · rw [if_neg c4] at H
      have c4b0 : decide (a0 < 0) = false := decide_eq_false c4
      clear c4
      by_cases c9 : a0 ≥ (y141.length : Int)
      · rw [if_pos c9] at H
        have c9b0 : decide ((y141.length : Int) ≤ a0) = true := decide_eq_true c9
        clear c9
        obtain rfl := Option.some.inj H
        go_enter Try.func6, Try.ntmps6
        go_wp2_with (first | ((with_reducible refine gate_callee (f := 9) rfl ?_); refine goesL_ (some 9) rfl rfl Try.func9 (by kernel_rfl) rfl #[] rfl (by (try simp only [List.map_toArray, List.map_cons, List.map_nil]); first | done | rfl | (simp only [List.length_drop, List.length_take]; rfl)) ?_; (with_reducible refine (abridgerlaw3_alive.calls k  true _ A2.out).mono ?_); rintro e w' ⟨rfl, ⟨nd, rfl⟩⟩; refine ⟨_, rfl, ?_⟩) | ((with_reducible refine gate_dst (N := 10) rfl ?_); (try (refine gate_guard (by rfl) ?_; dsimp only)); refine Kd.R_lit Kd.string _ 9 ?hg (N := 10) ?hd (xs := ([(⟨#[65]⟩ : ByteArray), (⟨#[66]⟩ : ByteArray), (⟨#[67]⟩ : ByteArray), (⟨#[68]⟩ : ByteArray), (⟨#[]⟩ : ByteArray), (⟨#[103]⟩ : ByteArray), (⟨#[103, 65]⟩ : ByteArray), (⟨#[103, 66]⟩ : ByteArray), (⟨#[103, 103, 65]⟩ : ByteArray), (⟨#[33]⟩ : ByteArray), (⟨#[97]⟩ : ByteArray), (⟨#[47]⟩ : ByteArray), (⟨#[43, 68]⟩ : ByteArray), (⟨#[103, 103, 103, 103, 103, 103, 103, 67]⟩ : ByteArray), (⟨#[103, 103, 103, 103, 103, 103, 103, 103, 103, 103, 103, 67]⟩ : ByteArray), (⟨#[61]⟩ : ByteArray), (⟨#[65, 65]⟩ : ByteArray)] : List ByteArray)) (inner := [.string (⟨#[65]⟩ : ByteArray), .string (⟨#[66]⟩ : ByteArray), .string (⟨#[67]⟩ : ByteArray), .string (⟨#[68]⟩ : ByteArray), .string (⟨#[]⟩ : ByteArray), .string (⟨#[103]⟩ : ByteArray), .string (⟨#[103, 65]⟩ : ByteArray), .string (⟨#[103, 66]⟩ : ByteArray), .string (⟨#[103, 103, 65]⟩ : ByteArray), .string (⟨#[33]⟩ : ByteArray), .string (⟨#[97]⟩ : ByteArray), .string (⟨#[47]⟩ : ByteArray), .string (⟨#[43, 68]⟩ : ByteArray), .string (⟨#[103, 103, 103, 103, 103, 103, 103, 67]⟩ : ByteArray), .string (⟨#[103, 103, 103, 103, 103, 103, 103, 103, 103, 103, 103, 67]⟩ : ByteArray), .string (⟨#[61]⟩ : ByteArray), .string (⟨#[65, 65]⟩ : ByteArray)]) (ok := fun _ => True) (okp := fun _ => True) ?hr ?hp (fun _ hk => hk) trivial (Below.refl _ _) (Nat.le_refl _) (by simp) ?_; (case hd => rfl); (case hg => rfl); (case hr => first | (go_simp; done) | (go_simp; rfl)); (case hp => exact (Reps.one (show Kd.M Kd.string _ _ _ (⟨#[65]⟩ : ByteArray) [.string (⟨#[65]⟩ : ByteArray)] from rfl) (Reps.one (show Kd.M Kd.string _ _ _ (⟨#[66]⟩ : ByteArray) [.string (⟨#[66]⟩ : ByteArray)] from rfl) (Reps.one (show Kd.M Kd.string _ _ _ (⟨#[67]⟩ : ByteArray) [.string (⟨#[67]⟩ : ByteArray)] from rfl) (Reps.one (show Kd.M Kd.string _ _ _ (⟨#[68]⟩ : ByteArray) [.string (⟨#[68]⟩ : ByteArray)] from rfl) (Reps.one (show Kd.M Kd.string _ _ _ (⟨#[]⟩ : ByteArray) [.string (⟨#[]⟩ : ByteArray)] from rfl) (Reps.one (show Kd.M Kd.string _ _ _ (⟨#[103]⟩ : ByteArray) [.string (⟨#[103]⟩ : ByteArray)] from rfl) (Reps.one (show Kd.M Kd.string _ _ _ (⟨#[103, 65]⟩ : ByteArray) [.string (⟨#[103, 65]⟩ : ByteArray)] from rfl) (Reps.one (show Kd.M Kd.string _ _ _ (⟨#[103, 66]⟩ : ByteArray) [.string (⟨#[103, 66]⟩ : ByteArray)] from rfl) (Reps.one (show Kd.M Kd.string _ _ _ (⟨#[103, 103, 65]⟩ : ByteArray) [.string (⟨#[103, 103, 65]⟩ : ByteArray)] from rfl) (Reps.one (show Kd.M Kd.string _ _ _ (⟨#[33]⟩ : ByteArray) [.string (⟨#[33]⟩ : ByteArray)] from rfl) (Reps.one (show Kd.M Kd.string _ _ _ (⟨#[97]⟩ : ByteArray) [.string (⟨#[97]⟩ : ByteArray)] from rfl) (Reps.one (show Kd.M Kd.string _ _ _ (⟨#[47]⟩ : ByteArray) [.string (⟨#[47]⟩ : ByteArray)] from rfl) (Reps.one (show Kd.M Kd.string _ _ _ (⟨#[43, 68]⟩ : ByteArray) [.string (⟨#[43, 68]⟩ : ByteArray)] from rfl) (Reps.one (show Kd.M Kd.string _ _ _ (⟨#[103, 103, 103, 103, 103, 103, 103, 67]⟩ : ByteArray) [.string (⟨#[103, 103, 103, 103, 103, 103, 103, 67]⟩ : ByteArray)] from rfl) (Reps.one (show Kd.M Kd.string _ _ _ (⟨#[103, 103, 103, 103, 103, 103, 103, 103, 103, 103, 103, 67]⟩ : ByteArray) [.string (⟨#[103, 103, 103, 103, 103, 103, 103, 103, 103, 103, 103, 67]⟩ : ByteArray)] from rfl) (Reps.one (show Kd.M Kd.string _ _ _ (⟨#[61]⟩ : ByteArray) [.string (⟨#[61]⟩ : ByteArray)] from rfl) (Reps.one (show Kd.M Kd.string _ _ _ (⟨#[65, 65]⟩ : ByteArray) [.string (⟨#[65, 65]⟩ : ByteArray)] from rfl) (Reps.none _ _))))))))))))))))))); intro v142 w10 ho11 hb hg_ hnew_; clear hg_ hnew_; (first | rw [← Ny141.out] at ho11 | (simp only [Int.reduceToNat] at ho11; rw [← Ny141.out] at ho11)); have n0_ := Aside0.mk (Kd.R_lower ho11 (below_size (by repeat (first | (with_reducible first | exact HB.out | apply below_alloc | apply pw_below_drewN | apply below_drew1) | exact HB.out)))); have n1_ := Aside0.mk (below_step (by repeat (first | (with_reducible first | exact HB.out | apply below_alloc | apply pw_below_drewN | apply below_drew1) | exact HB.out)) hb); clear HB; have HO143 := n0_; have HB := n1_; clear n0_ n1_; clear hb ho11) | ((with_reducible refine gate_dst (N := 11) rfl ?_); (try (refine gate_guard (by rfl) ?_; dsimp only)); refine Kd.R_lit Kd.bool _ 4 ?hg (N := 11) ?hd (xs := ([true, false, true, true, false, false, false, true, false, false, true, false, true, true, false, false, true] : List Bool)) (inner := [.bool true, .bool false, .bool true, .bool true, .bool false, .bool false, .bool false, .bool true, .bool false, .bool false, .bool true, .bool false, .bool true, .bool true, .bool false, .bool false, .bool true]) (ok := fun _ => True) (okp := fun _ => True) ?hr ?hp (fun _ hk => hk) trivial (Below.refl _ _) (Nat.le_refl _) (by simp) ?_; (case hd => rfl); (case hg => rfl); (case hr => first | (go_simp; done) | (go_simp; rfl)); (case hp => exact (Reps.one (show Kd.M Kd.bool _ _ _ true [.bool true] from rfl) (Reps.one (show Kd.M Kd.bool _ _ _ false [.bool false] from rfl) (Reps.one (show Kd.M Kd.bool _ _ _ true [.bool true] from rfl) (Reps.one (show Kd.M Kd.bool _ _ _ true [.bool true] from rfl) (Reps.one (show Kd.M Kd.bool _ _ _ false [.bool false] from rfl) (Reps.one (show Kd.M Kd.bool _ _ _ false [.bool false] from rfl) (Reps.one (show Kd.M Kd.bool _ _ _ false [.bool false] from rfl) (Reps.one (show Kd.M Kd.bool _ _ _ true [.bool true] from rfl) (Reps.one (show Kd.M Kd.bool _ _ _ false [.bool false] from rfl) (Reps.one (show Kd.M Kd.bool _ _ _ false [.bool false] from rfl) (Reps.one (show Kd.M Kd.bool _ _ _ true [.bool true] from rfl) (Reps.one (show Kd.M Kd.bool _ _ _ false [.bool false] from rfl) (Reps.one (show Kd.M Kd.bool _ _ _ true [.bool true] from rfl) (Reps.one (show Kd.M Kd.bool _ _ _ true [.bool true] from rfl) (Reps.one (show Kd.M Kd.bool _ _ _ false [.bool false] from rfl) (Reps.one (show Kd.M Kd.bool _ _ _ false [.bool false] from rfl) (Reps.one (show Kd.M Kd.bool _ _ _ true [.bool true] from rfl) (Reps.none _ _))))))))))))))))))); intro v145 w12 ho13 hb hg_ hnew_; clear hg_ hnew_; (first | rw [← Ny144.out] at ho13 | (simp only [Int.reduceToNat] at ho13; rw [← Ny144.out] at ho13)); have n0_ := Aside0.mk (Kd.R_below (by (with_reducible repeat (first | apply Kd.R_alloc | apply Kd.R_drewN | apply Kd.R_drew)); exact HO143.out) hb); have n1_ := Aside0.mk (Kd.R_lower ho13 (below_size (by repeat (first | (with_reducible first | exact HB.out | apply below_alloc | apply pw_below_drewN | apply below_drew1) | exact HB.out)))); have n2_ := Aside0.mk (below_step (by repeat (first | (with_reducible first | exact HB.out | apply below_alloc | apply pw_below_drewN | apply below_drew1) | exact HB.out)) hb); clear HO143; clear HB; have HO143 := n0_; have HO146 := n1_; have HB := n2_; clear n0_ n1_ n2_; clear hb ho13; obtain ⟨Ao14, co14, eo14⟩ := Kd.R_slice HO143.out; subst eo14))
        go_ret
        exact ⟨by first | rfl | (simp [errW_none, errW_some] <;> rfl) | (simp [*, errW_none, errW_some] <;> rfl), by repeat (first | (with_reducible first | exact HB.out | apply below_alloc | apply pw_below_drewN | apply below_drew1) | exact HB.out)⟩
      · rw [if_neg c9] at H
        have c9b0 : decide ((y141.length : Int) ≤ a0) = false := decide_eq_false c9
        clear c9
        by_cases c15 : 0 ≤ a0
        · rw [if_pos c15] at H
          have c15b0 : decide (0 ≤ a0) = true := decide_eq_true c15
          clear c15
          by_cases c16 : a0 < (y141.length : Int)
          · rw [if_pos c16] at H
            have c16b0 : decide (a0 < (y141.length : Int)) = true := decide_eq_true c16
            clear c16
            replace H := Option.bind_eq_some_iff.mp H
            obtain ⟨⟨t148, t149, t150⟩, A170, H⟩ := H
            replace H : (if a0 < (y144.length : Int) then (some (t150 == (rdOf false y144 a0))) else (none)) = some r := H
            have A17 := Aside0.mk A170
            clear A170
            by_cases c18 : a0 < (y144.length : Int)
            · rw [if_pos c18] at H
              have c18b0 : decide (a0 < (y144.length : Int)) = true := decide_eq_true c18
              clear c18
              obtain rfl := Option.some.inj H
              go_enter Try.func6, Try.ntmps6
              go_wp2_with (first | ((with_reducible refine gate_callee (f := 9) rfl ?_); refine goesL_ (some 9) rfl rfl Try.func9 (by kernel_rfl) rfl #[] rfl (by (try simp only [List.map_toArray, List.map_cons, List.map_nil]); first | done | rfl | (simp only [List.length_drop, List.length_take]; rfl)) ?_; (with_reducible refine (abridgerlaw3_alive.calls k  true _ A2.out).mono ?_); rintro e w' ⟨rfl, ⟨nd, rfl⟩⟩; refine ⟨_, rfl, ?_⟩) | ((with_reducible refine gate_dst (N := 10) rfl ?_); (try (refine gate_guard (by rfl) ?_; dsimp only)); refine Kd.R_lit Kd.string _ 9 ?hg (N := 10) ?hd (xs := ([(⟨#[65]⟩ : ByteArray), (⟨#[66]⟩ : ByteArray), (⟨#[67]⟩ : ByteArray), (⟨#[68]⟩ : ByteArray), (⟨#[]⟩ : ByteArray), (⟨#[103]⟩ : ByteArray), (⟨#[103, 65]⟩ : ByteArray), (⟨#[103, 66]⟩ : ByteArray), (⟨#[103, 103, 65]⟩ : ByteArray), (⟨#[33]⟩ : ByteArray), (⟨#[97]⟩ : ByteArray), (⟨#[47]⟩ : ByteArray), (⟨#[43, 68]⟩ : ByteArray), (⟨#[103, 103, 103, 103, 103, 103, 103, 67]⟩ : ByteArray), (⟨#[103, 103, 103, 103, 103, 103, 103, 103, 103, 103, 103, 67]⟩ : ByteArray), (⟨#[61]⟩ : ByteArray), (⟨#[65, 65]⟩ : ByteArray)] : List ByteArray)) (inner := [.string (⟨#[65]⟩ : ByteArray), .string (⟨#[66]⟩ : ByteArray), .string (⟨#[67]⟩ : ByteArray), .string (⟨#[68]⟩ : ByteArray), .string (⟨#[]⟩ : ByteArray), .string (⟨#[103]⟩ : ByteArray), .string (⟨#[103, 65]⟩ : ByteArray), .string (⟨#[103, 66]⟩ : ByteArray), .string (⟨#[103, 103, 65]⟩ : ByteArray), .string (⟨#[33]⟩ : ByteArray), .string (⟨#[97]⟩ : ByteArray), .string (⟨#[47]⟩ : ByteArray), .string (⟨#[43, 68]⟩ : ByteArray), .string (⟨#[103, 103, 103, 103, 103, 103, 103, 67]⟩ : ByteArray), .string (⟨#[103, 103, 103, 103, 103, 103, 103, 103, 103, 103, 103, 67]⟩ : ByteArray), .string (⟨#[61]⟩ : ByteArray), .string (⟨#[65, 65]⟩ : ByteArray)]) (ok := fun _ => True) (okp := fun _ => True) ?hr ?hp (fun _ hk => hk) trivial (Below.refl _ _) (Nat.le_refl _) (by simp) ?_; (case hd => rfl); (case hg => rfl); (case hr => first | (go_simp; done) | (go_simp; rfl)); (case hp => exact (Reps.one (show Kd.M Kd.string _ _ _ (⟨#[65]⟩ : ByteArray) [.string (⟨#[65]⟩ : ByteArray)] from rfl) (Reps.one (show Kd.M Kd.string _ _ _ (⟨#[66]⟩ : ByteArray) [.string (⟨#[66]⟩ : ByteArray)] from rfl) (Reps.one (show Kd.M Kd.string _ _ _ (⟨#[67]⟩ : ByteArray) [.string (⟨#[67]⟩ : ByteArray)] from rfl) (Reps.one (show Kd.M Kd.string _ _ _ (⟨#[68]⟩ : ByteArray) [.string (⟨#[68]⟩ : ByteArray)] from rfl) (Reps.one (show Kd.M Kd.string _ _ _ (⟨#[]⟩ : ByteArray) [.string (⟨#[]⟩ : ByteArray)] from rfl) (Reps.one (show Kd.M Kd.string _ _ _ (⟨#[103]⟩ : ByteArray) [.string (⟨#[103]⟩ : ByteArray)] from rfl) (Reps.one (show Kd.M Kd.string _ _ _ (⟨#[103, 65]⟩ : ByteArray) [.string (⟨#[103, 65]⟩ : ByteArray)] from rfl) (Reps.one (show Kd.M Kd.string _ _ _ (⟨#[103, 66]⟩ : ByteArray) [.string (⟨#[103, 66]⟩ : ByteArray)] from rfl) (Reps.one (show Kd.M Kd.string _ _ _ (⟨#[103, 103, 65]⟩ : ByteArray) [.string (⟨#[103, 103, 65]⟩ : ByteArray)] from rfl) (Reps.one (show Kd.M Kd.string _ _ _ (⟨#[33]⟩ : ByteArray) [.string (⟨#[33]⟩ : ByteArray)] from rfl) (Reps.one (show Kd.M Kd.string _ _ _ (⟨#[97]⟩ : ByteArray) [.string (⟨#[97]⟩ : ByteArray)] from rfl) (Reps.one (show Kd.M Kd.string _ _ _ (⟨#[47]⟩ : ByteArray) [.string (⟨#[47]⟩ : ByteArray)] from rfl) (Reps.one (show Kd.M Kd.string _ _ _ (⟨#[43, 68]⟩ : ByteArray) [.string (⟨#[43, 68]⟩ : ByteArray)] from rfl) (Reps.one (show Kd.M Kd.string _ _ _ (⟨#[103, 103, 103, 103, 103, 103, 103, 67]⟩ : ByteArray) [.string (⟨#[103, 103, 103, 103, 103, 103, 103, 67]⟩ : ByteArray)] from rfl) (Reps.one (show Kd.M Kd.string _ _ _ (⟨#[103, 103, 103, 103, 103, 103, 103, 103, 103, 103, 103, 67]⟩ : ByteArray) [.string (⟨#[103, 103, 103, 103, 103, 103, 103, 103, 103, 103, 103, 67]⟩ : ByteArray)] from rfl) (Reps.one (show Kd.M Kd.string _ _ _ (⟨#[61]⟩ : ByteArray) [.string (⟨#[61]⟩ : ByteArray)] from rfl) (Reps.one (show Kd.M Kd.string _ _ _ (⟨#[65, 65]⟩ : ByteArray) [.string (⟨#[65, 65]⟩ : ByteArray)] from rfl) (Reps.none _ _))))))))))))))))))); intro v142 w19 ho20 hb hg_ hnew_; clear hg_ hnew_; (first | rw [← Ny141.out] at ho20 | (simp only [Int.reduceToNat] at ho20; rw [← Ny141.out] at ho20)); have n0_ := Aside0.mk (Kd.R_lower ho20 (below_size (by repeat (first | (with_reducible first | exact HB.out | apply below_alloc | apply pw_below_drewN | apply below_drew1) | exact HB.out)))); have n1_ := Aside0.mk (below_step (by repeat (first | (with_reducible first | exact HB.out | apply below_alloc | apply pw_below_drewN | apply below_drew1) | exact HB.out)) hb); clear HB; have HO143 := n0_; have HB := n1_; clear n0_ n1_; clear hb ho20) | ((with_reducible refine gate_dst (N := 11) rfl ?_); (try (refine gate_guard (by rfl) ?_; dsimp only)); refine Kd.R_lit Kd.bool _ 4 ?hg (N := 11) ?hd (xs := ([true, false, true, true, false, false, false, true, false, false, true, false, true, true, false, false, true] : List Bool)) (inner := [.bool true, .bool false, .bool true, .bool true, .bool false, .bool false, .bool false, .bool true, .bool false, .bool false, .bool true, .bool false, .bool true, .bool true, .bool false, .bool false, .bool true]) (ok := fun _ => True) (okp := fun _ => True) ?hr ?hp (fun _ hk => hk) trivial (Below.refl _ _) (Nat.le_refl _) (by simp) ?_; (case hd => rfl); (case hg => rfl); (case hr => first | (go_simp; done) | (go_simp; rfl)); (case hp => exact (Reps.one (show Kd.M Kd.bool _ _ _ true [.bool true] from rfl) (Reps.one (show Kd.M Kd.bool _ _ _ false [.bool false] from rfl) (Reps.one (show Kd.M Kd.bool _ _ _ true [.bool true] from rfl) (Reps.one (show Kd.M Kd.bool _ _ _ true [.bool true] from rfl) (Reps.one (show Kd.M Kd.bool _ _ _ false [.bool false] from rfl) (Reps.one (show Kd.M Kd.bool _ _ _ false [.bool false] from rfl) (Reps.one (show Kd.M Kd.bool _ _ _ false [.bool false] from rfl) (Reps.one (show Kd.M Kd.bool _ _ _ true [.bool true] from rfl) (Reps.one (show Kd.M Kd.bool _ _ _ false [.bool false] from rfl) (Reps.one (show Kd.M Kd.bool _ _ _ false [.bool false] from rfl) (Reps.one (show Kd.M Kd.bool _ _ _ true [.bool true] from rfl) (Reps.one (show Kd.M Kd.bool _ _ _ false [.bool false] from rfl) (Reps.one (show Kd.M Kd.bool _ _ _ true [.bool true] from rfl) (Reps.one (show Kd.M Kd.bool _ _ _ true [.bool true] from rfl) (Reps.one (show Kd.M Kd.bool _ _ _ false [.bool false] from rfl) (Reps.one (show Kd.M Kd.bool _ _ _ false [.bool false] from rfl) (Reps.one (show Kd.M Kd.bool _ _ _ true [.bool true] from rfl) (Reps.none _ _))))))))))))))))))); intro v145 w21 ho22 hb hg_ hnew_; clear hg_ hnew_; (first | rw [← Ny144.out] at ho22 | (simp only [Int.reduceToNat] at ho22; rw [← Ny144.out] at ho22)); have n0_ := Aside0.mk (Kd.R_below (by (with_reducible repeat (first | apply Kd.R_alloc | apply Kd.R_drewN | apply Kd.R_drew)); exact HO143.out) hb); have n1_ := Aside0.mk (Kd.R_lower ho22 (below_size (by repeat (first | (with_reducible first | exact HB.out | apply below_alloc | apply pw_below_drewN | apply below_drew1) | exact HB.out)))); have n2_ := Aside0.mk (below_step (by repeat (first | (with_reducible first | exact HB.out | apply below_alloc | apply pw_below_drewN | apply below_drew1) | exact HB.out)) hb); clear HO143; clear HB; have HO143 := n0_; have HO146 := n1_; have HB := n2_; clear n0_ n1_ n2_; clear hb ho22; obtain ⟨Ao23, co23, eo23⟩ := Kd.R_slice HO143.out; subst eo23; have p147 : 0 ≤ (a0 : Int) := of_decide_eq_true (by first | (with_reducible assumption) | assumption); have q147 : a0 < (y141.length : Int) := of_decide_eq_true (by first | (with_reducible assumption) | assumption); obtain ⟨ad147, e147, hx147_0⟩ := Kd.at_string (Kd.R_reads' HO143.out).2.2 a0 p147 q147; cases e147; replace p147 := eq_true p147; replace q147 := eq_true q147) | ((with_reducible refine gate_callee (f := 10) rfl ?_); refine goesL_ (some 30) rfl rfl Try.func10 (by kernel_rfl) rfl #[.string (rdOf ByteArray.empty y141 a0), .int .i64 0] rfl (by (try simp only [List.map_toArray, List.map_cons, List.map_nil]); first | done | rfl | (simp only [List.length_drop, List.length_take]; rfl)) ?_; (with_reducible refine (vlq_Get.calls k (rdOf ByteArray.empty y141 a0) 0 t148 t149 t150 _ A17.out).mono ?_); rintro e w' ⟨rfl, ⟨nd, rfl⟩⟩; refine ⟨_, rfl, ?_⟩; obtain ⟨Ao24, co24, eo24⟩ := Kd.R_slice HO146.out; subst eo24; have p151 : 0 ≤ (a0 : Int) := of_decide_eq_true (by first | (with_reducible assumption) | assumption); have q151 : a0 < (y144.length : Int) := of_decide_eq_true (by first | (with_reducible assumption) | assumption); obtain ⟨ad151, e151, hx151_0⟩ := Kd.at_bool (Kd.R_reads' HO146.out).2.2 a0 p151 q151; cases e151; replace p151 := eq_true p151; replace q151 := eq_true q151))
              go_ret
              exact ⟨by first | rfl | (simp [errW_none, errW_some] <;> rfl) | (simp [*, errW_none, errW_some] <;> rfl), by repeat (first | (with_reducible first | exact HB.out | apply below_alloc | apply pw_below_drewN | apply below_drew1) | exact HB.out)⟩
            · rw [if_neg c18] at H
              exact absurd H (by simp)
          · rw [if_neg c16] at H
            exact absurd H (by simp)
        · rw [if_neg c15] at H
          exact absurd H (by simp)
  · replace c3 := Bool.eq_false_iff.mpr c3
    subst c3
    have H1 : (some false) = some r := by rw [if_neg (show ¬ (false = true) by decide)] at H; exact H
    clear H
    have H := H1
    clear H1
    obtain rfl := Option.some.inj H
    go_enter Try.func6, Try.ntmps6
    go_wp2_with (first | ((with_reducible refine gate_callee (f := 9) rfl ?_); refine goesL_ (some 9) rfl rfl Try.func9 (by kernel_rfl) rfl #[] rfl (by (try simp only [List.map_toArray, List.map_cons, List.map_nil]); first | done | rfl | (simp only [List.length_drop, List.length_take]; rfl)) ?_; (with_reducible refine (abridgerlaw3_alive.calls k  false _ A2.out).mono ?_); rintro e w' ⟨rfl, ⟨nd, rfl⟩⟩; refine ⟨_, rfl, ?_⟩) | ((with_reducible refine gate_dst (N := 10) rfl ?_); (try (refine gate_guard (by rfl) ?_; dsimp only)); refine Kd.R_lit Kd.string _ 9 ?hg (N := 10) ?hd (xs := ([(⟨#[65]⟩ : ByteArray), (⟨#[66]⟩ : ByteArray), (⟨#[67]⟩ : ByteArray), (⟨#[68]⟩ : ByteArray), (⟨#[]⟩ : ByteArray), (⟨#[103]⟩ : ByteArray), (⟨#[103, 65]⟩ : ByteArray), (⟨#[103, 66]⟩ : ByteArray), (⟨#[103, 103, 65]⟩ : ByteArray), (⟨#[33]⟩ : ByteArray), (⟨#[97]⟩ : ByteArray), (⟨#[47]⟩ : ByteArray), (⟨#[43, 68]⟩ : ByteArray), (⟨#[103, 103, 103, 103, 103, 103, 103, 67]⟩ : ByteArray), (⟨#[103, 103, 103, 103, 103, 103, 103, 103, 103, 103, 103, 67]⟩ : ByteArray), (⟨#[61]⟩ : ByteArray), (⟨#[65, 65]⟩ : ByteArray)] : List ByteArray)) (inner := [.string (⟨#[65]⟩ : ByteArray), .string (⟨#[66]⟩ : ByteArray), .string (⟨#[67]⟩ : ByteArray), .string (⟨#[68]⟩ : ByteArray), .string (⟨#[]⟩ : ByteArray), .string (⟨#[103]⟩ : ByteArray), .string (⟨#[103, 65]⟩ : ByteArray), .string (⟨#[103, 66]⟩ : ByteArray), .string (⟨#[103, 103, 65]⟩ : ByteArray), .string (⟨#[33]⟩ : ByteArray), .string (⟨#[97]⟩ : ByteArray), .string (⟨#[47]⟩ : ByteArray), .string (⟨#[43, 68]⟩ : ByteArray), .string (⟨#[103, 103, 103, 103, 103, 103, 103, 67]⟩ : ByteArray), .string (⟨#[103, 103, 103, 103, 103, 103, 103, 103, 103, 103, 103, 67]⟩ : ByteArray), .string (⟨#[61]⟩ : ByteArray), .string (⟨#[65, 65]⟩ : ByteArray)]) (ok := fun _ => True) (okp := fun _ => True) ?hr ?hp (fun _ hk => hk) trivial (Below.refl _ _) (Nat.le_refl _) (by simp) ?_; (case hd => rfl); (case hg => rfl); (case hr => first | (go_simp; done) | (go_simp; rfl)); (case hp => exact (Reps.one (show Kd.M Kd.string _ _ _ (⟨#[65]⟩ : ByteArray) [.string (⟨#[65]⟩ : ByteArray)] from rfl) (Reps.one (show Kd.M Kd.string _ _ _ (⟨#[66]⟩ : ByteArray) [.string (⟨#[66]⟩ : ByteArray)] from rfl) (Reps.one (show Kd.M Kd.string _ _ _ (⟨#[67]⟩ : ByteArray) [.string (⟨#[67]⟩ : ByteArray)] from rfl) (Reps.one (show Kd.M Kd.string _ _ _ (⟨#[68]⟩ : ByteArray) [.string (⟨#[68]⟩ : ByteArray)] from rfl) (Reps.one (show Kd.M Kd.string _ _ _ (⟨#[]⟩ : ByteArray) [.string (⟨#[]⟩ : ByteArray)] from rfl) (Reps.one (show Kd.M Kd.string _ _ _ (⟨#[103]⟩ : ByteArray) [.string (⟨#[103]⟩ : ByteArray)] from rfl) (Reps.one (show Kd.M Kd.string _ _ _ (⟨#[103, 65]⟩ : ByteArray) [.string (⟨#[103, 65]⟩ : ByteArray)] from rfl) (Reps.one (show Kd.M Kd.string _ _ _ (⟨#[103, 66]⟩ : ByteArray) [.string (⟨#[103, 66]⟩ : ByteArray)] from rfl) (Reps.one (show Kd.M Kd.string _ _ _ (⟨#[103, 103, 65]⟩ : ByteArray) [.string (⟨#[103, 103, 65]⟩ : ByteArray)] from rfl) (Reps.one (show Kd.M Kd.string _ _ _ (⟨#[33]⟩ : ByteArray) [.string (⟨#[33]⟩ : ByteArray)] from rfl) (Reps.one (show Kd.M Kd.string _ _ _ (⟨#[97]⟩ : ByteArray) [.string (⟨#[97]⟩ : ByteArray)] from rfl) (Reps.one (show Kd.M Kd.string _ _ _ (⟨#[47]⟩ : ByteArray) [.string (⟨#[47]⟩ : ByteArray)] from rfl) (Reps.one (show Kd.M Kd.string _ _ _ (⟨#[43, 68]⟩ : ByteArray) [.string (⟨#[43, 68]⟩ : ByteArray)] from rfl) (Reps.one (show Kd.M Kd.string _ _ _ (⟨#[103, 103, 103, 103, 103, 103, 103, 67]⟩ : ByteArray) [.string (⟨#[103, 103, 103, 103, 103, 103, 103, 67]⟩ : ByteArray)] from rfl) (Reps.one (show Kd.M Kd.string _ _ _ (⟨#[103, 103, 103, 103, 103, 103, 103, 103, 103, 103, 103, 67]⟩ : ByteArray) [.string (⟨#[103, 103, 103, 103, 103, 103, 103, 103, 103, 103, 103, 67]⟩ : ByteArray)] from rfl) (Reps.one (show Kd.M Kd.string _ _ _ (⟨#[61]⟩ : ByteArray) [.string (⟨#[61]⟩ : ByteArray)] from rfl) (Reps.one (show Kd.M Kd.string _ _ _ (⟨#[65, 65]⟩ : ByteArray) [.string (⟨#[65, 65]⟩ : ByteArray)] from rfl) (Reps.none _ _))))))))))))))))))); intro v142 w25 ho26 hb hg_ hnew_; clear hg_ hnew_; (first | rw [← Ny141.out] at ho26 | (simp only [Int.reduceToNat] at ho26; rw [← Ny141.out] at ho26)); have n0_ := Aside0.mk (Kd.R_lower ho26 (below_size (by repeat (first | (with_reducible first | exact HB.out | apply below_alloc | apply pw_below_drewN | apply below_drew1) | exact HB.out)))); have n1_ := Aside0.mk (below_step (by repeat (first | (with_reducible first | exact HB.out | apply below_alloc | apply pw_below_drewN | apply below_drew1) | exact HB.out)) hb); clear HB; have HO143 := n0_; have HB := n1_; clear n0_ n1_; clear hb ho26) | ((with_reducible refine gate_dst (N := 11) rfl ?_); (try (refine gate_guard (by rfl) ?_; dsimp only)); refine Kd.R_lit Kd.bool _ 4 ?hg (N := 11) ?hd (xs := ([true, false, true, true, false, false, false, true, false, false, true, false, true, true, false, false, true] : List Bool)) (inner := [.bool true, .bool false, .bool true, .bool true, .bool false, .bool false, .bool false, .bool true, .bool false, .bool false, .bool true, .bool false, .bool true, .bool true, .bool false, .bool false, .bool true]) (ok := fun _ => True) (okp := fun _ => True) ?hr ?hp (fun _ hk => hk) trivial (Below.refl _ _) (Nat.le_refl _) (by simp) ?_; (case hd => rfl); (case hg => rfl); (case hr => first | (go_simp; done) | (go_simp; rfl)); (case hp => exact (Reps.one (show Kd.M Kd.bool _ _ _ true [.bool true] from rfl) (Reps.one (show Kd.M Kd.bool _ _ _ false [.bool false] from rfl) (Reps.one (show Kd.M Kd.bool _ _ _ true [.bool true] from rfl) (Reps.one (show Kd.M Kd.bool _ _ _ true [.bool true] from rfl) (Reps.one (show Kd.M Kd.bool _ _ _ false [.bool false] from rfl) (Reps.one (show Kd.M Kd.bool _ _ _ false [.bool false] from rfl) (Reps.one (show Kd.M Kd.bool _ _ _ false [.bool false] from rfl) (Reps.one (show Kd.M Kd.bool _ _ _ true [.bool true] from rfl) (Reps.one (show Kd.M Kd.bool _ _ _ false [.bool false] from rfl) (Reps.one (show Kd.M Kd.bool _ _ _ false [.bool false] from rfl) (Reps.one (show Kd.M Kd.bool _ _ _ true [.bool true] from rfl) (Reps.one (show Kd.M Kd.bool _ _ _ false [.bool false] from rfl) (Reps.one (show Kd.M Kd.bool _ _ _ true [.bool true] from rfl) (Reps.one (show Kd.M Kd.bool _ _ _ true [.bool true] from rfl) (Reps.one (show Kd.M Kd.bool _ _ _ false [.bool false] from rfl) (Reps.one (show Kd.M Kd.bool _ _ _ false [.bool false] from rfl) (Reps.one (show Kd.M Kd.bool _ _ _ true [.bool true] from rfl) (Reps.none _ _))))))))))))))))))); intro v145 w27 ho28 hb hg_ hnew_; clear hg_ hnew_; (first | rw [← Ny144.out] at ho28 | (simp only [Int.reduceToNat] at ho28; rw [← Ny144.out] at ho28)); have n0_ := Aside0.mk (Kd.R_below (by (with_reducible repeat (first | apply Kd.R_alloc | apply Kd.R_drewN | apply Kd.R_drew)); exact HO143.out) hb); have n1_ := Aside0.mk (Kd.R_lower ho28 (below_size (by repeat (first | (with_reducible first | exact HB.out | apply below_alloc | apply pw_below_drewN | apply below_drew1) | exact HB.out)))); have n2_ := Aside0.mk (below_step (by repeat (first | (with_reducible first | exact HB.out | apply below_alloc | apply pw_below_drewN | apply below_drew1) | exact HB.out)) hb); clear HO143; clear HB; have HO143 := n0_; have HO146 := n1_; have HB := n2_; clear n0_ n1_ n2_; clear hb ho28))
    go_ret
    exact ⟨by first | rfl | (simp [errW_none, errW_some] <;> rfl) | (simp [*, errW_none, errW_some] <;> rfl), by repeat (first | (with_reducible first | exact HB.out | apply below_alloc | apply pw_below_drewN | apply below_drew1) | exact HB.out)⟩

/-- THE ONE PURE STATEMENT of abridgerlaw3_VlqWrong: yours. -/
def abridgerlaw3_VlqWrong.Pure : Prop := ∀ (a0 : Int), (Lit.int .i64 a0).wf = true → ∃ k, abridgerlaw3_VlqWrong.f k a0 = some true
theorem abridgerlaw3_VlqWrong.walk (P : abridgerlaw3_VlqWrong.Pure) (a0 : Int) (w : World) (w0 : (Lit.int .i64 a0).wf = true) :
    Calls Try.prog 6 #[.int .i64 a0] w fun e w' => e = .returned (.bool true) ∧ Below w.heap.size w w' := by
  obtain ⟨k, h⟩ := P a0 w0
  refine (abridgerlaw3_VlqWrong.calls k a0 true w h).mono ?_
  rintro e w' ⟨rfl, hd⟩
  exact ⟨rfl, hd⟩

/-! ### abridgerlaw3_VlqApart: function 7 -/
def abridgerlaw3_VlqApart.j0 : Nat → Int → Int → Bool → Bool → Option (Bool)
  | 0, _, _, _, _ => none
  | k + 1, x0, x1, x5, x26 => if x26 = true then (some x5) else ((vlq_Put.f k (⟨#[]⟩ : ByteArray) x0).bind fun t153 => ((vlq_Put.f k (⟨#[]⟩ : ByteArray) x1).bind fun t154 => (if (t153.size : Int) = 0 then (some false) else (if (t154.size : Int) = 0 then (some false) else (if ((x0 == x1) == (t153.toList == t154.toList)) = true then (if x0 = x1 then (some true) else (if (t153.size : Int) > (t154.size : Int) then (some true) else (if 0 ≤ (t153.size : Int) then (if (t153.size : Int) ≤ (t154.size : Int) then (some ((t154.extract 0 ((t153.size : Int) : Int).toNat).toList != t153.toList)) else (none)) else (none)))) else (some false))))))
def abridgerlaw3_VlqApart.f (k : Nat) (a0 : Int) (a1 : Int) : Option (Bool) := (abridgerlaw3_alive.f k).bind fun t152 => (if t152 = true then (if a0 < (-1099511627776) then (abridgerlaw3_VlqApart.j0 k a0 a1 t152 true) else (if a0 > 1099511627776 then (abridgerlaw3_VlqApart.j0 k a0 a1 t152 true) else (if a1 < (-1099511627776) then (abridgerlaw3_VlqApart.j0 k a0 a1 t152 true) else (abridgerlaw3_VlqApart.j0 k a0 a1 t152 (decide (a1 > 1099511627776)))))) else (abridgerlaw3_VlqApart.j0 k a0 a1 t152 true))
theorem abridgerlaw3_VlqApart.mono_l : ∀ k, (∀ y0 y1 y2 y3, LeO (abridgerlaw3_VlqApart.j0 k y0 y1 y2 y3) (abridgerlaw3_VlqApart.j0 (k + 1) y0 y1 y2 y3))
  | 0 => fun _ _ _ _ r h => by simp [abridgerlaw3_VlqApart.j0] at h
  | k + 1 => by
    have ih0 := abridgerlaw3_VlqApart.mono_l k
    · intro y0 y1 y2 y3
      unfold abridgerlaw3_VlqApart.j0
      repeat' first
      | (with_reducible exact ih0 _ _ _ _)
      | (with_reducible exact abridgerlaw3_alive.mono _)
      | (with_reducible exact vlq_Put.mono _ _ _)
      | (with_reducible exact LeO.refl _)
      | (with_reducible exact LeO.none _)
      | (with_reducible refine LeO.ite ?_ ?_)
      | (with_reducible refine LeO.bind ?_ (fun _ => ?_))
      | exact ih0 _ _ _ _
      | exact abridgerlaw3_alive.mono _
      | exact vlq_Put.mono _ _ _
      | exact LeO.none _
      | refine LeO.ite ?_ ?_
      | refine LeO.bind ?_ (fun _ => ?_)
theorem abridgerlaw3_VlqApart.mono : ∀ a0 a1 k, LeO (abridgerlaw3_VlqApart.f k a0 a1) (abridgerlaw3_VlqApart.f (k + 1) a0 a1) := by
  intro a0 a1 k
  have ih0 := abridgerlaw3_VlqApart.mono_l k
  unfold abridgerlaw3_VlqApart.f
  repeat' first
      | (with_reducible exact ih0 _ _ _ _)
      | (with_reducible exact abridgerlaw3_alive.mono _)
      | (with_reducible exact vlq_Put.mono _ _ _)
      | (with_reducible exact LeO.refl _)
      | (with_reducible exact LeO.none _)
      | (with_reducible refine LeO.ite ?_ ?_)
      | (with_reducible refine LeO.bind ?_ (fun _ => ?_))
      | exact ih0 _ _ _ _
      | exact abridgerlaw3_alive.mono _
      | exact vlq_Put.mono _ _ _
      | exact LeO.none _
      | refine LeO.ite ?_ ?_
      | refine LeO.bind ?_ (fun _ => ?_)
set_option maxHeartbeats 8000000 in
set_option maxRecDepth 100000 in
theorem abridgerlaw3_VlqApart.calls (k : Nat) (a0 : Int) (a1 : Int) (r : Bool) (w : World) (h : abridgerlaw3_VlqApart.f k a0 a1 = some r) :
    Calls Try.prog 7 #[.int .i64 a0, .int .i64 a1] w fun e w' => e = .returned (.bool r) ∧ Drawn0 w w' := by
  have H : ((abridgerlaw3_alive.f k).bind fun t152 => (if t152 = true then (if a0 < (-1099511627776) then (abridgerlaw3_VlqApart.j0 k a0 a1 t152 true) else (if a0 > 1099511627776 then (abridgerlaw3_VlqApart.j0 k a0 a1 t152 true) else (if a1 < (-1099511627776) then (abridgerlaw3_VlqApart.j0 k a0 a1 t152 true) else (abridgerlaw3_VlqApart.j0 k a0 a1 t152 (decide (a1 > 1099511627776)))))) else (abridgerlaw3_VlqApart.j0 k a0 a1 t152 true))) = some r := h
  clear h
  replace H := Option.bind_eq_some_iff.mp H
  obtain ⟨t152, A30, H⟩ := H
  replace H : (if t152 = true then (if a0 < (-1099511627776) then (abridgerlaw3_VlqApart.j0 k a0 a1 t152 true) else (if a0 > 1099511627776 then (abridgerlaw3_VlqApart.j0 k a0 a1 t152 true) else (if a1 < (-1099511627776) then (abridgerlaw3_VlqApart.j0 k a0 a1 t152 true) else (abridgerlaw3_VlqApart.j0 k a0 a1 t152 (decide (a1 > 1099511627776)))))) else (abridgerlaw3_VlqApart.j0 k a0 a1 t152 true)) = some r := H
  have A3 := Aside0.mk A30
  clear A30
  have HC4 := Aside0.mk H
  clear H
  go_enter Try.func7, Try.ntmps7
  go_upto_region 2 with (first | ((with_reducible refine gate_callee (f := 9) rfl ?_); refine goesL_ (some 8) rfl rfl Try.func9 (by kernel_rfl) rfl #[] rfl (by (try simp only [List.map_toArray, List.map_cons, List.map_nil]); first | done | rfl | (simp only [List.length_drop, List.length_take]; rfl)) ?_; (with_reducible refine (abridgerlaw3_alive.calls k  t152 _ A3.out).mono ?_); rintro e w' ⟨rfl, ⟨nd, rfl⟩⟩; refine ⟨_, rfl, ?_⟩))
  (try simp only [Act.put, List.setIfInBounds_toArray, List.set_cons_zero, List.set_cons_succ])
  go_cut [26] (fun v26 wc => ∃ (kq : Nat) (x26_3 : Bool), v26 = .bool x26_3 ∧ Aside0 (abridgerlaw3_VlqApart.j0 kq a0 a1 t152 x26_3 = some r) ∧ Aside0 (kq ≤ k) ∧ Drawn0 w wc)
  case first =>
    have H := HC4.out
    clear HC4
    by_cases c5 : t152 = true
    · subst c5
      have H1 : (if a0 < (-1099511627776) then (abridgerlaw3_VlqApart.j0 k a0 a1 true true) else (if a0 > 1099511627776 then (abridgerlaw3_VlqApart.j0 k a0 a1 true true) else (if a1 < (-1099511627776) then (abridgerlaw3_VlqApart.j0 k a0 a1 true true) else (abridgerlaw3_VlqApart.j0 k a0 a1 true (decide (a1 > 1099511627776)))))) = some r := by rw [if_pos rfl] at H; exact H
      clear H
      have H := H1
      clear H1
      by_cases c6 : a0 < (-1099511627776)
      · rw [if_pos c6] at H
        have c6b0 : decide (a0 < (-1099511627776)) = true := decide_eq_true c6
        clear c6
        (first | rw [c6b0] | (simp only [i64_w, i32_w]; rw [c6b0]) | skip)
        have H' := Aside0.mk H
        clear H
        go_wp2
        go_meet
        case rel => exact ⟨_, (true), (by first | rfl | (simp; done) | (simp [*]; done)), H', ⟨by first | omega | exact Nat.le_refl _⟩, by repeat (first | exact Drawn0.refl _ | apply Drawn0.step)⟩
      · rw [if_neg c6] at H
        have c6b0 : decide (a0 < (-1099511627776)) = false := decide_eq_false c6
        clear c6
        (first | rw [c6b0] | (simp only [i64_w, i32_w]; rw [c6b0]) | skip)
        by_cases c7 : a0 > 1099511627776
        · rw [if_pos c7] at H
          have c7b0 : decide (1099511627776 < a0) = true := decide_eq_true c7
          clear c7
          have H' := Aside0.mk H
          clear H
          go_wp2
          go_meet
          case rel => exact ⟨_, (true), (by first | rfl | (simp; done) | (simp [*]; done)), H', ⟨by first | omega | exact Nat.le_refl _⟩, by repeat (first | exact Drawn0.refl _ | apply Drawn0.step)⟩
        · rw [if_neg c7] at H
          have c7b0 : decide (1099511627776 < a0) = false := decide_eq_false c7
          clear c7
          by_cases c8 : a1 < (-1099511627776)
          · rw [if_pos c8] at H
            have c8b0 : decide (a1 < (-1099511627776)) = true := decide_eq_true c8
            clear c8
            have H' := Aside0.mk H
            clear H
            go_wp2
            go_meet
            case rel => exact ⟨_, (true), (by first | rfl | (simp; done) | (simp [*]; done)), H', ⟨by first | omega | exact Nat.le_refl _⟩, by repeat (first | exact Drawn0.refl _ | apply Drawn0.step)⟩
          · rw [if_neg c8] at H
            have c8b0 : decide (a1 < (-1099511627776)) = false := decide_eq_false c8
            clear c8
            have H' := Aside0.mk H
            clear H
            go_wp2
            go_meet
            case rel => exact ⟨_, (decide (a1 > 1099511627776)), (by first | rfl | (simp; done) | (simp [*]; done)), H', ⟨by first | omega | exact Nat.le_refl _⟩, by repeat (first | exact Drawn0.refl _ | apply Drawn0.step)⟩
    · replace c5 := Bool.eq_false_iff.mpr c5
      subst c5
      have H1 : (abridgerlaw3_VlqApart.j0 k a0 a1 false true) = some r := by rw [if_neg (show ¬ (false = true) by decide)] at H; exact H
      clear H
      have H := H1
      clear H1
      have H' := Aside0.mk H
      clear H
      go_wp2
      go_meet
      case rel => exact ⟨_, (true), (by first | rfl | (simp; done) | (simp [*]; done)), H', ⟨by first | omega | exact Nat.le_refl _⟩, by repeat (first | exact Drawn0.refl _ | apply Drawn0.step)⟩
  case rest =>
    clear HC4
    try clear p2
    try clear c5
    try clear c6
    try clear c6b0
    try clear c7
    try clear c7b0
    try clear c8
    try clear c8b0
    obtain ⟨kq, x26_3, rfl, HA, HJ3, ⟨mc3, rfl⟩⟩ := hcut
    cases kq with
    | zero => exact absurd HA.out (by simp [abridgerlaw3_VlqApart.j0])
    | succ kj3 =>
      have H := HA.out
      clear HA
      simp only [abridgerlaw3_VlqApart.j0] at H
      by_cases c9 : x26_3 = true
      · subst c9
        have H1 : (some t152) = some r := by rw [if_pos rfl] at H; exact H
        clear H
        have H := H1
        clear H1
        obtain rfl := Option.some.inj H
        go_wp2
        go_ret
        exact ⟨by first | rfl | (simp; done) | (simp [*]; done), by repeat (first | exact Drawn0.refl _ | apply Drawn0.step)⟩
      · replace c9 := Bool.eq_false_iff.mpr c9
        subst c9
        have H1 : ((vlq_Put.f kj3 (⟨#[]⟩ : ByteArray) a0).bind fun t153 => ((vlq_Put.f kj3 (⟨#[]⟩ : ByteArray) a1).bind fun t154 => (if (t153.size : Int) = 0 then (some false) else (if (t154.size : Int) = 0 then (some false) else (if ((a0 == a1) == (t153.toList == t154.toList)) = true then (if a0 = a1 then (some true) else (if (t153.size : Int) > (t154.size : Int) then (some true) else (if 0 ≤ (t153.size : Int) then (if (t153.size : Int) ≤ (t154.size : Int) then (some ((t154.extract 0 ((t153.size : Int) : Int).toNat).toList != t153.toList)) else (none)) else (none)))) else (some false)))))) = some r := by rw [if_neg (show ¬ (false = true) by decide)] at H; exact H
        clear H
        have H := H1
        clear H1
        replace H := Option.bind_eq_some_iff.mp H
        obtain ⟨t153, A100, H⟩ := H
        replace H : ((vlq_Put.f kj3 (⟨#[]⟩ : ByteArray) a1).bind fun t154 => (if (t153.size : Int) = 0 then (some false) else (if (t154.size : Int) = 0 then (some false) else (if ((a0 == a1) == (t153.toList == t154.toList)) = true then (if a0 = a1 then (some true) else (if (t153.size : Int) > (t154.size : Int) then (some true) else (if 0 ≤ (t153.size : Int) then (if (t153.size : Int) ≤ (t154.size : Int) then (some ((t154.extract 0 ((t153.size : Int) : Int).toNat).toList != t153.toList)) else (none)) else (none)))) else (some false))))) = some r := H
        have A10 := Aside0.mk A100
        clear A100
        replace H := Option.bind_eq_some_iff.mp H
        obtain ⟨t154, A110, H⟩ := H
        replace H : (if (t153.size : Int) = 0 then (some false) else (if (t154.size : Int) = 0 then (some false) else (if ((a0 == a1) == (t153.toList == t154.toList)) = true then (if a0 = a1 then (some true) else (if (t153.size : Int) > (t154.size : Int) then (some true) else (if 0 ≤ (t153.size : Int) then (if (t153.size : Int) ≤ (t154.size : Int) then (some ((t154.extract 0 ((t153.size : Int) : Int).toNat).toList != t153.toList)) else (none)) else (none)))) else (some false)))) = some r := H
        have A11 := Aside0.mk A110
        clear A110
        by_cases c12 : (t153.size : Int) = 0
        · rw [if_pos c12] at H
          have c12b0 : ((t153.size : Int) == 0) = true := beq_iff_eq.mpr c12
          have c12b1 : ((t153.size : Int) != 0) = false := bne_eq_false_iff_eq.mpr c12
          clear c12
          obtain rfl := Option.some.inj H
          go_wp2_with (first | ((with_reducible refine gate_callee (f := 12) rfl ?_); refine goesL_ (some 29) rfl rfl Try.func12 (by kernel_rfl) rfl #[.string (⟨#[]⟩ : ByteArray), .int .i64 a0] rfl (by (try simp only [List.map_toArray, List.map_cons, List.map_nil]); first | done | rfl | (simp only [List.length_drop, List.length_take]; rfl)) ?_; (with_reducible refine (vlq_Put.calls kj3 (⟨#[]⟩ : ByteArray) a0 t153 _ A10.out).mono ?_); rintro e w' ⟨rfl, ⟨nd, rfl⟩⟩; refine ⟨_, rfl, ?_⟩) | ((with_reducible refine gate_callee (f := 12) rfl ?_); refine goesL_ (some 31) rfl rfl Try.func12 (by kernel_rfl) rfl #[.string (⟨#[]⟩ : ByteArray), .int .i64 a1] rfl (by (try simp only [List.map_toArray, List.map_cons, List.map_nil]); first | done | rfl | (simp only [List.length_drop, List.length_take]; rfl)) ?_; (with_reducible refine (vlq_Put.calls kj3 (⟨#[]⟩ : ByteArray) a1 t154 _ A11.out).mono ?_); rintro e w' ⟨rfl, ⟨nd, rfl⟩⟩; refine ⟨_, rfl, ?_⟩))
          go_ret
          exact ⟨by first | rfl | (simp; done) | (simp [*]; done), by repeat (first | exact Drawn0.refl _ | apply Drawn0.step)⟩
        · rw [if_neg c12] at H
          have c12b0 : ((t153.size : Int) == 0) = false := beq_eq_false_iff_ne.mpr c12
          have c12b1 : ((t153.size : Int) != 0) = true := bne_iff_ne.mpr c12
          by_cases c13 : (t154.size : Int) = 0
          · rw [if_pos c13] at H
            have c13b0 : ((t154.size : Int) == 0) = true := beq_iff_eq.mpr c13
            have c13b1 : ((t154.size : Int) != 0) = false := bne_eq_false_iff_eq.mpr c13
            clear c13
            obtain rfl := Option.some.inj H
            go_wp2_with (first | ((with_reducible refine gate_callee (f := 12) rfl ?_); refine goesL_ (some 29) rfl rfl Try.func12 (by kernel_rfl) rfl #[.string (⟨#[]⟩ : ByteArray), .int .i64 a0] rfl (by (try simp only [List.map_toArray, List.map_cons, List.map_nil]); first | done | rfl | (simp only [List.length_drop, List.length_take]; rfl)) ?_; (with_reducible refine (vlq_Put.calls kj3 (⟨#[]⟩ : ByteArray) a0 t153 _ A10.out).mono ?_); rintro e w' ⟨rfl, ⟨nd, rfl⟩⟩; refine ⟨_, rfl, ?_⟩) | ((with_reducible refine gate_callee (f := 12) rfl ?_); refine goesL_ (some 31) rfl rfl Try.func12 (by kernel_rfl) rfl #[.string (⟨#[]⟩ : ByteArray), .int .i64 a1] rfl (by (try simp only [List.map_toArray, List.map_cons, List.map_nil]); first | done | rfl | (simp only [List.length_drop, List.length_take]; rfl)) ?_; (with_reducible refine (vlq_Put.calls kj3 (⟨#[]⟩ : ByteArray) a1 t154 _ A11.out).mono ?_); rintro e w' ⟨rfl, ⟨nd, rfl⟩⟩; refine ⟨_, rfl, ?_⟩))
            go_ret
            exact ⟨by first | rfl | (simp; done) | (simp [*]; done), by repeat (first | exact Drawn0.refl _ | apply Drawn0.step)⟩
          · rw [if_neg c13] at H
            have c13b0 : ((t154.size : Int) == 0) = false := beq_eq_false_iff_ne.mpr c13
            have c13b1 : ((t154.size : Int) != 0) = true := bne_iff_ne.mpr c13
            by_cases c14 : ((a0 == a1) == (t153.toList == t154.toList)) = true
            · rw [if_pos c14] at H
              have c14b0 : ((a0 == a1) == (t153.toList == t154.toList)) = true := c14
              (try (have c14b1 : decide ((a0 == a1) = (t153.toList == t154.toList)) = true := by simpa using c14))
              (try (have c14b2 : ((a0 == a1) == (t153.toList == t154.toList)) = true := by simpa using c14))
              clear c14
              by_cases c15 : a0 = a1
              · rw [if_pos c15] at H
                have c15b0 : (a0 == a1) = true := beq_iff_eq.mpr c15
                have c14bz : (t153.toList == t154.toList) = true := by have z_ := c14b0; rw [c15b0] at z_; simpa using z_
                clear c14b0
                (try clear c14b1)
                (try clear c14b2)
                have c15b1 : (a0 != a1) = false := bne_eq_false_iff_eq.mpr c15
                clear c15
                obtain rfl := Option.some.inj H
                go_wp2_with (first | ((with_reducible refine gate_callee (f := 12) rfl ?_); refine goesL_ (some 29) rfl rfl Try.func12 (by kernel_rfl) rfl #[.string (⟨#[]⟩ : ByteArray), .int .i64 a0] rfl (by (try simp only [List.map_toArray, List.map_cons, List.map_nil]); first | done | rfl | (simp only [List.length_drop, List.length_take]; rfl)) ?_; (with_reducible refine (vlq_Put.calls kj3 (⟨#[]⟩ : ByteArray) a0 t153 _ A10.out).mono ?_); rintro e w' ⟨rfl, ⟨nd, rfl⟩⟩; refine ⟨_, rfl, ?_⟩) | ((with_reducible refine gate_callee (f := 12) rfl ?_); refine goesL_ (some 31) rfl rfl Try.func12 (by kernel_rfl) rfl #[.string (⟨#[]⟩ : ByteArray), .int .i64 a1] rfl (by (try simp only [List.map_toArray, List.map_cons, List.map_nil]); first | done | rfl | (simp only [List.length_drop, List.length_take]; rfl)) ?_; (with_reducible refine (vlq_Put.calls kj3 (⟨#[]⟩ : ByteArray) a1 t154 _ A11.out).mono ?_); rintro e w' ⟨rfl, ⟨nd, rfl⟩⟩; refine ⟨_, rfl, ?_⟩))
                go_ret
                exact ⟨by first | rfl | (simp; done) | (simp [*]; done), by repeat (first | exact Drawn0.refl _ | apply Drawn0.step)⟩
              · rw [if_neg c15] at H
                have c15b0 : (a0 == a1) = false := beq_eq_false_iff_ne.mpr c15
                have c14bz : (t153.toList == t154.toList) = false := by have z_ := c14b0; rw [c15b0] at z_; simpa using z_
                clear c14b0
                (try clear c14b1)
                (try clear c14b2)
                have c15b1 : (a0 != a1) = true := bne_iff_ne.mpr c15
                by_cases c16 : (t153.size : Int) > (t154.size : Int)
                · rw [if_pos c16] at H
                  have c16b0 : decide ((t154.size : Int) < (t153.size : Int)) = true := decide_eq_true c16
                  have c16b1 : decide (t154.size < t153.size) = true := decide_eq_true (Int.ofNat_lt.mp c16)
                  clear c16
                  obtain rfl := Option.some.inj H
                  go_wp2_with (first | ((with_reducible refine gate_callee (f := 12) rfl ?_); refine goesL_ (some 29) rfl rfl Try.func12 (by kernel_rfl) rfl #[.string (⟨#[]⟩ : ByteArray), .int .i64 a0] rfl (by (try simp only [List.map_toArray, List.map_cons, List.map_nil]); first | done | rfl | (simp only [List.length_drop, List.length_take]; rfl)) ?_; (with_reducible refine (vlq_Put.calls kj3 (⟨#[]⟩ : ByteArray) a0 t153 _ A10.out).mono ?_); rintro e w' ⟨rfl, ⟨nd, rfl⟩⟩; refine ⟨_, rfl, ?_⟩) | ((with_reducible refine gate_callee (f := 12) rfl ?_); refine goesL_ (some 31) rfl rfl Try.func12 (by kernel_rfl) rfl #[.string (⟨#[]⟩ : ByteArray), .int .i64 a1] rfl (by (try simp only [List.map_toArray, List.map_cons, List.map_nil]); first | done | rfl | (simp only [List.length_drop, List.length_take]; rfl)) ?_; (with_reducible refine (vlq_Put.calls kj3 (⟨#[]⟩ : ByteArray) a1 t154 _ A11.out).mono ?_); rintro e w' ⟨rfl, ⟨nd, rfl⟩⟩; refine ⟨_, rfl, ?_⟩))
                  go_ret
                  exact ⟨by first | rfl | (simp; done) | (simp [*]; done), by repeat (first | exact Drawn0.refl _ | apply Drawn0.step)⟩
                · rw [if_neg c16] at H
                  have c16b0 : decide ((t154.size : Int) < (t153.size : Int)) = false := decide_eq_false c16
                  have c16b1 : decide (t154.size < t153.size) = false := decide_eq_false (fun h => c16 (Int.ofNat_lt.mpr h))
                  clear c16
                  by_cases c17 : 0 ≤ (t153.size : Int)
                  · rw [if_pos c17] at H
                    have c17b0 := eq_true c17
                    have c17b1 : decide (0 ≤ (t153.size : Int)) = true := decide_eq_true c17
                    clear c17
                    by_cases c18 : (t153.size : Int) ≤ (t154.size : Int)
                    · rw [if_pos c18] at H
                      have c18b0 := eq_true c18
                      have c18b1 : decide ((t153.size : Int) ≤ (t154.size : Int)) = true := decide_eq_true c18
                      clear c18
                      obtain rfl := Option.some.inj H
                      go_wp2_with (first | ((with_reducible refine gate_callee (f := 12) rfl ?_); refine goesL_ (some 29) rfl rfl Try.func12 (by kernel_rfl) rfl #[.string (⟨#[]⟩ : ByteArray), .int .i64 a0] rfl (by (try simp only [List.map_toArray, List.map_cons, List.map_nil]); first | done | rfl | (simp only [List.length_drop, List.length_take]; rfl)) ?_; (with_reducible refine (vlq_Put.calls kj3 (⟨#[]⟩ : ByteArray) a0 t153 _ A10.out).mono ?_); rintro e w' ⟨rfl, ⟨nd, rfl⟩⟩; refine ⟨_, rfl, ?_⟩) | ((with_reducible refine gate_callee (f := 12) rfl ?_); refine goesL_ (some 31) rfl rfl Try.func12 (by kernel_rfl) rfl #[.string (⟨#[]⟩ : ByteArray), .int .i64 a1] rfl (by (try simp only [List.map_toArray, List.map_cons, List.map_nil]); first | done | rfl | (simp only [List.length_drop, List.length_take]; rfl)) ?_; (with_reducible refine (vlq_Put.calls kj3 (⟨#[]⟩ : ByteArray) a1 t154 _ A11.out).mono ?_); rintro e w' ⟨rfl, ⟨nd, rfl⟩⟩; refine ⟨_, rfl, ?_⟩))
                      go_ret
                      exact ⟨by first | rfl | (simp; done) | (simp [*]; done), by repeat (first | exact Drawn0.refl _ | apply Drawn0.step)⟩
                    · rw [if_neg c18] at H
                      exact absurd H (by simp)
                  · rw [if_neg c17] at H
                    exact absurd H (by simp)
            · rw [if_neg c14] at H
              have c14b0 : ((a0 == a1) == (t153.toList == t154.toList)) = false := by simpa using c14
              (try (have c14b1 : decide ((a0 == a1) = (t153.toList == t154.toList)) = false := by simpa using c14))
              (try (have c14b2 : ((a0 == a1) == (t153.toList == t154.toList)) = false := by simpa using c14))
              (try (have c14b3 : ¬ ((a0 == a1) = (t153.toList == t154.toList)) := by simpa using c14))
              clear c14
              obtain rfl := Option.some.inj H
              go_wp2_with (first | ((with_reducible refine gate_callee (f := 12) rfl ?_); refine goesL_ (some 29) rfl rfl Try.func12 (by kernel_rfl) rfl #[.string (⟨#[]⟩ : ByteArray), .int .i64 a0] rfl (by (try simp only [List.map_toArray, List.map_cons, List.map_nil]); first | done | rfl | (simp only [List.length_drop, List.length_take]; rfl)) ?_; (with_reducible refine (vlq_Put.calls kj3 (⟨#[]⟩ : ByteArray) a0 t153 _ A10.out).mono ?_); rintro e w' ⟨rfl, ⟨nd, rfl⟩⟩; refine ⟨_, rfl, ?_⟩) | ((with_reducible refine gate_callee (f := 12) rfl ?_); refine goesL_ (some 31) rfl rfl Try.func12 (by kernel_rfl) rfl #[.string (⟨#[]⟩ : ByteArray), .int .i64 a1] rfl (by (try simp only [List.map_toArray, List.map_cons, List.map_nil]); first | done | rfl | (simp only [List.length_drop, List.length_take]; rfl)) ?_; (with_reducible refine (vlq_Put.calls kj3 (⟨#[]⟩ : ByteArray) a1 t154 _ A11.out).mono ?_); rintro e w' ⟨rfl, ⟨nd, rfl⟩⟩; refine ⟨_, rfl, ?_⟩))
              go_ret
              exact ⟨by first | rfl | (simp; done) | (simp [*]; done), by repeat (first | exact Drawn0.refl _ | apply Drawn0.step)⟩

/-- THE ONE PURE STATEMENT of abridgerlaw3_VlqApart: yours. -/
def abridgerlaw3_VlqApart.Pure : Prop := ∀ (a0 : Int) (a1 : Int), (Lit.int .i64 a0).wf = true → (Lit.int .i64 a1).wf = true → ∃ k, abridgerlaw3_VlqApart.f k a0 a1 = some true
theorem abridgerlaw3_VlqApart.walk (P : abridgerlaw3_VlqApart.Pure) (a0 : Int) (a1 : Int) (w : World) (w0 : (Lit.int .i64 a0).wf = true) (w1 : (Lit.int .i64 a1).wf = true) :
    Calls Try.prog 7 #[.int .i64 a0, .int .i64 a1] w fun e w' => e = .returned (.bool true) ∧ Below w.heap.size w w' := by
  obtain ⟨k, h⟩ := P a0 a1 w0 w1
  refine (abridgerlaw3_VlqApart.calls k a0 a1 true w h).mono ?_
  rintro e w' ⟨rfl, hd⟩
  exact ⟨rfl, hd.below⟩

end Go.Proofs.Ytlpbebijhfkmeaa.PVlq
