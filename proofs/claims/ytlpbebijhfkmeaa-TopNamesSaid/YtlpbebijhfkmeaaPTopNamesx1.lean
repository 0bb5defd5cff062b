-- WRITTEN BY a program of this session (see wip/tools)
import Derived.Test.YtlpbebijhfkmeaaPTopNamesx0
namespace Go.Proofs.Ytlpbebijhfkmeaa.PTopNames
open Go.RowKit Go.Proofs.YtlpbebijhfkmeaaW.PrintWords Go.Proofs.YtlpbebijhfkmeaaW.PrintLast Go.Proofs.YtlpbebijhfkmeaaW.PrintMore
attribute [local go_sem] max2_int min2_int max_two min_two max_three min_three max_four min_four   -- for this text's walks alone
set_option linter.unusedVariables false
set_option linter.unusedSimpArgs false

/-! ### abridgertop_are: function 20 -/
def abridgertop_are.l0 : Nat → List (S37) → Int → Option (Bool)
  | 0, _, _ => none
  | k + 1, x0, x3 => if x3 < (x0.length : Int) then (if 0 ≤ x3 then (if ((rd_T37 x0 x3).f0) = ((rd_T37 x0 x3).f1) then (abridgertop_are.l0 k x0 (wrap64 (x3 + 1))) else (some false)) else (none)) else (some true)
def abridgertop_are.f (k : Nat) (l0 : List (S37)) : Option (Bool) := abridgertop_are.l0 k l0 0
theorem abridgertop_are.mono_l : ∀ k, (∀ y0 y1, LeO (abridgertop_are.l0 k y0 y1) (abridgertop_are.l0 (k + 1) y0 y1))
  | 0 => fun _ _ r h => by simp [abridgertop_are.l0] at h
  | k + 1 => by
    have ih0 := abridgertop_are.mono_l k
    · intro y0 y1
      unfold abridgertop_are.l0
      repeat' first
      | (with_reducible exact ih0 _ _)
      | (with_reducible exact LeO.refl _)
      | (with_reducible exact LeO.none _)
      | (with_reducible refine LeO.ite ?_ ?_)
      | (with_reducible refine LeO.bind ?_ (fun _ => ?_))
      | exact ih0 _ _
      | exact LeO.none _
      | refine LeO.ite ?_ ?_
      | refine LeO.bind ?_ (fun _ => ?_)
theorem abridgertop_are.mono : ∀ a0 k, LeO (abridgertop_are.f k a0) (abridgertop_are.f (k + 1) a0) := by
  intro a0 k
  have ih0 := abridgertop_are.mono_l k
  unfold abridgertop_are.f
  repeat' first
      | (with_reducible exact ih0 _ _)
      | (with_reducible exact LeO.refl _)
      | (with_reducible exact LeO.none _)
      | (with_reducible refine LeO.ite ?_ ?_)
      | (with_reducible refine LeO.bind ?_ (fun _ => ?_))
      | exact ih0 _ _
      | exact LeO.none _
      | refine LeO.ite ?_ ?_
      | refine LeO.bind ?_ (fun _ => ?_)
set_option maxHeartbeats 8000000 in
set_option maxRecDepth 100000 in
theorem abridgertop_are.calls (k : Nat) (A0 : Option Addr) (c0 : Nat) (l0 : List (S37)) (r : Bool) (w : World) (hr0 : Kd.C k37 w A0 l0.length l0) (hc0 : l0.length ≤ c0) (h : abridgertop_are.f k l0 = some r) :
    Calls Try.prog 20 #[.slice A0 l0.length c0] w fun e w' => e = .returned (.bool r) ∧ Drawn0 w w' := by
  have HR0 := Aside0.mk hr0
  have HC0 := Aside0.mk hc0
  clear hr0 hc0
  have H : (abridgertop_are.l0 k l0 0) = some r := h
  clear h
  have H' := Aside0.mk H
  clear H
  go_enter Try.func20, Try.ntmps20
  go_wp2
  repeat (go_quiet (fail); try go_wp2)
  go_loopg [3] k (fun kq v3 w' => ∃ (x3_1 : Int), v3 = .int .i64 x3_1 ∧ Aside0 (abridgertop_are.l0 kq l0 x3_1 = some r) ∧ Aside0 (kq ≤ k) ∧ Drawn0 w w')
  case atStart => exact ⟨(0), (by first | rfl | (simp; done) | (simp [*]; done)), H', ⟨Nat.le_refl _⟩, by repeat (first | exact Drawn0.refl _ | apply Drawn0.step)⟩
  case round =>
    clear H'
    obtain ⟨x3_1, rfl, HA, HK1, ⟨m1, rfl⟩⟩ := hrel
    cases gk with
    | zero => exact absurd HA.out (by simp [abridgertop_are.l0])
    | succ k1 =>
      have H := HA.out
      clear HA
      simp only [abridgertop_are.l0] at H
      by_cases c2 : x3_1 < (l0.length : Int)
      · rw [if_pos c2] at H
        have c2b0 : decide (x3_1 < (l0.length : Int)) = true := decide_eq_true c2
        clear c2
        by_cases c3 : 0 ≤ x3_1
        · rw [if_pos c3] at H
          have c3b0 : decide (0 ≤ x3_1) = true := decide_eq_true c3
          clear c3
          by_cases c4 : ((rd_T37 l0 x3_1).f0) = ((rd_T37 l0 x3_1).f1)
          · rw [if_pos c4] at H
            have c4b0 : (((rd_T37 l0 x3_1).f0) == ((rd_T37 l0 x3_1).f1)) = true := beq_iff_eq.mpr c4
            have c4b1 : (((rd_T37 l0 x3_1).f0) != ((rd_T37 l0 x3_1).f1)) = false := bne_eq_false_iff_eq.mpr c4
            clear c4
            have H' := Aside0.mk H
            clear H
            have p101 : 0 ≤ (x3_1 : Int) := of_decide_eq_true (by first | (with_reducible assumption) | assumption)
            have q101 : x3_1 < (l0.length : Int) := of_decide_eq_true (by first | (with_reducible assumption) | assumption)
            obtain ⟨ad101, e101, hx101_0, hx101_1⟩ := at_T37 HR0.out x3_1 p101 q101
            cases e101
            replace p101 := eq_true p101
            replace q101 := eq_true q101
            have p102 : 0 ≤ (x3_1 : Int) := of_decide_eq_true (by first | (with_reducible assumption) | assumption)
            have q102 : x3_1 < (l0.length : Int) := of_decide_eq_true (by first | (with_reducible assumption) | assumption)
            obtain ⟨ad102, e102, hx102_0, hx102_1⟩ := at_T37 HR0.out x3_1 p102 q102
            obtain rfl : ad101 = ad102 := (by injection e102)
            replace p102 := eq_true p102
            replace q102 := eq_true q102
            go_wp2
            repeat (go_quiet (fail); try go_wp2)
            go_roundg k1
            case measure => have := HK1.out; omega
            case rel => exact ⟨(wrap64 (x3_1 + 1)), (by first | rfl | (simp; done) | (simp [*]; done)), H', ⟨by have := HK1.out; omega⟩, by repeat (first | exact Drawn0.refl _ | apply Drawn0.step)⟩
          · rw [if_neg c4] at H
            have c4b0 : (((rd_T37 l0 x3_1).f0) == ((rd_T37 l0 x3_1).f1)) = false := beq_eq_false_iff_ne.mpr c4
            have c4b1 : (((rd_T37 l0 x3_1).f0) != ((rd_T37 l0 x3_1).f1)) = true := bne_iff_ne.mpr c4
            obtain rfl := Option.some.inj H
            have p101 : 0 ≤ (x3_1 : Int) := of_decide_eq_true (by first | (with_reducible assumption) | assumption)
            have q101 : x3_1 < (l0.length : Int) := of_decide_eq_true (by first | (with_reducible assumption) | assumption)
            obtain ⟨ad101, e101, hx101_0, hx101_1⟩ := at_T37 HR0.out x3_1 p101 q101
            cases e101
            replace p101 := eq_true p101
            replace q101 := eq_true q101
            have p102 : 0 ≤ (x3_1 : Int) := of_decide_eq_true (by first | (with_reducible assumption) | assumption)
            have q102 : x3_1 < (l0.length : Int) := of_decide_eq_true (by first | (with_reducible assumption) | assumption)
            obtain ⟨ad102, e102, hx102_0, hx102_1⟩ := at_T37 HR0.out x3_1 p102 q102
            obtain rfl : ad101 = ad102 := (by injection e102)
            replace p102 := eq_true p102
            replace q102 := eq_true q102
            go_wp2
            repeat (go_quiet (fail); try go_wp2)
            go_ret
            exact ⟨by first | rfl | (simp; done) | (simp [*]; done), by repeat (first | exact Drawn0.refl _ | apply Drawn0.step)⟩
        · rw [if_neg c3] at H
          exact absurd H (by simp)
      · rw [if_neg c2] at H
        have c2b0 : decide (x3_1 < (l0.length : Int)) = false := decide_eq_false c2
        clear c2
        obtain rfl := Option.some.inj H
        go_wp2
        repeat (go_quiet (fail); try go_wp2)
        go_ret
        exact ⟨by first | rfl | (simp; done) | (simp [*]; done), by repeat (first | exact Drawn0.refl _ | apply Drawn0.step)⟩

/-! ### abridgertop_first: function 14 -/
def abridgertop_first.f (k : Nat)  : Option (Bool) := (abridgertop_are.f k (([(⟨0, 0⟩ : S37), (⟨1, 1⟩ : S37), (⟨2, 2⟩ : S37), (⟨3, 3⟩ : S37), (⟨4, 4⟩ : S37), (⟨5, 5⟩ : S37), (⟨20000, 20000⟩ : S37), (⟨60, 60⟩ : S37), (⟨1000, 1000⟩ : S37), (⟨16, 16⟩ : S37), (⟨20, 20⟩ : S37), (⟨1, 1⟩ : S37), (⟨2, 2⟩ : S37), (⟨3, 3⟩ : S37), (⟨4, 4⟩ : S37), (⟨5, 5⟩ : S37), (⟨6, 6⟩ : S37), (⟨7, 7⟩ : S37)] : List (S37)))).bind fun t106 => (some t106)
theorem abridgertop_first.mono : ∀ k, LeO (abridgertop_first.f k ) (abridgertop_first.f (k + 1) ) := by
  intro  k
  unfold abridgertop_first.f
  repeat' first
      | (with_reducible exact abridgertop_are.mono _ _)
      | (with_reducible exact LeO.refl _)
      | (with_reducible exact LeO.none _)
      | (with_reducible refine LeO.ite ?_ ?_)
      | (with_reducible refine LeO.bind ?_ (fun _ => ?_))
      | exact abridgertop_are.mono _ _
      | exact LeO.none _
      | refine LeO.ite ?_ ?_
      | refine LeO.bind ?_ (fun _ => ?_)
set_option maxHeartbeats 8000000 in
set_option maxRecDepth 100000 in
theorem abridgertop_first.calls (k : Nat)  (r : Bool) (w : World) (h : abridgertop_first.f k  = some r) :
    Calls Try.prog 14 #[] w fun e w' => e = .returned (.bool r) ∧ Below w.heap.size w w' := by
  have hu37 := Try.underlying37
  have HB := Aside0.mk (Below.refl w.heap.size w)
  have H : ((abridgertop_are.f k (([(⟨0, 0⟩ : S37), (⟨1, 1⟩ : S37), (⟨2, 2⟩ : S37), (⟨3, 3⟩ : S37), (⟨4, 4⟩ : S37), (⟨5, 5⟩ : S37), (⟨20000, 20000⟩ : S37), (⟨60, 60⟩ : S37), (⟨1000, 1000⟩ : S37), (⟨16, 16⟩ : S37), (⟨20, 20⟩ : S37), (⟨1, 1⟩ : S37), (⟨2, 2⟩ : S37), (⟨3, 3⟩ : S37), (⟨4, 4⟩ : S37), (⟨5, 5⟩ : S37), (⟨6, 6⟩ : S37), (⟨7, 7⟩ : S37)] : List (S37)))).bind fun t106 => (some t106)) = some r := h
  clear h
  obtain ⟨y103, hy103⟩ : ∃ y_ : List (S37), y_ = (([(⟨0, 0⟩ : S37), (⟨1, 1⟩ : S37), (⟨2, 2⟩ : S37), (⟨3, 3⟩ : S37), (⟨4, 4⟩ : S37), (⟨5, 5⟩ : S37), (⟨20000, 20000⟩ : S37), (⟨60, 60⟩ : S37), (⟨1000, 1000⟩ : S37), (⟨16, 16⟩ : S37), (⟨20, 20⟩ : S37), (⟨1, 1⟩ : S37), (⟨2, 2⟩ : S37), (⟨3, 3⟩ : S37), (⟨4, 4⟩ : S37), (⟨5, 5⟩ : S37), (⟨6, 6⟩ : S37), (⟨7, 7⟩ : S37)] : List (S37))) := ⟨_, rfl⟩
  replace H : ((abridgertop_are.f k y103).bind fun t106 => (some t106)) = some r := by first | (rw [hy103]; with_reducible exact H) | (have H2_ := (Option.bind_some _ _).symm.trans H; rw [hy103]; with_reducible exact H2_) | (have H2_ := (Option.bind_some _ _).symm.trans H; with_reducible exact H2_) | with_reducible exact H | (rw [hy103]; exact H) | exact H
  have Ny103 := Aside0.mk hy103
  clear hy103
  replace H := Option.bind_eq_some_iff.mp H
  obtain ⟨t106, A10, H⟩ := H
  replace H : (some t106) = some r := H
  have A1 := Aside0.mk A10
  clear A10
  obtain rfl := Option.some.inj H
  go_enter Try.func14, Try.ntmps14
  go_wp2_with (first | ((with_reducible refine gate_dst (N := 19) rfl ?_); refine Kd.R_lit k37 _ 37 ?hg (N := 19) ?hd (xs := ([(⟨0, 0⟩ : S37), (⟨1, 1⟩ : S37), (⟨2, 2⟩ : S37), (⟨3, 3⟩ : S37), (⟨4, 4⟩ : S37), (⟨5, 5⟩ : S37), (⟨20000, 20000⟩ : S37), (⟨60, 60⟩ : S37), (⟨1000, 1000⟩ : S37), (⟨16, 16⟩ : S37), (⟨20, 20⟩ : S37), (⟨1, 1⟩ : S37), (⟨2, 2⟩ : S37), (⟨3, 3⟩ : S37), (⟨4, 4⟩ : S37), (⟨5, 5⟩ : S37), (⟨6, 6⟩ : S37), (⟨7, 7⟩ : S37)] : List (S37))) (inner := [.int .i64 0, .int .i64 0, .int .i64 1, .int .i64 1, .int .i64 2, .int .i64 2, .int .i64 3, .int .i64 3, .int .i64 4, .int .i64 4, .int .i64 5, .int .i64 5, .int .i64 20000, .int .i64 20000, .int .i64 60, .int .i64 60, .int .i64 1000, .int .i64 1000, .int .i64 16, .int .i64 16, .int .i64 20, .int .i64 20, .int .i64 1, .int .i64 1, .int .i64 2, .int .i64 2, .int .i64 3, .int .i64 3, .int .i64 4, .int .i64 4, .int .i64 5, .int .i64 5, .int .i64 6, .int .i64 6, .int .i64 7, .int .i64 7]) (ok := fun _ => True) (okp := fun _ => True) ?hr ?hp (fun _ hk => hk) trivial (Below.refl _ _) (Nat.le_refl _) (by simp) ?_; (case hd => rfl); (case hg => rfl); (case hr => first | (go_simp; done) | (go_simp; rfl)); (case hp => exact (Reps.c2 (show Kd.M k37 _ _ _ (⟨0, 0⟩ : S37) [.int .i64 0, .int .i64 0] from (k37_mkM _ _ _ (⟨0, 0⟩ : S37) )) (Reps.c2 (show Kd.M k37 _ _ _ (⟨1, 1⟩ : S37) [.int .i64 1, .int .i64 1] from (k37_mkM _ _ _ (⟨1, 1⟩ : S37) )) (Reps.c2 (show Kd.M k37 _ _ _ (⟨2, 2⟩ : S37) [.int .i64 2, .int .i64 2] from (k37_mkM _ _ _ (⟨2, 2⟩ : S37) )) (Reps.c2 (show Kd.M k37 _ _ _ (⟨3, 3⟩ : S37) [.int .i64 3, .int .i64 3] from (k37_mkM _ _ _ (⟨3, 3⟩ : S37) )) (Reps.c2 (show Kd.M k37 _ _ _ (⟨4, 4⟩ : S37) [.int .i64 4, .int .i64 4] from (k37_mkM _ _ _ (⟨4, 4⟩ : S37) )) (Reps.c2 (show Kd.M k37 _ _ _ (⟨5, 5⟩ : S37) [.int .i64 5, .int .i64 5] from (k37_mkM _ _ _ (⟨5, 5⟩ : S37) )) (Reps.c2 (show Kd.M k37 _ _ _ (⟨20000, 20000⟩ : S37) [.int .i64 20000, .int .i64 20000] from (k37_mkM _ _ _ (⟨20000, 20000⟩ : S37) )) (Reps.c2 (show Kd.M k37 _ _ _ (⟨60, 60⟩ : S37) [.int .i64 60, .int .i64 60] from (k37_mkM _ _ _ (⟨60, 60⟩ : S37) )) (Reps.c2 (show Kd.M k37 _ _ _ (⟨1000, 1000⟩ : S37) [.int .i64 1000, .int .i64 1000] from (k37_mkM _ _ _ (⟨1000, 1000⟩ : S37) )) (Reps.c2 (show Kd.M k37 _ _ _ (⟨16, 16⟩ : S37) [.int .i64 16, .int .i64 16] from (k37_mkM _ _ _ (⟨16, 16⟩ : S37) )) (Reps.c2 (show Kd.M k37 _ _ _ (⟨20, 20⟩ : S37) [.int .i64 20, .int .i64 20] from (k37_mkM _ _ _ (⟨20, 20⟩ : S37) )) (Reps.c2 (show Kd.M k37 _ _ _ (⟨1, 1⟩ : S37) [.int .i64 1, .int .i64 1] from (k37_mkM _ _ _ (⟨1, 1⟩ : S37) )) (Reps.c2 (show Kd.M k37 _ _ _ (⟨2, 2⟩ : S37) [.int .i64 2, .int .i64 2] from (k37_mkM _ _ _ (⟨2, 2⟩ : S37) )) (Reps.c2 (show Kd.M k37 _ _ _ (⟨3, 3⟩ : S37) [.int .i64 3, .int .i64 3] from (k37_mkM _ _ _ (⟨3, 3⟩ : S37) )) (Reps.c2 (show Kd.M k37 _ _ _ (⟨4, 4⟩ : S37) [.int .i64 4, .int .i64 4] from (k37_mkM _ _ _ (⟨4, 4⟩ : S37) )) (Reps.c2 (show Kd.M k37 _ _ _ (⟨5, 5⟩ : S37) [.int .i64 5, .int .i64 5] from (k37_mkM _ _ _ (⟨5, 5⟩ : S37) )) (Reps.c2 (show Kd.M k37 _ _ _ (⟨6, 6⟩ : S37) [.int .i64 6, .int .i64 6] from (k37_mkM _ _ _ (⟨6, 6⟩ : S37) )) (Reps.c2 (show Kd.M k37 _ _ _ (⟨7, 7⟩ : S37) [.int .i64 7, .int .i64 7] from (k37_mkM _ _ _ (⟨7, 7⟩ : S37) )) (Reps.none _ _)))))))))))))))))))); intro v104 w2 ho3 hb hg_ hnew_; clear hg_ hnew_; (first | rw [← Ny103.out] at ho3 | (simp only [Int.reduceToNat] at ho3; rw [← Ny103.out] at ho3)); have n0_ := Aside0.mk (Kd.R_lower ho3 (below_size (by repeat (first | (with_reducible first | exact HB.out | apply below_alloc | apply pw_below_drewN | apply below_drew1) | exact HB.out)))); have n1_ := Aside0.mk (below_step (by repeat (first | (with_reducible first | exact HB.out | apply below_alloc | apply pw_below_drewN | apply below_drew1) | exact HB.out)) hb); clear HB; have HO105 := n0_; have HB := n1_; clear n0_ n1_; clear hb ho3; obtain ⟨Ao4, co4, eo4⟩ := Kd.R_slice HO105.out; subst eo4) | ((with_reducible refine gate_callee (f := 20) rfl ?_); refine goesL_ (some 20) rfl rfl Try.func20 (by kernel_rfl) rfl #[.slice Ao4 y103.length co4] rfl (by (try simp only [List.map_toArray, List.map_cons, List.map_nil]); first | done | rfl | (simp only [List.length_drop, List.length_take]; rfl)) ?_; (with_reducible refine (abridgertop_are.calls k _ _ y103 t106 _ ?side1 ?side2 A1.out).mono ?_); (case side1 => repeat (first | exact (Kd.R_reads' HO105.out).2.2 | (with_reducible refine Kd.C_alloc ?_ _) | (with_reducible refine Kd.C_drewN ?_ _) | (with_reducible refine Kd.C_drew ?_))); (case side2 => exact (Kd.R_reads' HO105.out).2.1); rintro e w' ⟨rfl, ⟨nd, rfl⟩⟩; refine ⟨_, rfl, ?_⟩))
  go_ret
  exact ⟨by first | rfl | (simp [errW_none, errW_some] <;> rfl) | (simp [*, errW_none, errW_some] <;> rfl), by repeat (first | (with_reducible first | exact HB.out | apply below_alloc | apply pw_below_drewN | apply below_drew1) | exact HB.out)⟩

/-! ### abridgertop_second: function 15 -/
def abridgertop_second.f (k : Nat)  : Option (Bool) := (abridgertop_are.f k (([(⟨8, 8⟩ : S37), (⟨9, 9⟩ : S37), (⟨10, 10⟩ : S37), (⟨11, 11⟩ : S37), (⟨1, 1⟩ : S37), (⟨2, 2⟩ : S37), (⟨3, 3⟩ : S37), (⟨4, 4⟩ : S37), (⟨5, 5⟩ : S37), (⟨6, 6⟩ : S37), (⟨7, 7⟩ : S37), (⟨1, 1⟩ : S37), (⟨2, 2⟩ : S37), (⟨3, 3⟩ : S37), (⟨4, 4⟩ : S37), (⟨5, 5⟩ : S37), (⟨6, 6⟩ : S37), (⟨7, 7⟩ : S37)] : List (S37)))).bind fun t110 => (some t110)
theorem abridgertop_second.mono : ∀ k, LeO (abridgertop_second.f k ) (abridgertop_second.f (k + 1) ) := by
  intro  k
  unfold abridgertop_second.f
  repeat' first
      | (with_reducible exact abridgertop_are.mono _ _)
      | (with_reducible exact LeO.refl _)
      | (with_reducible exact LeO.none _)
      | (with_reducible refine LeO.ite ?_ ?_)
      | (with_reducible refine LeO.bind ?_ (fun _ => ?_))
      | exact abridgertop_are.mono _ _
      | exact LeO.none _
      | refine LeO.ite ?_ ?_
      | refine LeO.bind ?_ (fun _ => ?_)
set_option maxHeartbeats 8000000 in
set_option maxRecDepth 100000 in
theorem abridgertop_second.calls (k : Nat)  (r : Bool) (w : World) (h : abridgertop_second.f k  = some r) :
    Calls Try.prog 15 #[] w fun e w' => e = .returned (.bool r) ∧ Below w.heap.size w w' := by
  have hu37 := Try.underlying37
  have HB := Aside0.mk (Below.refl w.heap.size w)
  have H : ((abridgertop_are.f k (([(⟨8, 8⟩ : S37), (⟨9, 9⟩ : S37), (⟨10, 10⟩ : S37), (⟨11, 11⟩ : S37), (⟨1, 1⟩ : S37), (⟨2, 2⟩ : S37), (⟨3, 3⟩ : S37), (⟨4, 4⟩ : S37), (⟨5, 5⟩ : S37), (⟨6, 6⟩ : S37), (⟨7, 7⟩ : S37), (⟨1, 1⟩ : S37), (⟨2, 2⟩ : S37), (⟨3, 3⟩ : S37), (⟨4, 4⟩ : S37), (⟨5, 5⟩ : S37), (⟨6, 6⟩ : S37), (⟨7, 7⟩ : S37)] : List (S37)))).bind fun t110 => (some t110)) = some r := h
  clear h
  obtain ⟨y107, hy107⟩ : ∃ y_ : List (S37), y_ = (([(⟨8, 8⟩ : S37), (⟨9, 9⟩ : S37), (⟨10, 10⟩ : S37), (⟨11, 11⟩ : S37), (⟨1, 1⟩ : S37), (⟨2, 2⟩ : S37), (⟨3, 3⟩ : S37), (⟨4, 4⟩ : S37), (⟨5, 5⟩ : S37), (⟨6, 6⟩ : S37), (⟨7, 7⟩ : S37), (⟨1, 1⟩ : S37), (⟨2, 2⟩ : S37), (⟨3, 3⟩ : S37), (⟨4, 4⟩ : S37), (⟨5, 5⟩ : S37), (⟨6, 6⟩ : S37), (⟨7, 7⟩ : S37)] : List (S37))) := ⟨_, rfl⟩
  replace H : ((abridgertop_are.f k y107).bind fun t110 => (some t110)) = some r := by first | (rw [hy107]; with_reducible exact H) | (have H2_ := (Option.bind_some _ _).symm.trans H; rw [hy107]; with_reducible exact H2_) | (have H2_ := (Option.bind_some _ _).symm.trans H; with_reducible exact H2_) | with_reducible exact H | (rw [hy107]; exact H) | exact H
  have Ny107 := Aside0.mk hy107
  clear hy107
  replace H := Option.bind_eq_some_iff.mp H
  obtain ⟨t110, A10, H⟩ := H
  replace H : (some t110) = some r := H
  have A1 := Aside0.mk A10
  clear A10
  obtain rfl := Option.some.inj H
  go_enter Try.func15, Try.ntmps15
  go_wp2_with (first | ((with_reducible refine gate_dst (N := 19) rfl ?_); refine Kd.R_lit k37 _ 37 ?hg (N := 19) ?hd (xs := ([(⟨8, 8⟩ : S37), (⟨9, 9⟩ : S37), (⟨10, 10⟩ : S37), (⟨11, 11⟩ : S37), (⟨1, 1⟩ : S37), (⟨2, 2⟩ : S37), (⟨3, 3⟩ : S37), (⟨4, 4⟩ : S37), (⟨5, 5⟩ : S37), (⟨6, 6⟩ : S37), (⟨7, 7⟩ : S37), (⟨1, 1⟩ : S37), (⟨2, 2⟩ : S37), (⟨3, 3⟩ : S37), (⟨4, 4⟩ : S37), (⟨5, 5⟩ : S37), (⟨6, 6⟩ : S37), (⟨7, 7⟩ : S37)] : List (S37))) (inner := [.int .i64 8, .int .i64 8, .int .i64 9, .int .i64 9, .int .i64 10, .int .i64 10, .int .i64 11, .int .i64 11, .int .i64 1, .int .i64 1, .int .i64 2, .int .i64 2, .int .i64 3, .int .i64 3, .int .i64 4, .int .i64 4, .int .i64 5, .int .i64 5, .int .i64 6, .int .i64 6, .int .i64 7, .int .i64 7, .int .i64 1, .int .i64 1, .int .i64 2, .int .i64 2, .int .i64 3, .int .i64 3, .int .i64 4, .int .i64 4, .int .i64 5, .int .i64 5, .int .i64 6, .int .i64 6, .int .i64 7, .int .i64 7]) (ok := fun _ => True) (okp := fun _ => True) ?hr ?hp (fun _ hk => hk) trivial (Below.refl _ _) (Nat.le_refl _) (by simp) ?_; (case hd => rfl); (case hg => rfl); (case hr => first | (go_simp; done) | (go_simp; rfl)); (case hp => exact (Reps.c2 (show Kd.M k37 _ _ _ (⟨8, 8⟩ : S37) [.int .i64 8, .int .i64 8] from (k37_mkM _ _ _ (⟨8, 8⟩ : S37) )) (Reps.c2 (show Kd.M k37 _ _ _ (⟨9, 9⟩ : S37) [.int .i64 9, .int .i64 9] from (k37_mkM _ _ _ (⟨9, 9⟩ : S37) )) (Reps.c2 (show Kd.M k37 _ _ _ (⟨10, 10⟩ : S37) [.int .i64 10, .int .i64 10] from (k37_mkM _ _ _ (⟨10, 10⟩ : S37) )) (Reps.c2 (show Kd.M k37 _ _ _ (⟨11, 11⟩ : S37) [.int .i64 11, .int .i64 11] from (k37_mkM _ _ _ (⟨11, 11⟩ : S37) )) (Reps.c2 (show Kd.M k37 _ _ _ (⟨1, 1⟩ : S37) [.int .i64 1, .int .i64 1] from (k37_mkM _ _ _ (⟨1, 1⟩ : S37) )) (Reps.c2 (show Kd.M k37 _ _ _ (⟨2, 2⟩ : S37) [.int .i64 2, .int .i64 2] from (k37_mkM _ _ _ (⟨2, 2⟩ : S37) )) (Reps.c2 (show Kd.M k37 _ _ _ (⟨3, 3⟩ : S37) [.int .i64 3, .int .i64 3] from (k37_mkM _ _ _ (⟨3, 3⟩ : S37) )) (Reps.c2 (show Kd.M k37 _ _ _ (⟨4, 4⟩ : S37) [.int .i64 4, .int .i64 4] from (k37_mkM _ _ _ (⟨4, 4⟩ : S37) )) (Reps.c2 (show Kd.M k37 _ _ _ (⟨5, 5⟩ : S37) [.int .i64 5, .int .i64 5] from (k37_mkM _ _ _ (⟨5, 5⟩ : S37) )) (Reps.c2 (show Kd.M k37 _ _ _ (⟨6, 6⟩ : S37) [.int .i64 6, .int .i64 6] from (k37_mkM _ _ _ (⟨6, 6⟩ : S37) )) (Reps.c2 (show Kd.M k37 _ _ _ (⟨7, 7⟩ : S37) [.int .i64 7, .int .i64 7] from (k37_mkM _ _ _ (⟨7, 7⟩ : S37) )) (Reps.c2 (show Kd.M k37 _ _ _ (⟨1, 1⟩ : S37) [.int .i64 1, .int .i64 1] from (k37_mkM _ _ _ (⟨1, 1⟩ : S37) )) (Reps.c2 (show Kd.M k37 _ _ _ (⟨2, 2⟩ : S37) [.int .i64 2, .int .i64 2] from (k37_mkM _ _ _ (⟨2, 2⟩ : S37) )) (Reps.c2 (show Kd.M k37 _ _ _ (⟨3, 3⟩ : S37) [.int .i64 3, .int .i64 3] from (k37_mkM _ _ _ (⟨3, 3⟩ : S37) )) (Reps.c2 (show Kd.M k37 _ _ _ (⟨4, 4⟩ : S37) [.int .i64 4, .int .i64 4] from (k37_mkM _ _ _ (⟨4, 4⟩ : S37) )) (Reps.c2 (show Kd.M k37 _ _ _ (⟨5, 5⟩ : S37) [.int .i64 5, .int .i64 5] from (k37_mkM _ _ _ (⟨5, 5⟩ : S37) )) (Reps.c2 (show Kd.M k37 _ _ _ (⟨6, 6⟩ : S37) [.int .i64 6, .int .i64 6] from (k37_mkM _ _ _ (⟨6, 6⟩ : S37) )) (Reps.c2 (show Kd.M k37 _ _ _ (⟨7, 7⟩ : S37) [.int .i64 7, .int .i64 7] from (k37_mkM _ _ _ (⟨7, 7⟩ : S37) )) (Reps.none _ _)))))))))))))))))))); intro v108 w2 ho3 hb hg_ hnew_; clear hg_ hnew_; (first | rw [← Ny107.out] at ho3 | (simp only [Int.reduceToNat] at ho3; rw [← Ny107.out] at ho3)); have n0_ := Aside0.mk (Kd.R_lower ho3 (below_size (by repeat (first | (with_reducible first | exact HB.out | apply below_alloc | apply pw_below_drewN | apply below_drew1) | exact HB.out)))); have n1_ := Aside0.mk (below_step (by repeat (first | (with_reducible first | exact HB.out | apply below_alloc | apply pw_below_drewN | apply below_drew1) | exact HB.out)) hb); clear HB; have HO109 := n0_; have HB := n1_; clear n0_ n1_; clear hb ho3; obtain ⟨Ao4, co4, eo4⟩ := Kd.R_slice HO109.out; subst eo4) | ((with_reducible refine gate_callee (f := 20) rfl ?_); refine goesL_ (some 20) rfl rfl Try.func20 (by kernel_rfl) rfl #[.slice Ao4 y107.length co4] rfl (by (try simp only [List.map_toArray, List.map_cons, List.map_nil]); first | done | rfl | (simp only [List.length_drop, List.length_take]; rfl)) ?_; (with_reducible refine (abridgertop_are.calls k _ _ y107 t110 _ ?side1 ?side2 A1.out).mono ?_); (case side1 => repeat (first | exact (Kd.R_reads' HO109.out).2.2 | (with_reducible refine Kd.C_alloc ?_ _) | (with_reducible refine Kd.C_drewN ?_ _) | (with_reducible refine Kd.C_drew ?_))); (case side2 => exact (Kd.R_reads' HO109.out).2.1); rintro e w' ⟨rfl, ⟨nd, rfl⟩⟩; refine ⟨_, rfl, ?_⟩))
  go_ret
  exact ⟨by first | rfl | (simp [errW_none, errW_some] <;> rfl) | (simp [*, errW_none, errW_some] <;> rfl), by repeat (first | (with_reducible first | exact HB.out | apply below_alloc | apply pw_below_drewN | apply below_drew1) | exact HB.out)⟩

/-! ### abridgertop_third: function 16 -/
def abridgertop_third.f (k : Nat)  : Option (Bool) := (abridgertop_are.f k (([(⟨1, 1⟩ : S37), (⟨2, 2⟩ : S37), (⟨3, 3⟩ : S37), (⟨4, 4⟩ : S37), (⟨5, 5⟩ : S37), (⟨6, 6⟩ : S37), (⟨7, 7⟩ : S37), (⟨8, 8⟩ : S37), (⟨9, 9⟩ : S37), (⟨10, 10⟩ : S37), (⟨11, 11⟩ : S37), (⟨12, 12⟩ : S37), (⟨13, 13⟩ : S37), (⟨14, 14⟩ : S37), (⟨15, 15⟩ : S37), (⟨16, 16⟩ : S37), (⟨17, 17⟩ : S37), (⟨18, 18⟩ : S37)] : List (S37)))).bind fun t114 => (some t114)
theorem abridgertop_third.mono : ∀ k, LeO (abridgertop_third.f k ) (abridgertop_third.f (k + 1) ) := by
  intro  k
  unfold abridgertop_third.f
  repeat' first
      | (with_reducible exact abridgertop_are.mono _ _)
      | (with_reducible exact LeO.refl _)
      | (with_reducible exact LeO.none _)
      | (with_reducible refine LeO.ite ?_ ?_)
      | (with_reducible refine LeO.bind ?_ (fun _ => ?_))
      | exact abridgertop_are.mono _ _
      | exact LeO.none _
      | refine LeO.ite ?_ ?_
      | refine LeO.bind ?_ (fun _ => ?_)
set_option maxHeartbeats 8000000 in
set_option maxRecDepth 100000 in
theorem abridgertop_third.calls (k : Nat)  (r : Bool) (w : World) (h : abridgertop_third.f k  = some r) :
    Calls Try.prog 16 #[] w fun e w' => e = .returned (.bool r) ∧ Below w.heap.size w w' := by
  have hu37 := Try.underlying37
  have HB := Aside0.mk (Below.refl w.heap.size w)
  have H : ((abridgertop_are.f k (([(⟨1, 1⟩ : S37), (⟨2, 2⟩ : S37), (⟨3, 3⟩ : S37), (⟨4, 4⟩ : S37), (⟨5, 5⟩ : S37), (⟨6, 6⟩ : S37), (⟨7, 7⟩ : S37), (⟨8, 8⟩ : S37), (⟨9, 9⟩ : S37), (⟨10, 10⟩ : S37), (⟨11, 11⟩ : S37), (⟨12, 12⟩ : S37), (⟨13, 13⟩ : S37), (⟨14, 14⟩ : S37), (⟨15, 15⟩ : S37), (⟨16, 16⟩ : S37), (⟨17, 17⟩ : S37), (⟨18, 18⟩ : S37)] : List (S37)))).bind fun t114 => (some t114)) = some r := h
  clear h
  obtain ⟨y111, hy111⟩ : ∃ y_ : List (S37), y_ = (([(⟨1, 1⟩ : S37), (⟨2, 2⟩ : S37), (⟨3, 3⟩ : S37), (⟨4, 4⟩ : S37), (⟨5, 5⟩ : S37), (⟨6, 6⟩ : S37), (⟨7, 7⟩ : S37), (⟨8, 8⟩ : S37), (⟨9, 9⟩ : S37), (⟨10, 10⟩ : S37), (⟨11, 11⟩ : S37), (⟨12, 12⟩ : S37), (⟨13, 13⟩ : S37), (⟨14, 14⟩ : S37), (⟨15, 15⟩ : S37), (⟨16, 16⟩ : S37), (⟨17, 17⟩ : S37), (⟨18, 18⟩ : S37)] : List (S37))) := ⟨_, rfl⟩
  replace H : ((abridgertop_are.f k y111).bind fun t114 => (some t114)) = some r := by first | (rw [hy111]; with_reducible exact H) | (have H2_ := (Option.bind_some _ _).symm.trans H; rw [hy111]; with_reducible exact H2_) | (have H2_ := (Option.bind_some _ _).symm.trans H; with_reducible exact H2_) | with_reducible exact H | (rw [hy111]; exact H) | exact H
  have Ny111 := Aside0.mk hy111
  clear hy111
  replace H := Option.bind_eq_some_iff.mp H
  obtain ⟨t114, A10, H⟩ := H
  replace H : (some t114) = some r := H
  have A1 := Aside0.mk A10
  clear A10
  obtain rfl := Option.some.inj H
  go_enter Try.func16, Try.ntmps16
  go_wp2_with (first | ((with_reducible refine gate_dst (N := 19) rfl ?_); refine Kd.R_lit k37 _ 37 ?hg (N := 19) ?hd (xs := ([(⟨1, 1⟩ : S37), (⟨2, 2⟩ : S37), (⟨3, 3⟩ : S37), (⟨4, 4⟩ : S37), (⟨5, 5⟩ : S37), (⟨6, 6⟩ : S37), (⟨7, 7⟩ : S37), (⟨8, 8⟩ : S37), (⟨9, 9⟩ : S37), (⟨10, 10⟩ : S37), (⟨11, 11⟩ : S37), (⟨12, 12⟩ : S37), (⟨13, 13⟩ : S37), (⟨14, 14⟩ : S37), (⟨15, 15⟩ : S37), (⟨16, 16⟩ : S37), (⟨17, 17⟩ : S37), (⟨18, 18⟩ : S37)] : List (S37))) (inner := [.int .i64 1, .int .i64 1, .int .i64 2, .int .i64 2, .int .i64 3, .int .i64 3, .int .i64 4, .int .i64 4, .int .i64 5, .int .i64 5, .int .i64 6, .int .i64 6, .int .i64 7, .int .i64 7, .int .i64 8, .int .i64 8, .int .i64 9, .int .i64 9, .int .i64 10, .int .i64 10, .int .i64 11, .int .i64 11, .int .i64 12, .int .i64 12, .int .i64 13, .int .i64 13, .int .i64 14, .int .i64 14, .int .i64 15, .int .i64 15, .int .i64 16, .int .i64 16, .int .i64 17, .int .i64 17, .int .i64 18, .int .i64 18]) (ok := fun _ => True) (okp := fun _ => True) ?hr ?hp (fun _ hk => hk) trivial (Below.refl _ _) (Nat.le_refl _) (by simp) ?_; (case hd => rfl); (case hg => rfl); (case hr => first | (go_simp; done) | (go_simp; rfl)); (case hp => exact (Reps.c2 (show Kd.M k37 _ _ _ (⟨1, 1⟩ : S37) [.int .i64 1, .int .i64 1] from (k37_mkM _ _ _ (⟨1, 1⟩ : S37) )) (Reps.c2 (show Kd.M k37 _ _ _ (⟨2, 2⟩ : S37) [.int .i64 2, .int .i64 2] from (k37_mkM _ _ _ (⟨2, 2⟩ : S37) )) (Reps.c2 (show Kd.M k37 _ _ _ (⟨3, 3⟩ : S37) [.int .i64 3, .int .i64 3] from (k37_mkM _ _ _ (⟨3, 3⟩ : S37) )) (Reps.c2 (show Kd.M k37 _ _ _ (⟨4, 4⟩ : S37) [.int .i64 4, .int .i64 4] from (k37_mkM _ _ _ (⟨4, 4⟩ : S37) )) (Reps.c2 (show Kd.M k37 _ _ _ (⟨5, 5⟩ : S37) [.int .i64 5, .int .i64 5] from (k37_mkM _ _ _ (⟨5, 5⟩ : S37) )) (Reps.c2 (show Kd.M k37 _ _ _ (⟨6, 6⟩ : S37) [.int .i64 6, .int .i64 6] from (k37_mkM _ _ _ (⟨6, 6⟩ : S37) )) (Reps.c2 (show Kd.M k37 _ _ _ (⟨7, 7⟩ : S37) [.int .i64 7, .int .i64 7] from (k37_mkM _ _ _ (⟨7, 7⟩ : S37) )) (Reps.c2 (show Kd.M k37 _ _ _ (⟨8, 8⟩ : S37) [.int .i64 8, .int .i64 8] from (k37_mkM _ _ _ (⟨8, 8⟩ : S37) )) (Reps.c2 (show Kd.M k37 _ _ _ (⟨9, 9⟩ : S37) [.int .i64 9, .int .i64 9] from (k37_mkM _ _ _ (⟨9, 9⟩ : S37) )) (Reps.c2 (show Kd.M k37 _ _ _ (⟨10, 10⟩ : S37) [.int .i64 10, .int .i64 10] from (k37_mkM _ _ _ (⟨10, 10⟩ : S37) )) (Reps.c2 (show Kd.M k37 _ _ _ (⟨11, 11⟩ : S37) [.int .i64 11, .int .i64 11] from (k37_mkM _ _ _ (⟨11, 11⟩ : S37) )) (Reps.c2 (show Kd.M k37 _ _ _ (⟨12, 12⟩ : S37) [.int .i64 12, .int .i64 12] from (k37_mkM _ _ _ (⟨12, 12⟩ : S37) )) (Reps.c2 (show Kd.M k37 _ _ _ (⟨13, 13⟩ : S37) [.int .i64 13, .int .i64 13] from (k37_mkM _ _ _ (⟨13, 13⟩ : S37) )) (Reps.c2 (show Kd.M k37 _ _ _ (⟨14, 14⟩ : S37) [.int .i64 14, .int .i64 14] from (k37_mkM _ _ _ (⟨14, 14⟩ : S37) )) (Reps.c2 (show Kd.M k37 _ _ _ (⟨15, 15⟩ : S37) [.int .i64 15, .int .i64 15] from (k37_mkM _ _ _ (⟨15, 15⟩ : S37) )) (Reps.c2 (show Kd.M k37 _ _ _ (⟨16, 16⟩ : S37) [.int .i64 16, .int .i64 16] from (k37_mkM _ _ _ (⟨16, 16⟩ : S37) )) (Reps.c2 (show Kd.M k37 _ _ _ (⟨17, 17⟩ : S37) [.int .i64 17, .int .i64 17] from (k37_mkM _ _ _ (⟨17, 17⟩ : S37) )) (Reps.c2 (show Kd.M k37 _ _ _ (⟨18, 18⟩ : S37) [.int .i64 18, .int .i64 18] from (k37_mkM _ _ _ (⟨18, 18⟩ : S37) )) (Reps.none _ _)))))))))))))))))))); intro v112 w2 ho3 hb hg_ hnew_; clear hg_ hnew_; (first | rw [← Ny111.out] at ho3 | (simp only [Int.reduceToNat] at ho3; rw [← Ny111.out] at ho3)); have n0_ := Aside0.mk (Kd.R_lower ho3 (below_size (by repeat (first | (with_reducible first | exact HB.out | apply below_alloc | apply pw_below_drewN | apply below_drew1) | exact HB.out)))); have n1_ := Aside0.mk (below_step (by repeat (first | (with_reducible first | exact HB.out | apply below_alloc | apply pw_below_drewN | apply below_drew1) | exact HB.out)) hb); clear HB; have HO113 := n0_; have HB := n1_; clear n0_ n1_; clear hb ho3; obtain ⟨Ao4, co4, eo4⟩ := Kd.R_slice HO113.out; subst eo4) | ((with_reducible refine gate_callee (f := 20) rfl ?_); refine goesL_ (some 20) rfl rfl Try.func20 (by kernel_rfl) rfl #[.slice Ao4 y111.length co4] rfl (by (try simp only [List.map_toArray, List.map_cons, List.map_nil]); first | done | rfl | (simp only [List.length_drop, List.length_take]; rfl)) ?_; (with_reducible refine (abridgertop_are.calls k _ _ y111 t114 _ ?side1 ?side2 A1.out).mono ?_); (case side1 => repeat (first | exact (Kd.R_reads' HO113.out).2.2 | (with_reducible refine Kd.C_alloc ?_ _) | (with_reducible refine Kd.C_drewN ?_ _) | (with_reducible refine Kd.C_drew ?_))); (case side2 => exact (Kd.R_reads' HO113.out).2.1); rintro e w' ⟨rfl, ⟨nd, rfl⟩⟩; refine ⟨_, rfl, ?_⟩))
  go_ret
  exact ⟨by first | rfl | (simp [errW_none, errW_some] <;> rfl) | (simp [*, errW_none, errW_some] <;> rfl), by repeat (first | (with_reducible first | exact HB.out | apply below_alloc | apply pw_below_drewN | apply below_drew1) | exact HB.out)⟩

/-! ### abridgertop_fourth: function 17 -/
def abridgertop_fourth.f (k : Nat)  : Option (Bool) := (abridgertop_are.f k (([(⟨19, 19⟩ : S37), (⟨20, 20⟩ : S37), (⟨21, 21⟩ : S37), (⟨22, 22⟩ : S37), (⟨23, 23⟩ : S37), (⟨24, 24⟩ : S37), (⟨25, 25⟩ : S37), (⟨26, 26⟩ : S37), (⟨1, 1⟩ : S37), (⟨2, 2⟩ : S37), (⟨3, 3⟩ : S37), (⟨1, 1⟩ : S37), (⟨2, 2⟩ : S37), (⟨1, 1⟩ : S37), (⟨2, 2⟩ : S37)] : List (S37)))).bind fun t118 => (some t118)
theorem abridgertop_fourth.mono : ∀ k, LeO (abridgertop_fourth.f k ) (abridgertop_fourth.f (k + 1) ) := by
  intro  k
  unfold abridgertop_fourth.f
  repeat' first
      | (with_reducible exact abridgertop_are.mono _ _)
      | (with_reducible exact LeO.refl _)
      | (with_reducible exact LeO.none _)
      | (with_reducible refine LeO.ite ?_ ?_)
      | (with_reducible refine LeO.bind ?_ (fun _ => ?_))
      | exact abridgertop_are.mono _ _
      | exact LeO.none _
      | refine LeO.ite ?_ ?_
      | refine LeO.bind ?_ (fun _ => ?_)
set_option maxHeartbeats 8000000 in
set_option maxRecDepth 100000 in
theorem abridgertop_fourth.calls (k : Nat)  (r : Bool) (w : World) (h : abridgertop_fourth.f k  = some r) :
    Calls Try.prog 17 #[] w fun e w' => e = .returned (.bool r) ∧ Below w.heap.size w w' := by
  have hu37 := Try.underlying37
  have HB := Aside0.mk (Below.refl w.heap.size w)
  have H : ((abridgertop_are.f k (([(⟨19, 19⟩ : S37), (⟨20, 20⟩ : S37), (⟨21, 21⟩ : S37), (⟨22, 22⟩ : S37), (⟨23, 23⟩ : S37), (⟨24, 24⟩ : S37), (⟨25, 25⟩ : S37), (⟨26, 26⟩ : S37), (⟨1, 1⟩ : S37), (⟨2, 2⟩ : S37), (⟨3, 3⟩ : S37), (⟨1, 1⟩ : S37), (⟨2, 2⟩ : S37), (⟨1, 1⟩ : S37), (⟨2, 2⟩ : S37)] : List (S37)))).bind fun t118 => (some t118)) = some r := h
  clear h
  obtain ⟨y115, hy115⟩ : ∃ y_ : List (S37), y_ = (([(⟨19, 19⟩ : S37), (⟨20, 20⟩ : S37), (⟨21, 21⟩ : S37), (⟨22, 22⟩ : S37), (⟨23, 23⟩ : S37), (⟨24, 24⟩ : S37), (⟨25, 25⟩ : S37), (⟨26, 26⟩ : S37), (⟨1, 1⟩ : S37), (⟨2, 2⟩ : S37), (⟨3, 3⟩ : S37), (⟨1, 1⟩ : S37), (⟨2, 2⟩ : S37), (⟨1, 1⟩ : S37), (⟨2, 2⟩ : S37)] : List (S37))) := ⟨_, rfl⟩
  replace H : ((abridgertop_are.f k y115).bind fun t118 => (some t118)) = some r := by first | (rw [hy115]; with_reducible exact H) | (have H2_ := (Option.bind_some _ _).symm.trans H; rw [hy115]; with_reducible exact H2_) | (have H2_ := (Option.bind_some _ _).symm.trans H; with_reducible exact H2_) | with_reducible exact H | (rw [hy115]; exact H) | exact H
  have Ny115 := Aside0.mk hy115
  clear hy115
  replace H := Option.bind_eq_some_iff.mp H
  obtain ⟨t118, A10, H⟩ := H
  replace H : (some t118) = some r := H
  have A1 := Aside0.mk A10
  clear A10
  obtain rfl := Option.some.inj H
  go_enter Try.func17, Try.ntmps17
  go_wp2_with (first | ((with_reducible refine gate_dst (N := 16) rfl ?_); refine Kd.R_lit k37 _ 37 ?hg (N := 16) ?hd (xs := ([(⟨19, 19⟩ : S37), (⟨20, 20⟩ : S37), (⟨21, 21⟩ : S37), (⟨22, 22⟩ : S37), (⟨23, 23⟩ : S37), (⟨24, 24⟩ : S37), (⟨25, 25⟩ : S37), (⟨26, 26⟩ : S37), (⟨1, 1⟩ : S37), (⟨2, 2⟩ : S37), (⟨3, 3⟩ : S37), (⟨1, 1⟩ : S37), (⟨2, 2⟩ : S37), (⟨1, 1⟩ : S37), (⟨2, 2⟩ : S37)] : List (S37))) (inner := [.int .i64 19, .int .i64 19, .int .i64 20, .int .i64 20, .int .i64 21, .int .i64 21, .int .i64 22, .int .i64 22, .int .i64 23, .int .i64 23, .int .i64 24, .int .i64 24, .int .i64 25, .int .i64 25, .int .i64 26, .int .i64 26, .int .i64 1, .int .i64 1, .int .i64 2, .int .i64 2, .int .i64 3, .int .i64 3, .int .i64 1, .int .i64 1, .int .i64 2, .int .i64 2, .int .i64 1, .int .i64 1, .int .i64 2, .int .i64 2]) (ok := fun _ => True) (okp := fun _ => True) ?hr ?hp (fun _ hk => hk) trivial (Below.refl _ _) (Nat.le_refl _) (by simp) ?_; (case hd => rfl); (case hg => rfl); (case hr => first | (go_simp; done) | (go_simp; rfl)); (case hp => exact (Reps.c2 (show Kd.M k37 _ _ _ (⟨19, 19⟩ : S37) [.int .i64 19, .int .i64 19] from (k37_mkM _ _ _ (⟨19, 19⟩ : S37) )) (Reps.c2 (show Kd.M k37 _ _ _ (⟨20, 20⟩ : S37) [.int .i64 20, .int .i64 20] from (k37_mkM _ _ _ (⟨20, 20⟩ : S37) )) (Reps.c2 (show Kd.M k37 _ _ _ (⟨21, 21⟩ : S37) [.int .i64 21, .int .i64 21] from (k37_mkM _ _ _ (⟨21, 21⟩ : S37) )) (Reps.c2 (show Kd.M k37 _ _ _ (⟨22, 22⟩ : S37) [.int .i64 22, .int .i64 22] from (k37_mkM _ _ _ (⟨22, 22⟩ : S37) )) (Reps.c2 (show Kd.M k37 _ _ _ (⟨23, 23⟩ : S37) [.int .i64 23, .int .i64 23] from (k37_mkM _ _ _ (⟨23, 23⟩ : S37) )) (Reps.c2 (show Kd.M k37 _ _ _ (⟨24, 24⟩ : S37) [.int .i64 24, .int .i64 24] from (k37_mkM _ _ _ (⟨24, 24⟩ : S37) )) (Reps.c2 (show Kd.M k37 _ _ _ (⟨25, 25⟩ : S37) [.int .i64 25, .int .i64 25] from (k37_mkM _ _ _ (⟨25, 25⟩ : S37) )) (Reps.c2 (show Kd.M k37 _ _ _ (⟨26, 26⟩ : S37) [.int .i64 26, .int .i64 26] from (k37_mkM _ _ _ (⟨26, 26⟩ : S37) )) (Reps.c2 (show Kd.M k37 _ _ _ (⟨1, 1⟩ : S37) [.int .i64 1, .int .i64 1] from (k37_mkM _ _ _ (⟨1, 1⟩ : S37) )) (Reps.c2 (show Kd.M k37 _ _ _ (⟨2, 2⟩ : S37) [.int .i64 2, .int .i64 2] from (k37_mkM _ _ _ (⟨2, 2⟩ : S37) )) (Reps.c2 (show Kd.M k37 _ _ _ (⟨3, 3⟩ : S37) [.int .i64 3, .int .i64 3] from (k37_mkM _ _ _ (⟨3, 3⟩ : S37) )) (Reps.c2 (show Kd.M k37 _ _ _ (⟨1, 1⟩ : S37) [.int .i64 1, .int .i64 1] from (k37_mkM _ _ _ (⟨1, 1⟩ : S37) )) (Reps.c2 (show Kd.M k37 _ _ _ (⟨2, 2⟩ : S37) [.int .i64 2, .int .i64 2] from (k37_mkM _ _ _ (⟨2, 2⟩ : S37) )) (Reps.c2 (show Kd.M k37 _ _ _ (⟨1, 1⟩ : S37) [.int .i64 1, .int .i64 1] from (k37_mkM _ _ _ (⟨1, 1⟩ : S37) )) (Reps.c2 (show Kd.M k37 _ _ _ (⟨2, 2⟩ : S37) [.int .i64 2, .int .i64 2] from (k37_mkM _ _ _ (⟨2, 2⟩ : S37) )) (Reps.none _ _))))))))))))))))); intro v116 w2 ho3 hb hg_ hnew_; clear hg_ hnew_; (first | rw [← Ny115.out] at ho3 | (simp only [Int.reduceToNat] at ho3; rw [← Ny115.out] at ho3)); have n0_ := Aside0.mk (Kd.R_lower ho3 (below_size (by repeat (first | (with_reducible first | exact HB.out | apply below_alloc | apply pw_below_drewN | apply below_drew1) | exact HB.out)))); have n1_ := Aside0.mk (below_step (by repeat (first | (with_reducible first | exact HB.out | apply below_alloc | apply pw_below_drewN | apply below_drew1) | exact HB.out)) hb); clear HB; have HO117 := n0_; have HB := n1_; clear n0_ n1_; clear hb ho3; obtain ⟨Ao4, co4, eo4⟩ := Kd.R_slice HO117.out; subst eo4) | ((with_reducible refine gate_callee (f := 20) rfl ?_); refine goesL_ (some 17) rfl rfl Try.func20 (by kernel_rfl) rfl #[.slice Ao4 y115.length co4] rfl (by (try simp only [List.map_toArray, List.map_cons, List.map_nil]); first | done | rfl | (simp only [List.length_drop, List.length_take]; rfl)) ?_; (with_reducible refine (abridgertop_are.calls k _ _ y115 t118 _ ?side1 ?side2 A1.out).mono ?_); (case side1 => repeat (first | exact (Kd.R_reads' HO117.out).2.2 | (with_reducible refine Kd.C_alloc ?_ _) | (with_reducible refine Kd.C_drewN ?_ _) | (with_reducible refine Kd.C_drew ?_))); (case side2 => exact (Kd.R_reads' HO117.out).2.1); rintro e w' ⟨rfl, ⟨nd, rfl⟩⟩; refine ⟨_, rfl, ?_⟩))
  go_ret
  exact ⟨by first | rfl | (simp [errW_none, errW_some] <;> rfl) | (simp [*, errW_none, errW_some] <;> rfl), by repeat (first | (with_reducible first | exact HB.out | apply below_alloc | apply pw_below_drewN | apply below_drew1) | exact HB.out)⟩

/-! ### abridgertop_TopNames: function 8 -/
def abridgertop_TopNames.f (k : Nat)  : Option (Bool) := (abridgertop_first.f k).bind fun t119 => (if t119 = true then ((abridgertop_second.f k).bind fun t120 => (if t120 = true then ((abridgertop_third.f k).bind fun t121 => (if t121 = true then ((abridgertop_fourth.f k).bind fun t122 => (some t122)) else (some false))) else (some false))) else (some false))
theorem abridgertop_TopNames.mono : ∀ k, LeO (abridgertop_TopNames.f k ) (abridgertop_TopNames.f (k + 1) ) := by
  intro  k
  unfold abridgertop_TopNames.f
  repeat' first
      | (with_reducible exact abridgertop_first.mono _)
      | (with_reducible exact abridgertop_fourth.mono _)
      | (with_reducible exact abridgertop_second.mono _)
      | (with_reducible exact abridgertop_third.mono _)
      | (with_reducible exact LeO.refl _)
      | (with_reducible exact LeO.none _)
      | (with_reducible refine LeO.ite ?_ ?_)
      | (with_reducible refine LeO.bind ?_ (fun _ => ?_))
      | exact abridgertop_first.mono _
      | exact abridgertop_fourth.mono _
      | exact abridgertop_second.mono _
      | exact abridgertop_third.mono _
      | exact LeO.none _
      | refine LeO.ite ?_ ?_
      | refine LeO.bind ?_ (fun _ => ?_)
set_option maxHeartbeats 8000000 in
set_option maxRecDepth 100000 in
theorem abridgertop_TopNames.calls (k : Nat)  (r : Bool) (w : World) (h : abridgertop_TopNames.f k  = some r) :
    Calls Try.prog 8 #[] w fun e w' => e = .returned (.bool r) ∧ Below w.heap.size w w' := by
  have HB := Aside0.mk (Below.refl w.heap.size w)
  have H : ((abridgertop_first.f k).bind fun t119 => (if t119 = true then ((abridgertop_second.f k).bind fun t120 => (if t120 = true then ((abridgertop_third.f k).bind fun t121 => (if t121 = true then ((abridgertop_fourth.f k).bind fun t122 => (some t122)) else (some false))) else (some false))) else (some false))) = some r := h
  clear h
  replace H := Option.bind_eq_some_iff.mp H
  obtain ⟨t119, A10, H⟩ := H
  replace H : (if t119 = true then ((abridgertop_second.f k).bind fun t120 => (if t120 = true then ((abridgertop_third.f k).bind fun t121 => (if t121 = true then ((abridgertop_fourth.f k).bind fun t122 => (some t122)) else (some false))) else (some false))) else (some false)) = some r := H
  have A1 := Aside0.mk A10
  clear A10
  by_cases c2 : t119 = true
  · subst c2
    have H1 : ((abridgertop_second.f k).bind fun t120 => (if t120 = true then ((abridgertop_third.f k).bind fun t121 => (if t121 = true then ((abridgertop_fourth.f k).bind fun t122 => (some t122)) else (some false))) else (some false))) = some r := by rw [if_pos rfl] at H; exact H
    clear H
    have H := H1
    clear H1
    replace H := Option.bind_eq_some_iff.mp H
    obtain ⟨t120, A30, H⟩ := H
    replace H : (if t120 = true then ((abridgertop_third.f k).bind fun t121 => (if t121 = true then ((abridgertop_fourth.f k).bind fun t122 => (some t122)) else (some false))) else (some false)) = some r := H
    have A3 := Aside0.mk A30
    clear A30
    by_cases c4 : t120 = true
    · subst c4
      have H1 : ((abridgertop_third.f k).bind fun t121 => (if t121 = true then ((abridgertop_fourth.f k).bind fun t122 => (some t122)) else (some false))) = some r := by rw [if_pos rfl] at H; exact H
      clear H
      have H := H1
      clear H1
      replace H := Option.bind_eq_some_iff.mp H
      obtain ⟨t121, A50, H⟩ := H
      replace H : (if t121 = true then ((abridgertop_fourth.f k).bind fun t122 => (some t122)) else (some false)) = some r := H
      have A5 := Aside0.mk A50
      clear A50
      by_cases c6 : t121 = true
      · subst c6
        have H1 : ((abridgertop_fourth.f k).bind fun t122 => (some t122)) = some r := by rw [if_pos rfl] at H; exact H
        clear H
        have H := H1
        clear H1
        replace H := Option.bind_eq_some_iff.mp H
        obtain ⟨t122, A70, H⟩ := H
        replace H : (some t122) = some r := H
        have A7 := Aside0.mk A70
        clear A70
        obtain rfl := Option.some.inj H
        go_enter Try.func8, Try.ntmps8
        go_wp2_with (first | ((with_reducible refine gate_callee (f := 14) rfl ?_); refine goesL_ (some 1) rfl rfl Try.func14 (by kernel_rfl) rfl #[] rfl (by (try simp only [List.map_toArray, List.map_cons, List.map_nil]); first | done | rfl | (simp only [List.length_drop, List.length_take]; rfl)) ?_; (with_reducible refine (abridgertop_first.calls k  true _ A1.out).mono ?_); rintro e w8 ⟨rfl, hb⟩; refine ⟨_, rfl, ?_⟩; have n0_ := Aside0.mk (below_step (by repeat (first | (with_reducible first | exact HB.out | apply below_alloc | apply pw_below_drewN | apply below_drew1) | exact HB.out)) hb); clear HB; have HB := n0_; clear n0_; (try clear hb); (try clear hb2); (try clear hk); (try clear hi)) | (go_at_call 15; (with_reducible refine (abridgertop_second.calls k  true _ A3.out).mono ?_); rintro e w9 ⟨rfl, hb⟩; have n0_ := Aside0.mk (below_step (by repeat (first | (with_reducible first | exact HB.out | apply below_alloc | apply pw_below_drewN | apply below_drew1) | exact HB.out)) hb); clear HB; have HB := n0_; clear n0_; (try clear hb); (try clear hb2); (try clear hk); (try clear hi)) | (go_at_call 16; (with_reducible refine (abridgertop_third.calls k  true _ A5.out).mono ?_); rintro e w10 ⟨rfl, hb⟩; have n0_ := Aside0.mk (below_step (by repeat (first | (with_reducible first | exact HB.out | apply below_alloc | apply pw_below_drewN | apply below_drew1) | exact HB.out)) hb); clear HB; have HB := n0_; clear n0_; (try clear hb); (try clear hb2); (try clear hk); (try clear hi)) | (go_at_call 17; (with_reducible refine (abridgertop_fourth.calls k  t122 _ A7.out).mono ?_); rintro e w11 ⟨rfl, hb⟩; have n0_ := Aside0.mk (below_step (by repeat (first | (with_reducible first | exact HB.out | apply below_alloc | apply pw_below_drewN | apply below_drew1) | exact HB.out)) hb); clear HB; have HB := n0_; clear n0_; (try clear hb); (try clear hb2); (try clear hk); (try clear hi)))
        go_ret
        exact ⟨by first | rfl | (simp [errW_none, errW_some] <;> rfl) | (simp [*, errW_none, errW_some] <;> rfl), by repeat (first | (with_reducible first | exact HB.out | apply below_alloc | apply pw_below_drewN | apply below_drew1) | exact HB.out)⟩
      · replace c6 := Bool.eq_false_iff.mpr c6
        subst c6
        have H1 : (some false) = some r := by rw [if_neg (show ¬ (false = true) by decide)] at H; exact H
        clear H
        have H := H1
        clear H1
        obtain rfl := Option.some.inj H
        go_enter Try.func8, Try.ntmps8
        go_wp2_with (first | ((with_reducible refine gate_callee (f := 14) rfl ?_); refine goesL_ (some 1) rfl rfl Try.func14 (by kernel_rfl) rfl #[] rfl (by (try simp only [List.map_toArray, List.map_cons, List.map_nil]); first | done | rfl | (simp only [List.length_drop, List.length_take]; rfl)) ?_; (with_reducible refine (abridgertop_first.calls k  true _ A1.out).mono ?_); rintro e w12 ⟨rfl, hb⟩; refine ⟨_, rfl, ?_⟩; have n0_ := Aside0.mk (below_step (by repeat (first | (with_reducible first | exact HB.out | apply below_alloc | apply pw_below_drewN | apply below_drew1) | exact HB.out)) hb); clear HB; have HB := n0_; clear n0_; (try clear hb); (try clear hb2); (try clear hk); (try clear hi)) | (go_at_call 15; (with_reducible refine (abridgertop_second.calls k  true _ A3.out).mono ?_); rintro e w13 ⟨rfl, hb⟩; have n0_ := Aside0.mk (below_step (by repeat (first | (with_reducible first | exact HB.out | apply below_alloc | apply pw_below_drewN | apply below_drew1) | exact HB.out)) hb); clear HB; have HB := n0_; clear n0_; (try clear hb); (try clear hb2); (try clear hk); (try clear hi)) | (go_at_call 16; (with_reducible refine (abridgertop_third.calls k  false _ A5.out).mono ?_); rintro e w14 ⟨rfl, hb⟩; have n0_ := Aside0.mk (below_step (by repeat (first | (with_reducible first | exact HB.out | apply below_alloc | apply pw_below_drewN | apply below_drew1) | exact HB.out)) hb); clear HB; have HB := n0_; clear n0_; (try clear hb); (try clear hb2); (try clear hk); (try clear hi)))
        go_ret
        exact ⟨by first | rfl | (simp [errW_none, errW_some] <;> rfl) | (simp [*, errW_none, errW_some] <;> rfl), by repeat (first | (with_reducible first | exact HB.out | apply below_alloc | apply pw_below_drewN | apply below_drew1) | exact HB.out)⟩
    · replace c4 := Bool.eq_false_iff.mpr c4
      subst c4
      have H1 : (some false) = some r := by rw [if_neg (show ¬ (false = true) by decide)] at H; exact H
      clear H
      have H := H1
      clear H1
      obtain rfl := Option.some.inj H
      go_enter Try.func8, Try.ntmps8
      go_wp2_with (first | ((with_reducible refine gate_callee (f := 14) rfl ?_); refine goesL_ (some 1) rfl rfl Try.func14 (by kernel_rfl) rfl #[] rfl (by (try simp only [List.map_toArray, List.map_cons, List.map_nil]); first | done | rfl | (simp only [List.length_drop, List.length_take]; rfl)) ?_; (with_reducible refine (abridgertop_first.calls k  true _ A1.out).mono ?_); rintro e w15 ⟨rfl, hb⟩; refine ⟨_, rfl, ?_⟩; have n0_ := Aside0.mk (below_step (by repeat (first | (with_reducible first | exact HB.out | apply below_alloc | apply pw_below_drewN | apply below_drew1) | exact HB.out)) hb); clear HB; have HB := n0_; clear n0_; (try clear hb); (try clear hb2); (try clear hk); (try clear hi)) | (go_at_call 15; (with_reducible refine (abridgertop_second.calls k  false _ A3.out).mono ?_); rintro e w16 ⟨rfl, hb⟩; have n0_ := Aside0.mk (below_step (by repeat (first | (with_reducible first | exact HB.out | apply below_alloc | apply pw_below_drewN | apply below_drew1) | exact HB.out)) hb); clear HB; have HB := n0_; clear n0_; (try clear hb); (try clear hb2); (try clear hk); (try clear hi)))
      go_ret
      exact ⟨by first | rfl | (simp [errW_none, errW_some] <;> rfl) | (simp [*, errW_none, errW_some] <;> rfl), by repeat (first | (with_reducible first | exact HB.out | apply below_alloc | apply pw_below_drewN | apply below_drew1) | exact HB.out)⟩
  · replace c2 := Bool.eq_false_iff.mpr c2
    subst c2
    have H1 : (some false) = some r := by rw [if_neg (show ¬ (false = true) by decide)] at H; exact H
    clear H
    have H := H1
    clear H1
    obtain rfl := Option.some.inj H
    go_enter Try.func8, Try.ntmps8
    go_wp2_with (first | ((with_reducible refine gate_callee (f := 14) rfl ?_); refine goesL_ (some 1) rfl rfl Try.func14 (by kernel_rfl) rfl #[] rfl (by (try simp only [List.map_toArray, List.map_cons, List.map_nil]); first | done | rfl | (simp only [List.length_drop, List.length_take]; rfl)) ?_; (with_reducible refine (abridgertop_first.calls k  false _ A1.out).mono ?_); rintro e w17 ⟨rfl, hb⟩; refine ⟨_, rfl, ?_⟩; have n0_ := Aside0.mk (below_step (by repeat (first | (with_reducible first | exact HB.out | apply below_alloc | apply pw_below_drewN | apply below_drew1) | exact HB.out)) hb); clear HB; have HB := n0_; clear n0_; (try clear hb); (try clear hb2); (try clear hk); (try clear hi)))
    go_ret
    exact ⟨by first | rfl | (simp [errW_none, errW_some] <;> rfl) | (simp [*, errW_none, errW_some] <;> rfl), by repeat (first | (with_reducible first | exact HB.out | apply below_alloc | apply pw_below_drewN | apply below_drew1) | exact HB.out)⟩

/-- THE ONE PURE STATEMENT of abridgertop_TopNames: yours. -/
def abridgertop_TopNames.Pure : Prop := ∃ k, abridgertop_TopNames.f k  = some true
theorem abridgertop_TopNames.walk (P : abridgertop_TopNames.Pure)  (w : World)  :
    Calls Try.prog 8 #[] w fun e w' => e = .returned (.bool true) ∧ Below w.heap.size w w' := by
  obtain ⟨k, h⟩ := P  
  refine (abridgertop_TopNames.calls k  true w h).mono ?_
  rintro e w' ⟨rfl, hd⟩
  exact ⟨rfl, hd⟩

end Go.Proofs.Ytlpbebijhfkmeaa.PTopNames
