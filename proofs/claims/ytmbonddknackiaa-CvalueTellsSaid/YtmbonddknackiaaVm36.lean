/- Texts joined: VxEq VzIns VzCont VzTell VxAlive VyTy21 VyPack VyC1 VzT1 VzK1 VzK2 VzK3 VyC2 VyC3 VyC4 VyC5 VyC6 VyC7a VyE1a VzS1 VzS2 VzX1 VyE4a VzX2 VzK4 VzW0 VzS3. -/
import Derived.Test.YtmbonddknackiaaVxTold
import Derived.KernelRfl
import Derived.Test.YtmbonddknackiaaProg
import Derived.Test.YtmbonddknackiaaVxAppend
import Derived.Shelf.Spec.SlicesInsertGrow
import Derived.WalkKit
import Derived.ProofKit
import Derived.Lib.Overlaps
import Derived.Shelf.Strings.Search3
import Derived.Test.YtmbonddknackiaaVyRun
import Derived.Test.YtmbonddknackiaaVyGive
import Derived.Test.YtmbonddknackiaaVyOwn
import Derived.Lib.IndexLaws
import Derived.Lib.IndexMore
import Derived.Test.YtmbonddknackiaaVyFrame
/- The '==' of the tokens, the numbers and the colours is the cells' own. -/
section
namespace Go.Vx.Seat
open Go.Proofs
theorem eq_int (d : Nat) (a b : Int) (w : World) : (Op.equalIn (d + 1) 3 (.int .i64 a) (.int .i64 b)).run Try.prog w = .ok (a == b) w := by
  simp [Op.equalIn, run_underlying Try.underlying3]
theorem eq_str (d : Nat) (a b : ByteArray) (w : World) : (Op.equalIn (d + 1) 9 (.string a) (.string b)).run Try.prog w = .ok (a == b) w := by
  simp [Op.equalIn, run_underlying Try.underlying9]
theorem eq_bool (d : Nat) (a b : Bool) (w : World) : (Op.equalIn (d + 1) 4 (.bool a) (.bool b)).run Try.prog w = .ok (a == b) w := by
  simp [Op.equalIn, run_underlying Try.underlying4]
theorem ite_ok (b c : Bool) (w : World) : (if b = false then Result.ok false w else Result.ok c w) = Result.ok (b && c) w := by cases b <;> rfl
theorem heldN : Try.prog.stoodInHeld 35 = false := by kernel_rfl
theorem heldT : Try.prog.stoodInHeld 38 = false := by kernel_rfl
theorem ag3 : tyAgg Try.prog 3 = some false := by kernel_rfl
theorem ag9 : tyAgg Try.prog 9 = some false := by kernel_rfl
theorem ag4 : tyAgg Try.prog 4 = some false := by kernel_rfl
theorem agN : tyAgg Try.prog 35 = some true := by kernel_rfl
theorem agC : tyAgg Try.prog 36 = some true := by kernel_rfl
theorem szN : tySz Try.prog 35 = 3 := by kernel_rfl
theorem szC : tySz Try.prog 36 = 4 := by kernel_rfl
theorem sz3 : tySz Try.prog 3 = 1 := by kernel_rfl
theorem part_cell {t : TypeId} (h : tyAgg Try.prog t = some false) (cs : Array Value) (off : Nat) (w : World) : (part t cs off).run Try.prog w = match cs[off]? with | some v => .ok v w | none => .halt (.stuck "part: no such cell") w := by
  simp only [part, Sem.run_bind, run_isAgg h, Result.andThen]
  cases cs[off]? <;> simp
theorem part_agg {t n : TypeId} (h : tyAgg Try.prog t = some true) (hz : tySz Try.prog t = n) (cs : Array Value) (off : Nat) (w : World) : (part t cs off).run Try.prog w = .ok (.agg (cs.extract off (off + n))) w := by
  simp [part, run_isAgg h, run_sizeOf (tyAgg_info h), hz]
theorem eq_num (d : Nat) (a b : Bool) (a1 b1 a2 b2 : ByteArray) (w : World) : (Op.equalIn (d + 1 + 1) 35 (.agg #[.bool a, .string a1, .string a2]) (.agg #[.bool b, .string b1, .string b2])).run Try.prog w = .ok ((a == b) && ((a1 == b1) && (a2 == b2))) w := by
  rw [Op.equalIn]
  simp only [Sem.run_bind, run_underlying Try.underlying35, Result.andThen, run_program, heldN]
  simp only [forIn]
  simp [part_cell ag4, part_cell ag9, eq_bool, eq_str]
  simp only [ite_ok]
  cases h1 : a == b <;> cases h2 : a1 == b1 <;> cases h3 : a2 == b2 <;> simp_all
theorem eq_col (d : Nat) (a0 a1 a2 a3 b0 b1 b2 b3 : Int) (w : World) : (Op.equalIn (d + 1 + 1) 36 (.agg #[.int .i64 a0, .int .i64 a1, .int .i64 a2, .int .i64 a3]) (.agg #[.int .i64 b0, .int .i64 b1, .int .i64 b2, .int .i64 b3])).run Try.prog w =
    .ok ((a0 == b0) && ((a1 == b1) && ((a2 == b2) && (a3 == b3)))) w := by
  rw [Op.equalIn]
  simp only [Sem.run_bind, run_underlying Try.underlying36, Result.andThen, run_sizeOf (tyAgg_info ag3), sz3]
  simp [Std.Legacy.Range.forIn_eq_forIn_range', Std.Legacy.Range.size, List.range'_succ, part_cell ag3, eq_int]
  by_cases h1 : a0 = b0 <;> by_cases h2 : a1 = b1 <;> by_cases h3 : a2 = b2 <;> by_cases h4 : a3 = b3 <;> simp_all
theorem eq_tok (d : Nat) (a0 a8 a9 a10 a11 a12 b0 b8 b9 b10 b11 b12 : Int) (a1 a2 a4 a5 b1 b2 b4 b5 : ByteArray) (p3 p6 p7 q3 q6 q7 : Bool) (w : World) :
    (Op.equalIn (d + 1 + 1 + 1) 38 (.agg #[.int .i64 a0, .string a1, .string a2, .bool p3, .string a4, .string a5, .bool p6, .bool p7, .int .i64 a8, .int .i64 a9, .int .i64 a10, .int .i64 a11, .int .i64 a12])
      (.agg #[.int .i64 b0, .string b1, .string b2, .bool q3, .string b4, .string b5, .bool q6, .bool q7, .int .i64 b8, .int .i64 b9, .int .i64 b10, .int .i64 b11, .int .i64 b12])).run Try.prog w =
    .ok ((a0 == b0) && ((a1 == b1) && ((a2 == b2) && (((p3 == q3) && ((a4 == b4) && (a5 == b5))) && ((p6 == q6) && ((p7 == q7) && (((a8 == b8) && ((a9 == b9) && ((a10 == b10) && (a11 == b11)))) && (a12 == b12)))))))) w := by
  rw [Op.equalIn]
  simp only [Sem.run_bind, run_underlying Try.underlying38, Result.andThen, run_program, heldT]
  simp only [forIn]
  simp [part_cell ag4, part_cell ag9, part_cell ag3, part_agg agN szN, part_agg agC szC, eq_bool, eq_str, eq_int, eq_num, eq_col]
  by_cases h0 : ¬ a0 = b0
  · simp [h0]
  have h0 : a0 = b0 := Classical.not_not.1 h0
  cases h1 : a1 == b1
  · simp
  cases h2 : a2 == b2
  · simp
  by_cases h3 : ¬ p3 = q3
  · simp [h3]
  have h3 : p3 = q3 := Classical.not_not.1 h3
  cases h4 : a4 == b4
  · simp
  cases h5 : a5 == b5
  · simp [h3]
  by_cases h6 : ¬ p6 = q6
  · simp [h0, h3, h6]
  have h6 : p6 = q6 := Classical.not_not.1 h6
  by_cases h7 : ¬ p7 = q7
  · simp [h0, h3, h6, h7]
  have h7 : p7 = q7 := Classical.not_not.1 h7
  by_cases h8 : ¬ a8 = b8
  · simp [h0, h3, h6, h7, h8]
  have h8 : a8 = b8 := Classical.not_not.1 h8
  by_cases h9 : ¬ a9 = b9
  · simp [h0, h3, h6, h7, h8, h9]
  have h9 : a9 = b9 := Classical.not_not.1 h9
  by_cases h10 : ¬ a10 = b10
  · simp [h0, h3, h6, h7, h8, h9, h10]
  have h10 : a10 = b10 := Classical.not_not.1 h10
  by_cases h11 : ¬ a11 = b11
  · simp [h0, h3, h6, h7, h8, h9, h10, h11]
  have h11 : a11 = b11 := Classical.not_not.1 h11
  by_cases h12 : a12 = b12 <;> simp [h0, h3, h6, h7, h8, h9, h10, h11, h12]

theorem likes_int {k : IntKind} {z : Int} {zs xs : List Value} (h : likes (.int k z :: zs) xs = true) : ∃ n xs', xs = .int k n :: xs' ∧ likes zs xs' = true := by
  cases xs with
  | nil => simp [likes] at h
  | cons x xs =>
    cases x <;> simp [likes] at h
    obtain ⟨rfl, h⟩ := h
    exact ⟨_, xs, rfl, h⟩
theorem likes_str {z : ByteArray} {zs xs : List Value} (h : likes (.string z :: zs) xs = true) : ∃ n xs', xs = .string n :: xs' ∧ likes zs xs' = true := by
  cases xs with
  | nil => simp [likes] at h
  | cons x xs => cases x <;> simp [likes] at h; exact ⟨_, xs, rfl, h⟩
theorem likes_bool {z : Bool} {zs xs : List Value} (h : likes (.bool z :: zs) xs = true) : ∃ n xs', xs = .bool n :: xs' ∧ likes zs xs' = true := by
  cases xs with
  | nil => simp [likes] at h
  | cons x xs => cases x <;> simp [likes] at h; exact ⟨_, xs, rfl, h⟩
theorem likes_nil {xs : List Value} (h : likes [] xs = true) : xs = [] := by
  cases xs with
  | nil => rfl
  | cons x xs => simp [likes] at h

abbrev noStr : ByteArray := ⟨#[]⟩
theorem zeroT : tyZero Try.prog 38 = some (.agg #[.int .i64 0, .string noStr, .string noStr, .bool false, .string noStr, .string noStr, .bool false, .bool false, .int .i64 0, .int .i64 0, .int .i64 0, .int .i64 0, .int .i64 0]) := by kernel_rfl
theorem zeroN : tyZero Try.prog 35 = some (.agg #[.bool false, .string noStr, .string noStr]) := by kernel_rfl
theorem zeroC : tyZero Try.prog 36 = some (.agg #[.int .i64 0, .int .i64 0, .int .i64 0, .int .i64 0]) := by kernel_rfl

theorem likesN {xs : List Value} (h : likes [.bool false, .string noStr, .string noStr] xs = true) : ∃ a b c, xs = [.bool a, .string b, .string c] := by
  obtain ⟨a, x1, rfl, g1⟩ := likes_bool h
  obtain ⟨b, x2, rfl, g2⟩ := likes_str g1
  obtain ⟨c, x3, rfl, g3⟩ := likes_str g2
  cases likes_nil g3
  exact ⟨a, b, c, rfl⟩
theorem likesC {xs : List Value} (h : likes [.int .i64 0, .int .i64 0, .int .i64 0, .int .i64 0] xs = true) : ∃ a b c d, xs = [.int .i64 a, .int .i64 b, .int .i64 c, .int .i64 d] := by
  obtain ⟨a, x1, rfl, g1⟩ := likes_int h
  obtain ⟨b, x2, rfl, g2⟩ := likes_int g1
  obtain ⟨c, x3, rfl, g3⟩ := likes_int g2
  obtain ⟨d, x4, rfl, g4⟩ := likes_int g3
  cases likes_nil g4
  exact ⟨a, b, c, d, rfl⟩
theorem likesT {xs : List Value} (h : likes [.int .i64 0, .string noStr, .string noStr, .bool false, .string noStr, .string noStr, .bool false, .bool false, .int .i64 0, .int .i64 0, .int .i64 0, .int .i64 0, .int .i64 0] xs = true) :
    ∃ a0 a1 a2 a3 a4 a5 a6 a7 a8 a9 a10 a11 a12, xs = [.int .i64 a0, .string a1, .string a2, .bool a3, .string a4, .string a5, .bool a6, .bool a7, .int .i64 a8, .int .i64 a9, .int .i64 a10, .int .i64 a11, .int .i64 a12] := by
  obtain ⟨a0, x0, rfl, g1⟩ := likes_int h
  obtain ⟨a1, x1, rfl, g2⟩ := likes_str g1
  obtain ⟨a2, x2, rfl, g3⟩ := likes_str g2
  obtain ⟨a3, x3, rfl, g4⟩ := likes_bool g3
  obtain ⟨a4, x4, rfl, g5⟩ := likes_str g4
  obtain ⟨a5, x5, rfl, g6⟩ := likes_str g5
  obtain ⟨a6, x6, rfl, g7⟩ := likes_bool g6
  obtain ⟨a7, x7, rfl, g8⟩ := likes_bool g7
  obtain ⟨a8, x8, rfl, g9⟩ := likes_int g8
  obtain ⟨a9, x9, rfl, g10⟩ := likes_int g9
  obtain ⟨a10, x10, rfl, g11⟩ := likes_int g10
  obtain ⟨a11, x11, rfl, g12⟩ := likes_int g11
  obtain ⟨a12, x12, rfl, g13⟩ := likes_int g12
  cases likes_nil g13
  exact ⟨_, _, _, _, _, _, _, _, _, _, _, _, _, rfl⟩

theorem guard_none {t : TypeId} (h : Try.prog.eqGuardType Try.prog.depth t = false) (op : BinOp) (xo yo : Operand) (a b : Array Value) (w : World) : (eqGuard op t xo yo (.agg a) (.agg b)).run Try.prog w = .ok () w := by
  unfold eqGuard
  cases op <;> simp [h]
theorem guardT : Try.prog.eqGuardType Try.prog.depth 38 = false := by kernel_rfl
theorem guardN : Try.prog.eqGuardType Try.prog.depth 35 = false := by kernel_rfl
theorem guardC : Try.prog.eqGuardType Try.prog.depth 36 = false := by kernel_rfl

theorem arr_of {xs : Array Value} {l : List Value} (h : xs.toList = l) : xs = l.toArray := by subst h; simp

theorem eq_of_deep {t : TypeId} {x y : Value} {b : Bool} {w : World} (h : ∀ d, (Op.equalIn (d + 1 + 1 + 1) t x y).run Try.prog w = .ok b w) : (Op.equal t x y).run Try.prog w = .ok b w := by
  unfold Op.equal
  have : Op.maxDepth = 9997 + 1 + 1 + 1 := by unfold Op.maxDepth; omega
  rw [this]
  exact h 9997

theorem eqsOk : EqsOk Try.prog [38, 35, 36] := by
  intro t ht xs ys b hab xo yo w
  simp only [List.mem_cons, List.not_mem_nil, or_false] at ht
  rcases ht with rfl | rfl | rfl
  · refine ⟨guard_none guardT _ _ _ _ _ _, guard_none guardT _ _ _ _ _ _, ?_⟩
    unfold aggEq at hab
    rw [zeroT] at hab
    simp only at hab
    split at hab
    · rename_i hl
      simp only [Bool.and_eq_true] at hl
      obtain ⟨a0, a1, a2, a3, a4, a5, a6, a7, a8, a9, a10, a11, a12, hx⟩ := likesT hl.1
      obtain ⟨b0, b1, b2, b3, b4, b5, b6, b7, b8, b9, b10, b11, b12, hy⟩ := likesT hl.2
      rw [hx, hy] at hab
      simp only [cellsEq, cellEq, if_true] at hab
      cases hab
      rw [arr_of hx, arr_of hy]
      refine eq_of_deep fun d => ?_
      have := eq_tok d a0 a8 a9 a10 a11 a12 b0 b8 b9 b10 b11 b12 a1 a2 a4 a5 b1 b2 b4 b5 a3 a6 a7 b3 b6 b7 w
      rw [this]
      refine congrArg (fun q => Result.ok q w) ?_
      simp only [beq_str, Bool.and_assoc, Bool.and_true]
      rfl
    · cases hab
  · refine ⟨guard_none guardN _ _ _ _ _ _, guard_none guardN _ _ _ _ _ _, ?_⟩
    unfold aggEq at hab
    rw [zeroN] at hab
    simp only at hab
    split at hab
    · rename_i hl
      simp only [Bool.and_eq_true] at hl
      obtain ⟨a0, a1, a2, hx⟩ := likesN hl.1
      obtain ⟨b0, b1, b2, hy⟩ := likesN hl.2
      rw [hx, hy] at hab
      simp only [cellsEq, cellEq] at hab
      cases hab
      rw [arr_of hx, arr_of hy]
      refine eq_of_deep fun d => ?_
      have := eq_num (d + 1) a0 b0 a1 b1 a2 b2 w
      rw [this]
      refine congrArg (fun q => Result.ok q w) ?_
      simp only [beq_str, Bool.and_true]
    · cases hab
  · refine ⟨guard_none guardC _ _ _ _ _ _, guard_none guardC _ _ _ _ _ _, ?_⟩
    unfold aggEq at hab
    rw [zeroC] at hab
    simp only at hab
    split at hab
    · rename_i hl
      simp only [Bool.and_eq_true] at hl
      obtain ⟨a0, a1, a2, a3, hx⟩ := likesC hl.1
      obtain ⟨b0, b1, b2, b3, hy⟩ := likesC hl.2
      rw [hx, hy] at hab
      simp only [cellsEq, cellEq, if_true] at hab
      cases hab
      rw [arr_of hx, arr_of hy]
      refine eq_of_deep fun d => ?_
      have := eq_col (d + 1) a0 a1 a2 a3 b0 b1 b2 b3 w
      rw [this]
      refine congrArg (fun q => Result.ok q w) ?_
      simp only [Bool.and_true]
      rfl
    · cases hab

def zerosB (P : Program) : Bool := P.types.toList.all fun i => match i.zero with | some z => isTup z || dryV z | none => true
theorem zerosOk_of {P : Program} (h : zerosB P = true) : ZerosOk P := by
  intro t z hz
  obtain ⟨i, hi, hiz, ht⟩ := tyZero_types hz
  unfold zerosB at h
  simp only [List.all_eq_true] at h
  have hm : i ∈ P.types.toList := by
    rw [Array.getElem?_eq_some_iff] at hi
    obtain ⟨hlt, rfl⟩ := hi
    simp
  have := h i hm
  rw [hiz] at this
  simp only [ht, Bool.false_or] at this
  exact this
theorem zerosOk : ZerosOk Try.prog := zerosOk_of (by kernel_rfl)
theorem mixed : Try.prog.follows .mixedOrders = true := by kernel_rfl

noncomputable def C0 : Cx := { P := Try.prog, eqs := [38, 35, 36], told := fun f => if f = 0 then some (fun _ _ _ => none) else none, top := 123, low := fun base w => 0 < base ∧ ∃ m : Int, w.cell? ⟨0, 0, none⟩ = some (.int .i64 m) }
def fnsB (P : Program) : Nat → Bool
  | 0 => true
  | f + 1 => fnsB P f && (f == 0 || (match P.funcs.toList[f]? with | some fn => okFn P fn | none => true))
theorem fnsB_all {P : Program} : ∀ {n : Nat}, fnsB P n = true → ∀ f fn, f < n → f ≠ 0 → P.funcs[f]? = some fn → okFn P fn = true
  | 0, _, f, fn, hf, _, _ => by omega
  | n + 1, h, f, fn, hf, hs, hfn => by
    simp only [fnsB, Bool.and_eq_true] at h
    by_cases e : f = n
    · subst e
      have : P.funcs.toList[f]? = some fn := by simpa using hfn
      have h2 := h.2
      rw [this] at h2
      simpa [hs] using h2
    · exact fnsB_all h.1 f fn (by omega) hs hfn
theorem fns0 : fnsB Try.prog 123 = true := by kernel_rfl
theorem told0 (f : FuncId) : C0.told f = if f = 0 then some (fun _ _ _ => none) else none := rfl
theorem good0 : Good C0 := by
  refine ⟨mixed, eqsOk, zerosOk, fun base w w2 ⟨h1, m, h2⟩ hb => ⟨h1, m, by rw [hb.cell h1]; exact h2⟩, fun f fn hf ht hfn => ?_, fun f g h lo args h1 v h' hx => ?_, fun base f g h lo f' args h1 v h' hx => ?_⟩
  · refine fnsB_all fns0 f fn hf (fun e => ?_) hfn
    rw [told0, if_pos e] at ht; cases ht
  · rw [told0] at h
    split at h <;> cases h
    cases hx
  · rw [told0] at h
    split at h <;> cases h
    simp at hx
end Go.Vx.Seat
end

section
open Go Go.Vx Go.Proofs Go.RowKit
set_option linter.unusedVariables false
set_option linter.unusedSimpArgs false
namespace Go.Vx.Seat
set_option maxHeartbeats 4000000 in
set_option maxRecDepth 100000 in
theorem ins_nil (vb voff vc : Nat) (w : World) {v' : Value} {w1 : World}
    (hr : ∀ ty, (Builtin.append_ #[22, 22] ty #[.slice none 0 0, .slice (some ⟨vb, voff, none⟩) 1 vc]).run Try.prog w = .ok v' w1) :
    Calls Try.prog 61 #[.slice none 0 0, .int .i64 0, .slice (some ⟨vb, voff, none⟩) 1 vc] w fun e w' => e = .returned v' ∧ w' = w1 := by
  have mixed : Try.prog.follows .mixedOrders = true := Go.Vx.Seat.mixed
  go_enter Try.func61, Try.ntmps61
  go_wp2_with (at_builtin; refine Lib.wpList_append_run _ rfl _ _ _ _ rfl _ _ rfl rfl _ _ (hr _) ?_)
  go_ret
  exact ⟨rfl, rfl⟩
set_option maxHeartbeats 4000000 in
set_option maxRecDepth 100000 in
theorem ins_grow (b off n cc vb voff vc g G : Nat) (w w1 w2 w3 : World) (x2 x3 : Value) (hn : 0 < n) (hcc : n ≤ cc) (hroom : cc < n + 1) (hbig : n ≤ 1000000000000) (hG : n + 1 ≤ G) (hG2 : G ≤ 9223372036854775807)
    (hA : ∀ ty, (Builtin.append_ #[22, 3] ty #[.slice (some ⟨b, off, none⟩) 0 cc, .int .i64 ((n : Int) + 1)]).run Try.prog w = .ok (.slice (some ⟨g, 0, none⟩) (n + 1) G) w1)
    (hB : ∀ ty, (Builtin.copy_ #[22, 22] ty #[.slice (some ⟨g, 0, none⟩) (n + 1) G, .slice (some ⟨vb, voff, none⟩) 1 vc]).run Try.prog w1 = .ok x2 w2)
    (hC : ∀ ty, (Builtin.copy_ #[22, 22] ty #[.slice (some ⟨g, 13, none⟩) n (G - 1), .slice (some ⟨b, off, none⟩) n cc]).run Try.prog w2.drew = .ok x3 w3) :
    Calls Try.prog 61 #[.slice (some ⟨b, off, none⟩) n cc, .int .i64 0, .slice (some ⟨vb, voff, none⟩) 1 vc] w fun e w' => e = .returned (.slice (some ⟨g, 0, none⟩) (n + 1) G) ∧ w' = w3 := by
  have mixed : Try.prog.follows .mixedOrders = true := Go.Vx.Seat.mixed
  have z1 : ¬ ((n : Int) = 0) := by omega
  have z2 : ¬ (0 : Int) = (n : Int) := by omega
  have z3 : (cc : Int) < (n : Int) + 1 := by omega
  have z4 : IntKind.i64.wrap ((n : Int) + 1) = (n : Int) + 1 := by rw [IntKind.wrap_i64]; omega
  have z5 : ¬ (G = 0) := by omega
  have z6 : ¬ (G = 1) := by omega
  have z7 : ¬ (cc = 0) := by omega
  have z8 : IntKind.i64.wrap 1 = 1 := by rw [IntKind.wrap_i64]; omega
  have z9 : (1 : Int) ≤ (n : Int) + 1 := by omega
  have z10 : Int.toNat 1 = 1 := rfl
  have z11 : (0 : Int) ≤ 1 := by omega
  clear hroom hbig hG2
  go_enter Try.func61, Try.ntmps61
  go_wp2_with (first
    | (at_builtin; refine Lib.wpList_append_run _ rfl _ _ _ _ rfl _ _ rfl rfl _ _ (hA _) ?_)
    | (at_builtin; refine wpList_copy_runI _ rfl _ _ 22 22 rfl _ _ rfl rfl (hB _) ?_))
  go_region_law_o (refine step_copy_runI rfl _ _ 22 22 rfl (.slice (some ⟨g, 13, none⟩) n (G - 1)) (.slice (some ⟨b, off, none⟩) n cc) (by simp [Act.eval, Act.put]) (by simp [Act.eval, Act.put]) (hC _) ?_)
  go_wp2
  go_ret
  exact ⟨rfl, rfl⟩
set_option maxHeartbeats 4000000 in
set_option maxRecDepth 100000 in
theorem ins_shift (b off n cc vb voff vc : Nat) (w w1 w2 : World) (x1 x2 : Value) (hn : 0 < n) (hroom : n + 1 ≤ cc) (hc63 : cc ≤ 9223372036854775807)
    (hov : ∀ lb cb, (callFunc 87 #[.slice (some ⟨vb, voff, none⟩) 1 vc, .slice (some ⟨b, off + 13, none⟩) lb cb]).run Try.prog w = .ok (.value (.bool false)) w)
    (hB : ∀ ty, (Builtin.copy_ #[22, 22] ty #[.slice (some ⟨b, off + 13, none⟩) n (cc - 1), .slice (some ⟨b, off, none⟩) (n + 1) cc]).run Try.prog w.drew = .ok x1 w1)
    (hC : ∀ ty, (Builtin.copy_ #[22, 22] ty #[.slice (some ⟨b, off, none⟩) (n + 1) cc, .slice (some ⟨vb, voff, none⟩) 1 vc]).run Try.prog w1 = .ok x2 w2) :
    Calls Try.prog 61 #[.slice (some ⟨b, off, none⟩) n cc, .int .i64 0, .slice (some ⟨vb, voff, none⟩) 1 vc] w fun e w' => e = .returned (.slice (some ⟨b, off, none⟩) (n + 1) cc) ∧ w' = w2 := by
  have mixed : Try.prog.follows .mixedOrders = true := Go.Vx.Seat.mixed
  have z1 : ¬ ((n : Int) = 0) := by omega
  have z2 : ¬ (0 : Int) = (n : Int) := by omega
  have z3 : ¬ (cc : Int) < (n : Int) + 1 := by omega
  have z4 : IntKind.i64.wrap ((n : Int) + 1) = (n : Int) + 1 := by rw [IntKind.wrap_i64]; omega
  have z6 : ¬ (cc = 1) := by omega
  have z7 : ¬ (cc = 0) := by omega
  have z8 : IntKind.i64.wrap 1 = 1 := by rw [IntKind.wrap_i64]; omega
  have z9 : (1 : Int) ≤ (n : Int) + 1 := by omega
  have z10 : Int.toNat 1 = 1 := rfl
  have z11 : (0 : Int) ≤ 1 := by omega
  have z12 : (0 : Int) ≤ (n : Int) + 1 := by omega
  have z13 : (n : Int) + 1 ≤ (cc : Int) := by omega
  have z14 : ((n : Int) + 1).toNat = n + 1 := by omega
  clear hroom hc63
  go_enter Try.func61, Try.ntmps61
  go_wp2_with (simp only [hov])
  go_region_law_o (refine step_copy_runI rfl _ _ 22 22 rfl (.slice (some ⟨b, off + 13, none⟩) n (cc - 1)) (.slice (some ⟨b, off, none⟩) (n + 1) cc) (by simp [Act.eval, Act.put]) (by simp [Act.eval, Act.put]) (hB _) ?_)
  go_wp2_with (at_builtin; refine wpList_copy_runI _ rfl _ _ 22 22 rfl _ _ rfl rfl (hC _) ?_)
  go_ret
  exact ⟨rfl, rfl⟩
end Go.Vx.Seat
end
/- strings.Contains, by the shelf. -/
section
namespace Go.Proofs
open Go.Shelf
def Try.lays144_ren : Go.Shelf.Ren := ⟨fun | 144 => 35 | 143 => 59 | 219 => 86 | 217 => 105 | 225 => 106 | 224 => 107 | 267 => 108 | 266 => 118 | 314 => 119 | n => n, fun | 9 => 9 | 4 => 4 | 3 => 3 | 5 => 5 | 46 => 42 | 146 => 117 | 51 => 116 | n => n, fun | 1 => 0 | n => n⟩
theorem Try.lays144 : Lays.n144 Try.prog Try.lays144_ren where
  mixed := by kernel_rfl
  f143 := Try.func59.trans (congrArg some (by kernel_rfl))
  f144 := Try.func35.trans (congrArg some (by kernel_rfl))
  f217 := Try.func105.trans (congrArg some (by kernel_rfl))
  f219 := Try.func86.trans (congrArg some (by kernel_rfl))
  f224 := Try.func107.trans (congrArg some (by kernel_rfl))
  f225 := Try.func106.trans (congrArg some (by kernel_rfl))
  f266 := Try.func118.trans (congrArg some (by kernel_rfl))
  f267 := Try.func108.trans (congrArg some (by kernel_rfl))
  f314 := Try.func119.trans (congrArg some (by kernel_rfl))
  t3 := Try.underlying3
  a3 := Try.isAgg3
  z3 := Try.sizeOf3
  v3 := Try.zeroValue3
  t4 := Try.underlying4
  a4 := Try.isAgg4
  z4 := Try.sizeOf4
  v4 := Try.zeroValue4
  t5 := Try.underlying5
  a5 := Try.isAgg5
  z5 := Try.sizeOf5
  v5 := Try.zeroValue5
  t9 := Try.underlying9
  a9 := Try.isAgg9
  z9 := Try.sizeOf9
  v9 := Try.zeroValue9
  t46 := Try.underlying42
  a46 := Try.isAgg42
  z46 := Try.sizeOf42
  v46 := Try.zeroValue42
  t51 := Try.underlying116
  a51 := Try.isAgg116
  z51 := Try.sizeOf116
  v51 := Try.zeroValue116
  t146 := Try.underlying117
  a146 := Try.isAgg117
  z146 := Try.sizeOf117
  v146 := Try.zeroValue117
  g1 := by kernel_rfl
open Go.RowKit Go.Lib in
theorem Try.strings_Contains (s sub : ByteArray) (m : Int) (w : World) (hs : s.size < 4294967281) (hm : w.cell? ⟨0, 0, none⟩ = some (.int .i64 m)) :
    Calls Try.prog 35 #[.string s, .string sub] w fun e w' => e = .returned (.bool (Lib.contains s.data.toList sub.data.toList)) ∧ w' = w := Any.strings_Contains Try.lays144 s sub m w hs hm
end Go.Proofs
end
/- slices.Insert of one token at the beginning, and strings.Contains, told to the interpreter. -/
section
open Go Go.Vx Go.Proofs Go.RowKit
set_option linter.unusedVariables false
set_option linter.unusedSimpArgs false
namespace Go.Vx.Seat
theorem run_copy {P : Program} {t t' ty e : TypeId} {i : TypeInfo} (ht : P.underlying t = some (.slice e)) (hi : P.info? e = some i) {g o dLen dCap m k : Nat} {x : Value} {cs : List Value} {w w1 : World} (hk : k = Nat.min m dLen)
    (hlen : (Builtin.lenOf x).run P w = .ok m w) (hf : (Builtin.firstCells i.size k x).run P w = .ok cs.toArray w) (hst : (storeCells ⟨g, o, none⟩ cs).run P w = .ok () w1) :
    (Builtin.copy_ #[t, t'] ty #[.slice (some ⟨g, o, none⟩) dLen dCap, x]).run P w = .ok (goInt k) w1 := by
  simp [Builtin.copy_, run_underlying ht, hlen, sizeOf, typeInfo, hi, ← hk, hf, hst]
theorem args3 {φ : Phi} {a b c : Value} {args' : Array Value} (ha : All2 (VR φ) [a, b, c] args'.toList) : ∃ x y z, args' = #[x, y, z] ∧ VR φ a x ∧ VR φ b y ∧ VR φ c z := by
  obtain ⟨l⟩ := args'
  match l, ha with
  | [x, y, z], ha =>
    obtain ⟨u0, e0, r0⟩ := ha.2 0 a rfl
    obtain ⟨u1, e1, r1⟩ := ha.2 1 b rfl
    obtain ⟨u2, e2, r2⟩ := ha.2 2 c rfl
    cases e0; cases e1; cases e2
    exact ⟨_, _, _, rfl, r0, r1, r2⟩
  | [], ha => have := ha.1; simp at this
  | [_], ha => have := ha.1; simp at this
  | [_, _], ha => have := ha.1; simp at this
  | _ :: _ :: _ :: _ :: _, ha => have := ha.1; simp at this
theorem args2 {φ : Phi} {a b : Value} {args' : Array Value} (ha : All2 (VR φ) [a, b] args'.toList) : ∃ x y, args' = #[x, y] ∧ VR φ a x ∧ VR φ b y := by
  obtain ⟨l⟩ := args'
  match l, ha with
  | [x, y], ha =>
    obtain ⟨u0, e0, r0⟩ := ha.2 0 a rfl
    obtain ⟨u1, e1, r1⟩ := ha.2 1 b rfl
    cases e0; cases e1
    exact ⟨_, _, rfl, r0, r1⟩
  | [], ha => have := ha.1; simp at this
  | [_], ha => have := ha.1; simp at this
  | _ :: _ :: _ :: _, ha => have := ha.1; simp at this

def contG (_ : Nat) (args : List Value) (h : H) : Option (Value × H) :=
  match args with
  | [.string s, .string t] => if s.size < 4294967281 then some (.bool (Lib.contains s.data.toList t.data.toList), h) else none
  | _ => none
theorem enter35 (args : Array Value) (w : World) : (callFunc 35 args).run Try.prog w = .ok (.enter 35 args) w := enters_of Try.func35 (by kernel_rfl) rfl args w
theorem enter61 (args : Array Value) (w : World) : (callFunc 61 args).run Try.prog w = .ok (.enter 61 args) w := enters_of Try.func61 (by kernel_rfl) rfl args w
theorem cont_ok (base : Nat) : CallOK C0 base fun lo f args h => if f = 35 then contG lo args h else none := by
  intro lo f args h v h' hx φ w args' hh hb ha hn
  simp only at hx
  split at hx
  · rename_i e; subst e
    unfold contG at hx
    split at hx
    · rename_i s t
      split at hx
      · rename_i hs
        cases hx
        obtain ⟨x, y, rfl, rx, ry⟩ := args2 ha
        cases rx.of_dryV (by rfl)
        cases ry.of_dryV (by rfl)
        obtain ⟨_, m, hm⟩ := hb.low
        refine .inl ⟨enter35 _ _, Calls.mono (Try.strings_Contains s t m w hs hm) fun e w' ⟨he, hw⟩ => ?_⟩
        subst hw
        exact ⟨_, he, φ, VR_dry rfl, Step.refl hh⟩
      · cases hx
    · cases hx
  · cases hx
noncomputable def insG (lo : Nat) (args : List Value) (h : H) : Option (Value × H) :=
  match args with
  | [.slice none 0 0, .int .i64 i, .slice (some ax) 1 sx] => if i = 0 then xappend Try.prog lo 22 22 (.slice none 0 0) (.slice (some ax) 1 sx) h else none
  | [.slice (some a) n s, .int .i64 i, .slice (some ax) 1 sx] =>
    match h.getK a.block, h.getK ax.block with
    | some b, some bx =>
      if i = 0 ∧ 0 < n ∧ n ≤ 1000000 ∧ s = 13 ∧ sx = 13 ∧ b.own = true ∧ lo ≤ a.block ∧ bx.own = true ∧ ax.block ≠ a.block ∧ a.off + n * 13 ≤ b.cells.length ∧ ax.off + 13 ≤ bx.cells.length then
        some (.slice (some ⟨h.n, 0, none⟩) (n + 1) 13, (h.put a.block none).push ⟨true, (bx.cells.drop ax.off).take 13 ++ (b.cells.drop a.off).take (n * 13)⟩)
      else none
    | _, _ => none
  | _ => none
def ztv : Value := .agg #[.int .i64 0, .string ⟨#[]⟩, .string ⟨#[]⟩, .bool false, .string ⟨#[]⟩, .string ⟨#[]⟩, .bool false, .bool false, .int .i64 0, .int .i64 0, .int .i64 0, .int .i64 0, .int .i64 0]
theorem ztv_size : ztv.cells.size = 13 := by simp [ztv, Value.cells]
theorem ztI : tyZero Try.prog 38 = some ztv := by kernel_rfl
theorem ins_ok (base : Nat) : CallOK C0 base fun lo f args h => if f = 61 then insG lo args h else none := by
  intro lo f args h v h' hx φ w args' hh hb ha hn
  simp only at hx
  split at hx
  · rename_i e; subst e
    unfold insG at hx
    split at hx
    · rename_i i ax sx
      split at hx
      · rename_i hi0; subst hi0
        obtain ⟨s', i', x', rfl, rs, ri, rx⟩ := args3 ha
        cases ri.of_dryV (by rfl)
        obtain ⟨v', w', φ', hr, hv, st⟩ := run_xappend (ty := 0) hh hb.le hx rs rx hn
        obtain ⟨rfl, _⟩ := rs.slc_nil
        obtain ⟨l, ca, cc, hφ, rfl, h1, h2, h3, h4⟩ := rx.slc
        obtain rfl := h4.resolve_right (by omega)
        refine .inl ⟨enter61 _ _, Calls.mono (ins_nil _ _ _ w (v' := v') (w1 := w') fun ty => hr) fun e w1 ⟨he, hw⟩ => ?_⟩
        subst hw
        exact ⟨_, he, φ', hv, st⟩
      · cases hx
    · rename_i a n s i ax sx
      simp only [H.getK_eq] at hx
      split at hx
      · rename_i b bx hg hgx
        split at hx
        · rename_i hc
          obtain ⟨hi0, hn0, hnb, hs, hsx, hown, hlo, hownx, hne, hfit, hfitx⟩ := hc
          subst hi0; subst hs; subst hsx
          cases hx
          obtain ⟨s', i', x', rfl, rs, ri, rx⟩ := args3 ha
          cases ri.of_dryV (by rfl)
          obtain ⟨l, ca, cc, hφ, rfl, h1, h2, h3, h4, _, hmk⟩ := rs.slcB
          obtain rfl := h4.resolve_right (by omega)
          obtain ⟨lx, cx, vc, hφx, rfl, k1, k2, k3, k4, _, hmkx⟩ := rx.slcB
          obtain rfl := k4.resolve_right (by omega)
          have hnn := hn h.n (Nat.le_refl _) (by simp)
          have hbr := hh.live _ _ _ hφ hg
          have hbx := hh.live _ _ _ hφx hgx
          have hsep : lx.blk ≠ l.blk := hh.sep _ _ _ _ _ _ hne hφx hφ hgx hg hownx
          obtain ⟨olds, holds, hocell⟩ := hbr.cells
          obtain ⟨nws, hnws, hncell⟩ := hbx.cells
          obtain ⟨it, hit, hiz⟩ := tyZero_some ztI
          have his : it.size = 13 := by have : tySz Try.prog 38 = 13 := by kernel_rfl
                                        rw [← this]; simp [tySz, hit]
          have hib : it.bytes = 128 := by have : tyBytes Try.prog 38 = 128 := by kernel_rfl
                                          rw [← this]; simp [tyBytes, hit]
          have hzs : (clist ztv).length = 13 := rfl
          have hu22 : Try.prog.underlying 22 = some (.slice 38) := Try.underlying22
          have hOl : ((olds.drop a.off).take (n * 13)).length = n * 13 := by simp [← holds.1]; omega
          have hNl : ((nws.drop ax.off).take 13).length = 13 := by simp [← hnws.1]; omega
          have hO := (holds.drop a.off).take (n * 13)
          have hN := (hnws.drop ax.off).take 13
          have hall := hN.append hO
          have one : ∀ {xs ys : List Value}, All2 (CR φ) xs ys → ∀ u ∈ ys, u.oneCell' = true := fun {xs ys} hxy u hu => by
            obtain ⟨j, hj⟩ := List.getElem?_of_mem hu
            have hj2 : j < xs.length := by rw [hxy.1]; apply Classical.byContradiction; intro hc; rw [List.getElem?_eq_none (by omega)] at hj; cases hj
            obtain ⟨u', hu', hcr⟩ := hxy.2 j _ (List.getElem?_eq_getElem hj2)
            rw [hj] at hu'; cases hu'; exact hcr.oneCell
          have fO : ∀ (w' : World), w'.heap[l.blk]? = w.heap[l.blk]? → ∀ m c, n ≤ m → (Builtin.firstCells it.size n (.slice (some ⟨l.blk, l.off + a.off, none⟩) m c)).run Try.prog w' = .ok ((olds.drop a.off).take (n * 13)).toArray w' := fun w' hw' m c hm => by
            refine run_firstCells_some w' it.size n _ m c _ (by rw [hOl, his]) fun j v hv => ?_
            rw [Addr.add_lit]
            rw [List.getElem?_take] at hv
            split at hv
            · rw [List.getElem?_drop] at hv
              have := hocell _ _ hv
              rw [show l.off + a.off + j = l.off + (a.off + j) by omega]
              simpa [World.cell?, hw'] using this
            · cases hv
          have fN : ∀ (w' : World), w'.heap[lx.blk]? = w.heap[lx.blk]? → (Builtin.firstCells it.size 1 (.slice (some ⟨lx.blk, lx.off + ax.off, none⟩) 1 vc)).run Try.prog w' = .ok ((nws.drop ax.off).take 13).toArray w' := fun w' hw' => by
            refine run_firstCells_some w' it.size 1 _ 1 vc _ (by rw [hNl, his]) fun j v hv => ?_
            rw [Addr.add_lit]
            rw [List.getElem?_take] at hv
            split at hv
            · rw [List.getElem?_drop] at hv
              have := hncell _ _ hv
              rw [show lx.off + ax.off + j = lx.off + (ax.off + j) by omega]
              simpa [World.cell?, hw'] using this
            · cases hv
          by_cases hroom : n + 1 ≤ cc
          · -- in place
            obtain ⟨c, el, fr, g1, g2, g3, g4, g5⟩ := hbr
            obtain ⟨cX, elX, frX, x1, x2, x3, x4, x5⟩ := hbx
            have hfr : ∀ j, j < l.room → ¬ (fr.1 ≤ l.off + j ∧ l.off + j < fr.2) := fun j hj => by rcases g5 hown with h | ⟨_, h⟩ <;> omega
            have hfrX : frX.1 = frX.2 := by
              rcases x5 hownx with h | ⟨h, _⟩
              · exact h
              · rw [hmkx (by decide)] at h; cases h
            have e1 : (n + 1) * 13 ≤ cc * 13 := Nat.mul_le_mul_right _ hroom
            obtain ⟨w1, hst1, on1, c1, hc1, hs1, hp1⟩ := run_storeCells_blk (P := Try.prog) l.blk (l.off + a.off + 13) ((olds.drop a.off).take (n * 13)) 0 w.drew c el fr g1 (by rw [hOl]; omega)
              (fun j hj => by rw [hOl] at hj; have := hfr (a.off + 13 + j) (by omega); rw [show l.off + (a.off + 13 + j) = l.off + a.off + 13 + 0 + j by omega] at this; exact this) (one hO)
            obtain ⟨w2, hst2, on2, c2, hc2, hs2, hp2⟩ := run_storeCells_blk (P := Try.prog) l.blk (l.off + a.off) ((nws.drop ax.off).take 13) 0 w1 c1 el fr hc1 (by rw [hNl]; omega)
              (fun j hj => by rw [hNl] at hj; have := hfr (a.off + j) (by omega); rw [show l.off + (a.off + j) = l.off + a.off + 0 + j by omega] at this; exact this) (one hN)
            have hov : ∀ lb cb, (callFunc 87 #[.slice (some ⟨lx.blk, lx.off + ax.off, none⟩) 1 vc, .slice (some ⟨l.blk, l.off + a.off + 13, none⟩) lb cb]).run Try.prog w = .ok (.value (.bool false)) w := fun lb cb => by
              rw [run_callFunc_extern Try.func87 (by kernel_rfl) (by kernel_rfl) (by kernel_rfl) (e := Extern.SlicesOverlaps.overlaps #[22, 22] #[4]) (by kernel_rfl),
                Lib.run_overlaps_apart w 22 4 38 hu22 13 (fun w => by simp [sizeOf, typeInfo, hit, his]) ⟨lx.blk, lx.off + ax.off, none⟩ ⟨l.blk, l.off + a.off + 13, none⟩ 1 vc lb cb hsep elX el cX.size c.size (by simp [World.shape?, x1]) (by simp [World.shape?, g1]) (by omega)
                  (by simp [World.frozen?, x1]; omega) (by simp [World.frozen?, x1]; omega)]
              rfl
            refine .inl ⟨enter61 _ _, Calls.mono (ins_shift l.blk (l.off + a.off) n cc lx.blk (lx.off + ax.off) vc w w1 w2 (goInt n) (goInt 1) hn0 hroom (by unfold maxLen at h2; omega) hov
              (fun ty => run_copy hu22 hit (k := n) (m := n + 1) (show n = min (n + 1) n by omega) (by simp [Builtin.lenOf]) (fO w.drew rfl _ _ (by omega)) hst1)
              (fun ty => run_copy hu22 hit (k := 1) (m := 1) (show 1 = min 1 (n + 1) by omega) (by simp [Builtin.lenOf]) (fN w1 (on1.rest _ hsep)) hst2)) fun e w' ⟨he, hw⟩ => ?_⟩
            subst hw
            refine ⟨_, he, upd φ h.n ⟨l.blk, l.off + a.off, l.room - a.off, l.mark⟩, ?_, ?_⟩
            · exact ⟨_, _, _, upd_self _ _ _, rfl, hroom, h2, by show 0 + cc * 13 ≤ l.room - a.off; omega, .inl rfl, fun _ => rfl, hmk⟩
            · refine Step.over hh hnn hφ hg hown hlo rfl (on2.size.trans on1.size) (on2.os.trans on1.os) (on2.tape.trans on1.tape) (on2.out.trans on1.out) (fun k hk => (on2.rest k hk).trans (on1.rest k hk)) ?_
              refine ⟨c2, el, fr, hc2, by show l.off + a.off + (l.room - a.off) ≤ c2.size; omega, ?_, ?_, ?_⟩
              · show ((bx.cells.drop ax.off).take 13 ++ (b.cells.drop a.off).take (n * 13)).length ≤ l.room - a.off
                rw [hall.1, List.length_append, hOl, hNl]; omega
              · intro j v hv
                have hv' : ((bx.cells.drop ax.off).take 13 ++ (b.cells.drop a.off).take (n * 13))[j]? = some v := hv
                obtain ⟨u, hu, hcr⟩ := hall.2 j v hv'
                have hj : j < 13 + n * 13 := by
                  apply Classical.byContradiction
                  intro hc
                  rw [List.getElem?_eq_none (by rw [List.length_append, hOl, hNl]; omega)] at hu
                  cases hu
                show ∃ u, c2[l.off + a.off + j]? = some u ∧ CR φ v u
                refine ⟨u, ?_, hcr⟩
                rw [hp2, hNl]
                rw [List.getElem?_append, hNl] at hu
                by_cases hj2 : j < 13
                · rw [if_pos hj2] at hu
                  rw [if_pos (by omega), show l.off + a.off + j - (l.off + a.off + 0) = j by omega]; exact hu
                · rw [if_neg hj2] at hu
                  rw [if_neg (by omega), hp1, hOl, if_pos (by omega), show l.off + a.off + j - (l.off + a.off + 13 + 0) = j - 13 by omega]; exact hu
              · intro _; rw [hs2, hs1]; exact g5 hown
          · -- a new row
            obtain ⟨G, hG⟩ : ∃ G, G = grownCap w (n + 1) cc 38 := ⟨_, rfl⟩
            have hge : n + 1 ≤ G := by rw [hG]; exact grownCap_ge w (n + 1) cc 38
            have hle : G ≤ maxLen := by rw [hG]; exact grownCap_le_maxLen w (n + 1) cc 38 (by unfold maxLen; omega)
            have h0 : (Builtin.firstCells it.size 0 (.slice (some ⟨l.blk, l.off + a.off, none⟩) 0 cc)).run Try.prog w.drew = .ok ([] : List Value).toArray w.drew := by simp [Builtin.firstCells, loadCells, loadCellsFrom]
            have hA := fun ty => Lib.run_append_grow_zeros (P := Try.prog) w 22 3 ty 38 it ztv .i64 .i64 hu22 Try.underlying3 hit hiz (some ⟨l.blk, l.off + a.off, none⟩) 0 cc [] h0 (n + 1) (by omega) (by omega) (by omega) (by omega) (by rw [hib]; omega) (by rw [hib, Nat.zero_add]; exact growslice_fits (by omega) (by omega))
            rw [Nat.zero_add, ← hG] at hA
            obtain ⟨ROW, hROW⟩ : ∃ ROW : Array Value, ROW = ([] : List Value).toArray ++ Builtin.zeroCells ztv.cells (n + 1) ++ Builtin.zeroCells ztv.cells (G - (n + 1)) := ⟨_, rfl⟩
            have hRs : ROW.size = G * 13 := by
              rw [hROW]
              simp only [Array.size_append, size_zeroCells, List.size_toArray, List.length_nil]
              rw [ztv_size, Nat.zero_add, ← Nat.add_mul, show n + 1 + (G - (n + 1)) = G by omega]
            rw [← hROW] at hA
            have e2 : (n + 1) * 13 ≤ G * 13 := Nat.mul_le_mul_right _ hge
            have hbw : l.blk < w.heap.size := hh.bound _ _ hφ
            have hbx' : lx.blk < w.heap.size := hh.bound _ _ hφx
            have g1 : (w.drew.alloc (.cells ROW 38)).heap[w.heap.size]? = some (.cells ROW 38 (0, 0)) := by rw [show (w.drew.alloc (.cells ROW 38)).heap = w.heap.push (.cells ROW 38) from rfl]; simp
            have gold : ∀ k, k < w.heap.size → (w.drew.alloc (.cells ROW 38)).heap[k]? = w.heap[k]? := fun k hk => Below.heap_alloc w.drew _ k hk
            obtain ⟨w2, hst2, on2, c2, hc2, hs2, hp2⟩ := run_storeCells_blk (P := Try.prog) w.heap.size 0 ((nws.drop ax.off).take 13) 0 (w.drew.alloc (.cells ROW 38)) ROW 38 (0, 0) g1 (by rw [hNl]; omega) (fun j hj => by simp) (one hN)
            obtain ⟨w3, hst3, on3, c3, hc3, hs3, hp3⟩ := run_storeCells_blk (P := Try.prog) w.heap.size 13 ((olds.drop a.off).take (n * 13)) 0 w2.drew c2 38 (0, 0) hc2 (by rw [hOl, hs2]; omega) (fun j hj => by simp) (one hO)
            refine .inl ⟨enter61 _ _, Calls.mono (ins_grow l.blk (l.off + a.off) n cc lx.blk (lx.off + ax.off) vc w.heap.size G w (w.drew.alloc (.cells ROW 38)) w2 w3 (goInt 1) (goInt n) hn0 h1 (by omega) (by omega) hge (by unfold maxLen at hle; omega)
              (fun ty => by have := hA ty; rw [show ((n + 1 : Nat) : Int) = (n : Int) + 1 by omega] at this; exact this)
              (fun ty => run_copy hu22 hit (k := 1) (m := 1) (show 1 = min 1 (n + 1) by omega) (by simp [Builtin.lenOf]) (fN _ (gold _ hbx')) hst2)
              (fun ty => run_copy hu22 hit (k := n) (m := n) (show n = min n n by omega) (by simp [Builtin.lenOf]) (fO w2.drew ((on2.rest _ (by omega)).trans (gold _ hbw)) _ _ (by omega)) hst3)) fun e w' ⟨he, hw⟩ => ?_⟩
            subst hw
            have hcs : c3.size = G * 13 := by rw [hs3, hs2, hRs]
            refine ⟨_, he, upd φ h.n ⟨w.heap.size, 0, c3.size, false⟩, VR.new_slc hge hle (by rw [hcs]; exact Nat.le_refl _), ?_⟩
            have hk := Step.kill (lo := lo) hh (H.get_lt hg)
            have hheap : w'.heap = w.heap.push (.cells c3 38 (0, 0)) := by
              apply Array.ext_getElem?
              intro k
              rw [Array.getElem?_push]
              by_cases hk1 : k = w.heap.size
              · rw [if_pos hk1, hk1]; exact hc3
              · rw [if_neg hk1, on3.rest k hk1]
                show w2.heap[k]? = _
                rw [on2.rest k hk1]
                by_cases hk2 : k < w.heap.size
                · exact gold k hk2
                · have hsz : (w.drew.alloc (.cells ROW 38)).heap.size = w.heap.size + 1 := by rw [show (w.drew.alloc (.cells ROW 38)).heap = w.heap.push (.cells ROW 38) from rfl]; simp
                  rw [Array.getElem?_eq_none (xs := (w.drew.alloc (.cells ROW 38)).heap) (by rw [hsz]; omega), Array.getElem?_eq_none (by omega)]
            have hst := Step.new (lo := lo) (h := h.put a.block none) (mk := false) (xs := (bx.cells.drop ax.off).take 13 ++ (b.cells.drop a.off).take (n * 13)) hk.heap hb.le hnn hheap (on3.os.trans on2.os) (on3.tape.trans on2.tape) (on3.out.trans on2.out)
              (fun j v hv => by
                obtain ⟨u, hu, hcr⟩ := hall.2 j v hv
                have hj : j < 13 + n * 13 := by
                  apply Classical.byContradiction
                  intro hc
                  rw [List.getElem?_eq_none (by rw [List.length_append, hOl, hNl]; omega)] at hu
                  cases hu
                refine ⟨u, ?_, hcr⟩
                rw [hp3, hOl]
                rw [List.getElem?_append, hNl] at hu
                by_cases hj2 : j < 13
                · rw [if_pos hj2] at hu
                  rw [if_neg (by omega), hp2, hNl, if_pos (by omega)]; simpa using hu
                · rw [if_neg hj2] at hu
                  rw [if_pos (by omega), show j - (13 + 0) = j - 13 by omega]; exact hu)
              (by rw [hall.1, List.length_append, hOl, hNl, hcs]; omega) (.inl rfl)
            exact hk.trans hst (fun j hj1 hj2 => hn j hj1 (by simpa using hj2))
        · cases hx
      · cases hx
    · cases hx
  · cases hx
end Go.Vx.Seat
end
/- The law's example is alive: the kernel runs it. What is told besides: slices.Insert, strings.Contains. -/
section
namespace Go.Vx.Seat
open Go.Proofs
def isTrue : Option (Value × H) → Bool | some (.bool true, _) => true | _ => false
theorem isTrue_some {r : Option (Value × H)} (h : isTrue r = true) : ∃ h', r = some (.bool true, h') := by
  unfold isTrue at h
  split at h
  · exact ⟨_, rfl⟩
  · cases h
theorem alive0 : isTrue (xfun C0 3000 0 8 [] ⟨0, []⟩) = true := by kernel_rfl
theorem cont_keep {lo : Nat} {args : List Value} {h h' : H} {v : Value} (hx : contG lo args h = some (v, h')) : Keep lo h h' := by
  unfold contG at hx
  split at hx
  · split at hx
    · cases hx; exact Keep.refl _ _
    · cases hx
  · cases hx
theorem ins_keep {lo : Nat} {args : List Value} {h h' : H} {v : Value} (hx : insG lo args h = some (v, h')) : Keep lo h h' := by
  unfold insG at hx
  split at hx
  · split at hx
    · obtain ⟨h1, h2, h3⟩ := xappend_keep hx
      exact ⟨h1, fun i h4 h5 => h2 i h4 (fun a n c e => by cases e), h3⟩
    · cases hx
  · rename_i a n s i ax sx
    simp only [H.getK_eq] at hx
    split at hx
    · rename_i b bx hg hgx
      split at hx
      · rename_i hc
        cases hx
        refine ⟨by simp, fun i hi hlo => ?_, fun i hi b' hb' => ?_⟩
        · rw [H.get_push_ne _ _ (by simp; omega), H.get_put_ne _ (H.get_lt hg)]
          intro e
          have := hc.2.2.2.2.2.2.1
          omega
        · rw [H.get_push_ne _ _ (by simp; omega)] at hb'
          by_cases e : i = a.block
          · subst e; rw [H.get_put_self _ hg] at hb'; cases hb'
          · rw [H.get_put_ne _ (H.get_lt hg) e] at hb'; exact ⟨b', hb', rfl⟩
      · cases hx
    · cases hx
  · cases hx
noncomputable def C1 : Cx := ((C0.tell 8 (tell0 (.bool true))).tell 35 contG).tell 61 insG
theorem good1 : Good C1 := by
  obtain ⟨h', h⟩ := isTrue_some alive0
  have g8 : Good (C0.tell 8 (tell0 (.bool true))) := good_tell0 good0 h rfl
  have g35 : Good ((C0.tell 8 (tell0 (.bool true))).tell 35 contG) := good_tell g8 (fun lo args h v h' hx => cont_keep hx) fun base => (cont_ok base).tell
  exact good_tell g35 (fun lo args h v h' hx => ins_keep hx) fun base => ((ins_ok base).tell).tell
end Go.Vx.Seat
end
/- Facts about the types of the program. (printed by gen_ty.py) -/
section
open Go Go.Vx Go.Proofs
namespace Go.Vx.Seat
theorem tyA0 : tySz Try.prog 2 = 1 ∧
  tyBytes Try.prog 2 = 8 ∧
  tyAgg Try.prog 2 = some false ∧
  tyIntOrNone Try.prog 2 = true ∧
  tyIsStr Try.prog 2 = false ∧
  tyInt Try.prog 2 = some .i64 ∧
  tySz Try.prog 3 = 1 ∧
  tyBytes Try.prog 3 = 8 ∧
  tyAgg Try.prog 3 = some false ∧
  tyIntOrNone Try.prog 3 = true ∧
  tyIsStr Try.prog 3 = false ∧
  tyInt Try.prog 3 = some .i64 ∧
  tySz Try.prog 4 = 1 ∧
  tyBytes Try.prog 4 = 1 ∧
  tyAgg Try.prog 4 = some false ∧
  tyIntOrNone Try.prog 4 = false ∧
  tyIsStr Try.prog 4 = false ∧
  tySz Try.prog 5 = 1 ∧
  tyBytes Try.prog 5 = 1 ∧
  tyAgg Try.prog 5 = some false ∧
  tyIntOrNone Try.prog 5 = true ∧
  tyIsStr Try.prog 5 = false ∧
  tyInt Try.prog 5 = some .u8 ∧
  tySz Try.prog 9 = 1 ∧
  tyBytes Try.prog 9 = 16 ∧
  tyAgg Try.prog 9 = some false ∧
  tyIntOrNone Try.prog 9 = false ∧
  tyIsStr Try.prog 9 = true ∧
  tySz Try.prog 21 = 1 ∧
  tyBytes Try.prog 21 = 4 ∧
  tyAgg Try.prog 21 = some false ∧
  tyIntOrNone Try.prog 21 = true ∧
  tyIsStr Try.prog 21 = false ∧
  tyInt Try.prog 21 = some .i32 ∧
  tySz Try.prog 22 = 1 ∧
  tyBytes Try.prog 22 = 24 ∧
  tyAgg Try.prog 22 = some false ∧
  tyIntOrNone Try.prog 22 = false ∧
  tyIsStr Try.prog 22 = false ∧
  tyElem Try.prog 22 = some 38 ∧
  tySz Try.prog 25 = 1 ∧
  tyBytes Try.prog 25 = 24 ∧
  tyAgg Try.prog 25 = some false ∧
  tyIntOrNone Try.prog 25 = false ∧
  tyIsStr Try.prog 25 = false ∧
  tyElem Try.prog 25 = some 3 ∧
  tySz Try.prog 31 = 1 ∧
  tyBytes Try.prog 31 = 24 ∧
  tyAgg Try.prog 31 = some false ∧
  tyIntOrNone Try.prog 31 = false ∧
  tyIsStr Try.prog 31 = false ∧
  tyElem Try.prog 31 = some 5 ∧
  tySz Try.prog 34 = 3 ∧
  tyBytes Try.prog 34 = 40 ∧
  tyAgg Try.prog 34 = some true ∧
  tyIntOrNone Try.prog 34 = false ∧
  tyIsStr Try.prog 34 = false ∧
  tySz Try.prog 35 = 3 ∧
  tyBytes Try.prog 35 = 40 ∧
  tyAgg Try.prog 35 = some true :=
  ⟨by kernel_rfl, by kernel_rfl, by kernel_rfl, by kernel_rfl, by kernel_rfl, by kernel_rfl, by kernel_rfl, by kernel_rfl, by kernel_rfl, by kernel_rfl, by kernel_rfl, by kernel_rfl, by kernel_rfl, by kernel_rfl, by kernel_rfl, by kernel_rfl, by kernel_rfl, by kernel_rfl, by kernel_rfl, by kernel_rfl, by kernel_rfl, by kernel_rfl, by kernel_rfl, by kernel_rfl, by kernel_rfl, by kernel_rfl, by kernel_rfl, by kernel_rfl, by kernel_rfl, by kernel_rfl, by kernel_rfl, by kernel_rfl, by kernel_rfl, by kernel_rfl, by kernel_rfl, by kernel_rfl, by kernel_rfl, by kernel_rfl, by kernel_rfl, by kernel_rfl, by kernel_rfl, by kernel_rfl, by kernel_rfl, by kernel_rfl, by kernel_rfl, by kernel_rfl, by kernel_rfl, by kernel_rfl, by kernel_rfl, by kernel_rfl, by kernel_rfl, by kernel_rfl, by kernel_rfl, by kernel_rfl, by kernel_rfl, by kernel_rfl, by kernel_rfl, by kernel_rfl, by kernel_rfl, by kernel_rfl⟩
theorem tyA1 : tyIntOrNone Try.prog 35 = false ∧
  tyIsStr Try.prog 35 = false ∧
  tySz Try.prog 36 = 4 ∧
  tyBytes Try.prog 36 = 32 ∧
  tyAgg Try.prog 36 = some true ∧
  tyIntOrNone Try.prog 36 = false ∧
  tyIsStr Try.prog 36 = false ∧
  tySz Try.prog 37 = 13 ∧
  tyBytes Try.prog 37 = 128 ∧
  tyAgg Try.prog 37 = some true ∧
  tyIntOrNone Try.prog 37 = false ∧
  tyIsStr Try.prog 37 = false ∧
  tySz Try.prog 38 = 13 ∧
  tyBytes Try.prog 38 = 128 ∧
  tyAgg Try.prog 38 = some true ∧
  tyIntOrNone Try.prog 38 = false ∧
  tyIsStr Try.prog 38 = false ∧
  tySz Try.prog 41 = 1 ∧
  tyBytes Try.prog 41 = 24 ∧
  tyAgg Try.prog 41 = some false ∧
  tyIntOrNone Try.prog 41 = false ∧
  tyIsStr Try.prog 41 = false ∧
  tyElem Try.prog 41 = some 9 ∧
  tySz Try.prog 42 = 1 ∧
  tyBytes Try.prog 42 = 8 ∧
  tyAgg Try.prog 42 = some false ∧
  tyIntOrNone Try.prog 42 = true ∧
  tyIsStr Try.prog 42 = false ∧
  tyInt Try.prog 42 = some .u64 ∧
  tySz Try.prog 46 = 1 ∧
  tyBytes Try.prog 46 = 24 ∧
  tyAgg Try.prog 46 = some false ∧
  tyIntOrNone Try.prog 46 = false ∧
  tyIsStr Try.prog 46 = false ∧
  tyElem Try.prog 46 = some 74 ∧
  tySz Try.prog 49 = 1 ∧
  tyBytes Try.prog 49 = 24 ∧
  tyAgg Try.prog 49 = some false ∧
  tyIntOrNone Try.prog 49 = false ∧
  tyIsStr Try.prog 49 = false ∧
  tyElem Try.prog 49 = some 52 ∧
  tySz Try.prog 51 = 3 ∧
  tyBytes Try.prog 51 = 16 ∧
  tyAgg Try.prog 51 = some true ∧
  tyIntOrNone Try.prog 51 = false ∧
  tyIsStr Try.prog 51 = false ∧
  tySz Try.prog 52 = 3 ∧
  tyBytes Try.prog 52 = 16 ∧
  tyAgg Try.prog 52 = some true ∧
  tyIntOrNone Try.prog 52 = false ∧
  tyIsStr Try.prog 52 = false ∧
  tySz Try.prog 54 = 1 ∧
  tyBytes Try.prog 54 = 24 ∧
  tyAgg Try.prog 54 = some false ∧
  tyIntOrNone Try.prog 54 = false ∧
  tyIsStr Try.prog 54 = false ∧
  tyElem Try.prog 54 = some 25 ∧
  tySz Try.prog 61 = 1 ∧
  tyBytes Try.prog 61 = 8 ∧
  tyAgg Try.prog 61 = some false :=
  ⟨by kernel_rfl, by kernel_rfl, by kernel_rfl, by kernel_rfl, by kernel_rfl, by kernel_rfl, by kernel_rfl, by kernel_rfl, by kernel_rfl, by kernel_rfl, by kernel_rfl, by kernel_rfl, by kernel_rfl, by kernel_rfl, by kernel_rfl, by kernel_rfl, by kernel_rfl, by kernel_rfl, by kernel_rfl, by kernel_rfl, by kernel_rfl, by kernel_rfl, by kernel_rfl, by kernel_rfl, by kernel_rfl, by kernel_rfl, by kernel_rfl, by kernel_rfl, by kernel_rfl, by kernel_rfl, by kernel_rfl, by kernel_rfl, by kernel_rfl, by kernel_rfl, by kernel_rfl, by kernel_rfl, by kernel_rfl, by kernel_rfl, by kernel_rfl, by kernel_rfl, by kernel_rfl, by kernel_rfl, by kernel_rfl, by kernel_rfl, by kernel_rfl, by kernel_rfl, by kernel_rfl, by kernel_rfl, by kernel_rfl, by kernel_rfl, by kernel_rfl, by kernel_rfl, by kernel_rfl, by kernel_rfl, by kernel_rfl, by kernel_rfl, by kernel_rfl, by kernel_rfl, by kernel_rfl, by kernel_rfl⟩
theorem tyA2 : tyIntOrNone Try.prog 61 = false ∧
  tyIsStr Try.prog 61 = false ∧
  tySz Try.prog 62 = 3 ∧
  tyBytes Try.prog 62 = 72 ∧
  tyAgg Try.prog 62 = some true ∧
  tyIntOrNone Try.prog 62 = false ∧
  tyIsStr Try.prog 62 = false ∧
  tySz Try.prog 63 = 3 ∧
  tyBytes Try.prog 63 = 72 ∧
  tyAgg Try.prog 63 = some true ∧
  tyIntOrNone Try.prog 63 = false ∧
  tyIsStr Try.prog 63 = false ∧
  tySz Try.prog 73 = 2 ∧
  tyBytes Try.prog 73 = 16 ∧
  tyAgg Try.prog 73 = some true ∧
  tyIntOrNone Try.prog 73 = false ∧
  tyIsStr Try.prog 73 = false ∧
  tySz Try.prog 74 = 2 ∧
  tyBytes Try.prog 74 = 16 ∧
  tyAgg Try.prog 74 = some true ∧
  tyIntOrNone Try.prog 74 = false ∧
  tyIsStr Try.prog 74 = false ∧
  tySz Try.prog 116 = 1 ∧
  tyBytes Try.prog 116 = 4 ∧
  tyAgg Try.prog 116 = some false ∧
  tyIntOrNone Try.prog 116 = true ∧
  tyIsStr Try.prog 116 = false ∧
  tyInt Try.prog 116 = some .u32 ∧
  tySz Try.prog 130 = 1 ∧
  tyBytes Try.prog 130 = 8 ∧
  tyAgg Try.prog 130 = some false ∧
  tyIntOrNone Try.prog 130 = false ∧
  tyIsStr Try.prog 130 = false ∧
  tySz Try.prog 135 = 1 ∧
  tyBytes Try.prog 135 = 8 ∧
  tyAgg Try.prog 135 = some false ∧
  tyIntOrNone Try.prog 135 = false ∧
  tyIsStr Try.prog 135 = false :=
  ⟨by kernel_rfl, by kernel_rfl, by kernel_rfl, by kernel_rfl, by kernel_rfl, by kernel_rfl, by kernel_rfl, by kernel_rfl, by kernel_rfl, by kernel_rfl, by kernel_rfl, by kernel_rfl, by kernel_rfl, by kernel_rfl, by kernel_rfl, by kernel_rfl, by kernel_rfl, by kernel_rfl, by kernel_rfl, by kernel_rfl, by kernel_rfl, by kernel_rfl, by kernel_rfl, by kernel_rfl, by kernel_rfl, by kernel_rfl, by kernel_rfl, by kernel_rfl, by kernel_rfl, by kernel_rfl, by kernel_rfl, by kernel_rfl, by kernel_rfl, by kernel_rfl, by kernel_rfl, by kernel_rfl, by kernel_rfl, by kernel_rfl⟩
theorem tyU0 : Try.prog.underlying 2 = some (.int .i64) ∧
  Try.prog.underlying 3 = some (.int .i64) ∧
  Try.prog.underlying 4 = some (.bool) ∧
  Try.prog.underlying 5 = some (.int .u8) ∧
  Try.prog.underlying 9 = some (.string) ∧
  Try.prog.underlying 21 = some (.int .i32) ∧
  Try.prog.underlying 22 = some (.slice 38) ∧
  Try.prog.underlying 25 = some (.slice 3) ∧
  Try.prog.underlying 31 = some (.slice 5) ∧
  Try.prog.underlying 36 = some (.array 4 3) ∧
  Try.prog.underlying 41 = some (.slice 9) ∧
  Try.prog.underlying 42 = some (.int .u64) ∧
  Try.prog.underlying 46 = some (.slice 74) ∧
  Try.prog.underlying 49 = some (.slice 52) ∧
  Try.prog.underlying 54 = some (.slice 25) ∧
  Try.prog.underlying 61 = some (.pointer 63) ∧
  Try.prog.underlying 116 = some (.int .u32) ∧
  Try.prog.underlying 130 = some (.pointer 5) ∧
  Try.prog.underlying 135 = some (.unsafePointer) :=
  ⟨by kernel_rfl, by kernel_rfl, by kernel_rfl, by kernel_rfl, by kernel_rfl, by kernel_rfl, by kernel_rfl, by kernel_rfl, by kernel_rfl, by kernel_rfl, by kernel_rfl, by kernel_rfl, by kernel_rfl, by kernel_rfl, by kernel_rfl, by kernel_rfl, by kernel_rfl, by kernel_rfl, by kernel_rfl⟩
theorem tyF0 : tyField Try.prog 34 0 = some (0, 4) ∧
  tyField Try.prog 34 1 = some (1, 9) ∧
  tyField Try.prog 34 2 = some (2, 9) ∧
  tyFields Try.prog 34 = some [(0, 1), (1, 1), (2, 1)] ∧
  tyField Try.prog 35 0 = some (0, 4) ∧
  tyField Try.prog 35 1 = some (1, 9) ∧
  tyField Try.prog 35 2 = some (2, 9) ∧
  tyFields Try.prog 35 = some [(0, 1), (1, 1), (2, 1)] ∧
  tyArr Try.prog 36 = some (4, 3) ∧
  tyFields Try.prog 36 = none ∧
  tyField Try.prog 37 0 = some (0, 3) ∧
  tyField Try.prog 37 1 = some (1, 9) ∧
  tyField Try.prog 37 2 = some (2, 9) ∧
  tyField Try.prog 37 3 = some (3, 35) ∧
  tyField Try.prog 37 4 = some (6, 4) ∧
  tyField Try.prog 37 5 = some (7, 4) ∧
  tyField Try.prog 37 6 = some (8, 36) ∧
  tyField Try.prog 37 7 = some (12, 3) ∧
  tyFields Try.prog 37 = some [(0, 1), (1, 1), (2, 1), (3, 3), (6, 1), (7, 1), (8, 4), (12, 1)] ∧
  tyField Try.prog 38 0 = some (0, 3) ∧
  tyField Try.prog 38 1 = some (1, 9) ∧
  tyField Try.prog 38 2 = some (2, 9) ∧
  tyField Try.prog 38 3 = some (3, 35) ∧
  tyField Try.prog 38 4 = some (6, 4) ∧
  tyField Try.prog 38 5 = some (7, 4) ∧
  tyField Try.prog 38 6 = some (8, 36) ∧
  tyField Try.prog 38 7 = some (12, 3) ∧
  tyFields Try.prog 38 = some [(0, 1), (1, 1), (2, 1), (3, 3), (6, 1), (7, 1), (8, 4), (12, 1)] ∧
  tyField Try.prog 51 0 = some (0, 3) ∧
  tyField Try.prog 51 1 = some (1, 4) ∧
  tyField Try.prog 51 2 = some (2, 4) ∧
  tyFields Try.prog 51 = some [(0, 1), (1, 1), (2, 1)] ∧
  tyField Try.prog 52 0 = some (0, 3) ∧
  tyField Try.prog 52 1 = some (1, 4) ∧
  tyField Try.prog 52 2 = some (2, 4) ∧
  tyFields Try.prog 52 = some [(0, 1), (1, 1), (2, 1)] ∧
  tyField Try.prog 62 0 = some (0, 22) ∧
  tyField Try.prog 62 1 = some (1, 25) ∧
  tyField Try.prog 62 2 = some (2, 22) ∧
  tyFields Try.prog 62 = some [(0, 1), (1, 1), (2, 1)] ∧
  tyField Try.prog 63 0 = some (0, 22) ∧
  tyField Try.prog 63 1 = some (1, 25) ∧
  tyField Try.prog 63 2 = some (2, 22) ∧
  tyFields Try.prog 63 = some [(0, 1), (1, 1), (2, 1)] ∧
  tyField Try.prog 73 0 = some (0, 3) ∧
  tyField Try.prog 73 1 = some (1, 3) ∧
  tyFields Try.prog 73 = some [(0, 1), (1, 1)] ∧
  tyField Try.prog 74 0 = some (0, 3) ∧
  tyField Try.prog 74 1 = some (1, 3) ∧
  tyFields Try.prog 74 = some [(0, 1), (1, 1)] :=
  ⟨by kernel_rfl, by kernel_rfl, by kernel_rfl, by kernel_rfl, by kernel_rfl, by kernel_rfl, by kernel_rfl, by kernel_rfl, by kernel_rfl, by kernel_rfl, by kernel_rfl, by kernel_rfl, by kernel_rfl, by kernel_rfl, by kernel_rfl, by kernel_rfl, by kernel_rfl, by kernel_rfl, by kernel_rfl, by kernel_rfl, by kernel_rfl, by kernel_rfl, by kernel_rfl, by kernel_rfl, by kernel_rfl, by kernel_rfl, by kernel_rfl, by kernel_rfl, by kernel_rfl, by kernel_rfl, by kernel_rfl, by kernel_rfl, by kernel_rfl, by kernel_rfl, by kernel_rfl, by kernel_rfl, by kernel_rfl, by kernel_rfl, by kernel_rfl, by kernel_rfl, by kernel_rfl, by kernel_rfl, by kernel_rfl, by kernel_rfl, by kernel_rfl, by kernel_rfl, by kernel_rfl, by kernel_rfl, by kernel_rfl, by kernel_rfl⟩
theorem tyZ0 : yzero Try.prog 2 = some [.int .i64 0] ∧
  yzero Try.prog 3 = some [.int .i64 0] ∧
  yzero Try.prog 4 = some [.bool false] ∧
  yzero Try.prog 5 = some [.int .u8 0] ∧
  yzero Try.prog 9 = some [.string ⟨#[]⟩] ∧
  yzero Try.prog 21 = some [.int .i32 0] ∧
  yzero Try.prog 22 = some [.slice none 0 0] ∧
  yzero Try.prog 25 = some [.slice none 0 0] ∧
  yzero Try.prog 31 = some [.slice none 0 0] ∧
  yzero Try.prog 34 = some [.bool false, .string ⟨#[]⟩, .string ⟨#[]⟩] ∧
  yzero Try.prog 35 = some [.bool false, .string ⟨#[]⟩, .string ⟨#[]⟩] ∧
  yzero Try.prog 36 = some [.int .i64 0, .int .i64 0, .int .i64 0, .int .i64 0] ∧
  yzero Try.prog 37 = some [.int .i64 0, .string ⟨#[]⟩, .string ⟨#[]⟩, .bool false, .string ⟨#[]⟩, .string ⟨#[]⟩, .bool false, .bool false, .int .i64 0, .int .i64 0, .int .i64 0, .int .i64 0, .int .i64 0] ∧
  yzero Try.prog 38 = some [.int .i64 0, .string ⟨#[]⟩, .string ⟨#[]⟩, .bool false, .string ⟨#[]⟩, .string ⟨#[]⟩, .bool false, .bool false, .int .i64 0, .int .i64 0, .int .i64 0, .int .i64 0, .int .i64 0] ∧
  yzero Try.prog 41 = some [.slice none 0 0] ∧
  yzero Try.prog 42 = some [.int .u64 0] ∧
  yzero Try.prog 46 = some [.slice none 0 0] ∧
  yzero Try.prog 49 = some [.slice none 0 0] ∧
  yzero Try.prog 51 = some [.int .i64 0, .bool false, .bool false] ∧
  yzero Try.prog 52 = some [.int .i64 0, .bool false, .bool false] ∧
  yzero Try.prog 54 = some [.slice none 0 0] ∧
  yzero Try.prog 61 = some [.pointer none] ∧
  yzero Try.prog 62 = some [.slice none 0 0, .slice none 0 0, .slice none 0 0] ∧
  yzero Try.prog 63 = some [.slice none 0 0, .slice none 0 0, .slice none 0 0] ∧
  yzero Try.prog 73 = some [.int .i64 0, .int .i64 0] ∧
  yzero Try.prog 74 = some [.int .i64 0, .int .i64 0] ∧
  yzero Try.prog 116 = some [.int .u32 0] ∧
  yzero Try.prog 130 = some [.pointer none] ∧
  yzero Try.prog 135 = some [.pointer none] :=
  ⟨by kernel_rfl, by kernel_rfl, by kernel_rfl, by kernel_rfl, by kernel_rfl, by kernel_rfl, by kernel_rfl, by kernel_rfl, by kernel_rfl, by kernel_rfl, by kernel_rfl, by kernel_rfl, by kernel_rfl, by kernel_rfl, by kernel_rfl, by kernel_rfl, by kernel_rfl, by kernel_rfl, by kernel_rfl, by kernel_rfl, by kernel_rfl, by kernel_rfl, by kernel_rfl, by kernel_rfl, by kernel_rfl, by kernel_rfl, by kernel_rfl, by kernel_rfl, by kernel_rfl⟩
theorem tyA3 : tySz Try.prog 2 = 1 := by kernel_rfl
theorem tyF1 : tySz Try.prog 2 = 1 := by kernel_rfl
end Go.Vx.Seat
end
/- The run set, packed. -/
section
open Go Go.Vx Go.Proofs
set_option linter.unusedVariables false
namespace Go.Vx.Seat
theorem C1_P : C1.P = Try.prog := rfl
theorem yP : type_of% (And.intro (And.intro (And.intro (And.intro (@Rw_skip) (And.intro (@Rw_ret) (@Rw_exit))) (And.intro (@Rw_seq) (And.intro (@Rw_block) (@Rw_cond)))) (And.intro (And.intro (@Rw_region) (And.intro (@Rw_drawn) (@Rw_loop))) (And.intro (@Rc_true) (And.intro (@Rc_false) (@kf_nil))))) (And.intro (And.intro (And.intro (@kf_seq) (And.intro (@kf_seq_exit) (@kf_seq_ret))) (And.intro (@kf_blk) (And.intro (@kf_blk_ret) (@kf_blk_self)))) (And.intro (And.intro (@kf_blk_exit) (And.intro (@ythen_next) (@ythen_ret))) (And.intro (@ythen_exit) (And.intro (@gsOf_nil) (@gsOf_cons)))))) := And.intro (And.intro (And.intro (And.intro (@Rw_skip) (And.intro (@Rw_ret) (@Rw_exit))) (And.intro (@Rw_seq) (And.intro (@Rw_block) (@Rw_cond)))) (And.intro (And.intro (@Rw_region) (And.intro (@Rw_drawn) (@Rw_loop))) (And.intro (@Rc_true) (And.intro (@Rc_false) (@kf_nil))))) (And.intro (And.intro (And.intro (@kf_seq) (And.intro (@kf_seq_exit) (@kf_seq_ret))) (And.intro (@kf_blk) (And.intro (@kf_blk_ret) (@kf_blk_self)))) (And.intro (And.intro (@kf_blk_exit) (And.intro (@ythen_next) (@ythen_ret))) (And.intro (@ythen_exit) (And.intro (@gsOf_nil) (@gsOf_cons)))))
theorem yT : type_of% (And.intro (And.intro (And.intro (And.intro (And.intro (And.intro (And.intro (And.intro (@Rg_nil) (@Rg_none)) (And.intro (@Rg_some) (@Rt_nil))) (And.intro (And.intro (@Rt_none) (@Rt_some)) (And.intro (@mk_eq) (And.intro (@Rc_true) (@Rc_false))))) (And.intro (And.intro (And.intro (@Ri_true) (@Ri_false)) (And.intro (@Ro_val) (@Ro_call))) (And.intro (And.intro (@Rti_true) (@Rti_false)) (And.intro (@Rtf_true) (And.intro (@Rtk_some) (@Rto_val)))))) (And.intro (And.intro (And.intro (And.intro (@Rto_call) (@yput_some)) (And.intro (@yput_none) (@yv_tmp))) (And.intro (And.intro (@yv_const) (@yv_func)) (And.intro (@ofc_int) (And.intro (@ofc_bool) (@ofc_str))))) (And.intro (And.intro (And.intro (@ofc_nil) (@ofc_np)) (And.intro (@ydry_int) (And.intro (@ydry_bool) (@ydry_str)))) (And.intro (And.intro (@ydry_nil) (@yRes_some)) (And.intro (@yNew_eq) (And.intro (@ygd_some) (@ygb_bool))))))) (And.intro (And.intro (And.intro (And.intro (And.intro (@ygb_skip) (@nth_zero)) (And.intro (@nth_succ) (@nthD_zero))) (And.intro (And.intro (@nthD_succ) (@List.set_cons_zero.{0})) (And.intro (@List.set_cons_succ.{0}) (And.intro (@List.map_cons.{0, 0}) (@List.map_nil.{0, 0}))))) (And.intro (And.intro (And.intro (@List.length_cons.{0}) (@List.length_nil.{0})) (And.intro (@List.cons_append.{0}) (@List.nil_append.{0}))) (And.intro (And.intro (@List.append_nil.{0}) (@Nat.zero_add)) (And.intro (@Nat.add_zero) (And.intro (@List.drop_zero.{0}) (@List.drop_succ_cons.{0})))))) (And.intro (And.intro (And.intro (And.intro (@List.take_succ_cons.{0}) (@List.take_zero.{0})) (And.intro (@bb_tt) (@bb_tf))) (And.intro (And.intro (@bb_ft) (@bb_ff)) (And.intro (@Bool.not_true) (And.intro (@Bool.not_false) (@if_true.{1}))))) (And.intro (And.intro (And.intro (@if_false.{1}) (@Bool.false_eq_true)) (And.intro (@yPick_true) (And.intro (@yPick_false) (@List.isEmpty_nil.{0})))) (And.intro (And.intro (@Bool.and_self) (@C1_P)) (And.intro (@tyA0) (And.intro (@tyA1) (@tyA2)))))))) (And.intro (And.intro (And.intro (And.intro (And.intro (And.intro (@tyA3) (@tyU0)) (And.intro (@tyF0) (@tyF1))) (And.intro (And.intro (@tyZ0) (@yres1)) (And.intro (@ynt_p) (And.intro (@yone_one) (@Option.some.injEq.{0}))))) (And.intro (And.intro (And.intro (@exists_eq_left'.{1}) (@Bool.or_false)) (And.intro (@Bool.or_true) (@true_and))) (And.intro (And.intro (@and_true) (@ne_eq.{1})) (And.intro (@not_false_eq_true) (And.intro (@and_self) (@Nat.one_ne_zero)))))) (And.intro (And.intro (And.intro (And.intro (@ret_ok) (@or_true)) (And.intro (@false_or) (@ychk.eq_1))) (And.intro (And.intro (@ychk.eq_2) (@ychk.eq_3)) (And.intro (@ychk.eq_4) (And.intro (@ychk.eq_5) (@yskip.eq_1))))) (And.intro (And.intro (And.intro (@yskip.eq_2) (@yskip.eq_3)) (And.intro (@yskip.eq_5) (And.intro (@yidle.eq_1) (@yidle.eq_2)))) (And.intro (And.intro (@Nat.le_refl) (@List.length_map.{0, 0})) (And.intro (@take_map_len) (And.intro (@imp_self) (@implies_true.{1}))))))) (And.intro (And.intro (And.intro (And.intro (And.intro (@implies_true.{0}) (@not_true_eq_false)) (And.intro (@List.replicate_succ.{0}) (@List.replicate_zero.{0}))) (And.intro (And.intro (@Nat.zero_le) (@Nat.zero_lt_succ)) (And.intro (@List.contains_cons.{0}) (And.intro (@List.contains_nil.{0}) (@Bool.false_or))))) (And.intro (And.intro (And.intro (@Bool.true_or) (@List.any_cons.{0})) (And.intro (@List.any_nil.{0}) (@Option.isNone_some.{0}))) (And.intro (And.intro (@Option.isNone_none.{0}) (@ynt_own)) (And.intro (@ynt_agg) (And.intro (@renV.eq_1) (@renV.eq_2)))))) (And.intro (And.intro (And.intro (And.intro (@renV.eq_3) (@renC.eq_1)) (And.intro (@renC.eq_2) (@renC.eq_3))) (And.intro (And.intro (@renC.eq_4) (@renC.eq_5)) (And.intro (@slotIx_nil) (And.intro (@slotIx_cons) (@take_map_snoc))))) (And.intro (And.intro (And.intro (@snoc_len) (@Option.map_some.{0, 0})) (And.intro (@Option.map_none.{0, 0}) (And.intro (@Int.toNat_natCast) (@Int.toNat_zero)))) (And.intro (And.intro (@Nat.sub_zero) (@Int.le_refl)) (And.intro (@nn) (And.intro (@yone_two) (@List.set_set.{0}))))))))) (And.intro (And.intro (And.intro (And.intro (And.intro (And.intro (And.intro (@List.length_set.{0}) (@List.getElem?_cons_zero.{0})) (And.intro (@List.getElem?_cons_succ.{0}) (@yresults.eq_2))) (And.intro (And.intro (@yresults.eq_1) (@yresult.eq_1)) (And.intro (@yresult.eq_2) (And.intro (@yop.eq_1) (@yop.eq_2))))) (And.intro (And.intro (And.intro (@yop.eq_3) (@yop.eq_4)) (And.intro (@yop.eq_5) (@yop.eq_6))) (And.intro (And.intro (@yop.eq_7) (@yop.eq_8)) (And.intro (@yop.eq_9) (And.intro (@yop.eq_10) (@yop.eq_11)))))) (And.intro (And.intro (And.intro (And.intro (@yop.eq_12) (@yop.eq_13)) (And.intro (@yop.eq_14) (@yop.eq_15))) (And.intro (And.intro (@yop.eq_16) (@yop.eq_17)) (And.intro (@yop.eq_18) (And.intro (@yop.eq_19) (@yop.eq_20))))) (And.intro (And.intro (And.intro (@yop.eq_21) (@yop.eq_22)) (And.intro (@yop.eq_23) (And.intro (@yop.eq_24) (@yAlloc.eq_1)))) (And.intro (And.intro (@yBox.eq_1) (@ycl.eq_1)) (And.intro (@ycl.eq_2) (And.intro (@ycl.eq_3) (@ycl.eq_4))))))) (And.intro (And.intro (And.intro (And.intro (And.intro (@yLoad.eq_1) (@ycells.eq_1)) (And.intro (@ycells.eq_2) (@ycells.eq_3))) (And.intro (And.intro (@yNil.eq_1) (@yNil.eq_2)) (And.intro (@yNil.eq_3) (And.intro (@yBin.eq_1) (@yUn.eq_1))))) (And.intro (And.intro (And.intro (@dvA.eq_1) (@dvA.eq_2)) (And.intro (@dvA.eq_3) (@dvs.eq_1))) (And.intro (And.intro (@dvs.eq_2) (@dvs.eq_3)) (And.intro (@dv.eq_1) (And.intro (@dv.eq_2) (@yFieldAddr.eq_1)))))) (And.intro (And.intro (And.intro (And.intro (@yField.eq_1) (@yField.eq_2)) (And.intro (@yPart.eq_1) (@yIndexAddr.eq_1))) (And.intro (And.intro (@yIndex.eq_1) (@yExtract.eq_1)) (And.intro (@yExtract.eq_2) (And.intro (@yLen.eq_1) (@yLen.eq_2))))) (And.intro (And.intro (And.intro (@yLen.eq_3) (@yLen.eq_4)) (And.intro (@yCall.eq_1) (And.intro (@xbin.eq_1) (@xbin.eq_2)))) (And.intro (And.intro (@xbin.eq_3) (@xbin.eq_4)) (And.intro (@xbin.eq_5) (And.intro (@xbin.eq_6) (@xbin.eq_7)))))))) (And.intro (And.intro (And.intro (And.intro (And.intro (And.intro (@xbin.eq_8) (@xbin.eq_9)) (And.intro (@xbinI.eq_1) (@xbinI.eq_2))) (And.intro (And.intro (@xbinI.eq_3) (@xint.eq_1)) (And.intro (@xint.eq_2) (And.intro (@xint.eq_3) (@xint.eq_4))))) (And.intro (And.intro (And.intro (@xint.eq_5) (@xint.eq_6)) (And.intro (@xint.eq_7) (@xint.eq_8))) (And.intro (And.intro (@xint.eq_9) (@xint.eq_10)) (And.intro (@xint.eq_11) (And.intro (@xint.eq_12) (@xint.eq_13)))))) (And.intro (And.intro (And.intro (And.intro (@xint.eq_14) (@xint.eq_15)) (And.intro (@xun.eq_1) (@xun.eq_2))) (And.intro (And.intro (@xun.eq_3) (@xbinB.eq_1)) (And.intro (@xbinB.eq_2) (And.intro (@xbinB.eq_3) (@yguard.eq_1))))) (And.intro (And.intro (And.intro (@yStore.eq_1) (@yStore.eq_2)) (And.intro (@ySlice.eq_1) (And.intro (@ySlice.eq_2) (@ySlice.eq_3)))) (And.intro (And.intro (@ySlice.eq_4) (@yAppend.eq_1)) (And.intro (@yBuild.eq_1) (And.intro (@yfill.eq_1) (@yfill.eq_2))))))) (And.intro (And.intro (And.intro (And.intro (And.intro (@yels.eq_1) (@yels.eq_2)) (And.intro (@ypc.eq_1) (@ypc.eq_2))) (And.intro (And.intro (@ypc.eq_3) (@pcs.eq_1)) (And.intro (@pcs.eq_2) (And.intro (@pcs.eq_3) (@gsplice.eq_1))))) (And.intro (And.intro (And.intro (@gsplice.eq_1) (@ySource.eq_1)) (And.intro (@ySource.eq_2) (@ySource.eq_3))) (And.intro (And.intro (@yrow.eq_1) (@yrow.eq_2)) (And.intro (@yrow.eq_3) (And.intro (@yMake.eq_1) (@yBuildSlice.eq_1)))))) (And.intro (And.intro (And.intro (And.intro (@yConvert.eq_1) (@low.eq_1)) (And.intro (@low.eq_2) (@low.eq_3))) (And.intro (And.intro (@yfzC.eq_1) (@yfzC.eq_2)) (And.intro (@yfzC.eq_3) (And.intro (@yfzL.eq_1) (@yfzL.eq_2))))) (And.intro (And.intro (And.intro (@yfzV.eq_1) (@yfzV.eq_2)) (And.intro (@yfzV.eq_3) (And.intro (@yfzP.eq_1) (@yfzP.eq_2)))) (And.intro (And.intro (@yBuildRow.eq_1) (@yBuildRow.eq_2)) (And.intro (@yfrz.eq_1) (And.intro (@yfrz.eq_2) (@pds.eq_1)))))))))) := And.intro (And.intro (And.intro (And.intro (And.intro (And.intro (And.intro (And.intro (@Rg_nil) (@Rg_none)) (And.intro (@Rg_some) (@Rt_nil))) (And.intro (And.intro (@Rt_none) (@Rt_some)) (And.intro (@mk_eq) (And.intro (@Rc_true) (@Rc_false))))) (And.intro (And.intro (And.intro (@Ri_true) (@Ri_false)) (And.intro (@Ro_val) (@Ro_call))) (And.intro (And.intro (@Rti_true) (@Rti_false)) (And.intro (@Rtf_true) (And.intro (@Rtk_some) (@Rto_val)))))) (And.intro (And.intro (And.intro (And.intro (@Rto_call) (@yput_some)) (And.intro (@yput_none) (@yv_tmp))) (And.intro (And.intro (@yv_const) (@yv_func)) (And.intro (@ofc_int) (And.intro (@ofc_bool) (@ofc_str))))) (And.intro (And.intro (And.intro (@ofc_nil) (@ofc_np)) (And.intro (@ydry_int) (And.intro (@ydry_bool) (@ydry_str)))) (And.intro (And.intro (@ydry_nil) (@yRes_some)) (And.intro (@yNew_eq) (And.intro (@ygd_some) (@ygb_bool))))))) (And.intro (And.intro (And.intro (And.intro (And.intro (@ygb_skip) (@nth_zero)) (And.intro (@nth_succ) (@nthD_zero))) (And.intro (And.intro (@nthD_succ) (@List.set_cons_zero.{0})) (And.intro (@List.set_cons_succ.{0}) (And.intro (@List.map_cons.{0, 0}) (@List.map_nil.{0, 0}))))) (And.intro (And.intro (And.intro (@List.length_cons.{0}) (@List.length_nil.{0})) (And.intro (@List.cons_append.{0}) (@List.nil_append.{0}))) (And.intro (And.intro (@List.append_nil.{0}) (@Nat.zero_add)) (And.intro (@Nat.add_zero) (And.intro (@List.drop_zero.{0}) (@List.drop_succ_cons.{0})))))) (And.intro (And.intro (And.intro (And.intro (@List.take_succ_cons.{0}) (@List.take_zero.{0})) (And.intro (@bb_tt) (@bb_tf))) (And.intro (And.intro (@bb_ft) (@bb_ff)) (And.intro (@Bool.not_true) (And.intro (@Bool.not_false) (@if_true.{1}))))) (And.intro (And.intro (And.intro (@if_false.{1}) (@Bool.false_eq_true)) (And.intro (@yPick_true) (And.intro (@yPick_false) (@List.isEmpty_nil.{0})))) (And.intro (And.intro (@Bool.and_self) (@C1_P)) (And.intro (@tyA0) (And.intro (@tyA1) (@tyA2)))))))) (And.intro (And.intro (And.intro (And.intro (And.intro (And.intro (@tyA3) (@tyU0)) (And.intro (@tyF0) (@tyF1))) (And.intro (And.intro (@tyZ0) (@yres1)) (And.intro (@ynt_p) (And.intro (@yone_one) (@Option.some.injEq.{0}))))) (And.intro (And.intro (And.intro (@exists_eq_left'.{1}) (@Bool.or_false)) (And.intro (@Bool.or_true) (@true_and))) (And.intro (And.intro (@and_true) (@ne_eq.{1})) (And.intro (@not_false_eq_true) (And.intro (@and_self) (@Nat.one_ne_zero)))))) (And.intro (And.intro (And.intro (And.intro (@ret_ok) (@or_true)) (And.intro (@false_or) (@ychk.eq_1))) (And.intro (And.intro (@ychk.eq_2) (@ychk.eq_3)) (And.intro (@ychk.eq_4) (And.intro (@ychk.eq_5) (@yskip.eq_1))))) (And.intro (And.intro (And.intro (@yskip.eq_2) (@yskip.eq_3)) (And.intro (@yskip.eq_5) (And.intro (@yidle.eq_1) (@yidle.eq_2)))) (And.intro (And.intro (@Nat.le_refl) (@List.length_map.{0, 0})) (And.intro (@take_map_len) (And.intro (@imp_self) (@implies_true.{1}))))))) (And.intro (And.intro (And.intro (And.intro (And.intro (@implies_true.{0}) (@not_true_eq_false)) (And.intro (@List.replicate_succ.{0}) (@List.replicate_zero.{0}))) (And.intro (And.intro (@Nat.zero_le) (@Nat.zero_lt_succ)) (And.intro (@List.contains_cons.{0}) (And.intro (@List.contains_nil.{0}) (@Bool.false_or))))) (And.intro (And.intro (And.intro (@Bool.true_or) (@List.any_cons.{0})) (And.intro (@List.any_nil.{0}) (@Option.isNone_some.{0}))) (And.intro (And.intro (@Option.isNone_none.{0}) (@ynt_own)) (And.intro (@ynt_agg) (And.intro (@renV.eq_1) (@renV.eq_2)))))) (And.intro (And.intro (And.intro (And.intro (@renV.eq_3) (@renC.eq_1)) (And.intro (@renC.eq_2) (@renC.eq_3))) (And.intro (And.intro (@renC.eq_4) (@renC.eq_5)) (And.intro (@slotIx_nil) (And.intro (@slotIx_cons) (@take_map_snoc))))) (And.intro (And.intro (And.intro (@snoc_len) (@Option.map_some.{0, 0})) (And.intro (@Option.map_none.{0, 0}) (And.intro (@Int.toNat_natCast) (@Int.toNat_zero)))) (And.intro (And.intro (@Nat.sub_zero) (@Int.le_refl)) (And.intro (@nn) (And.intro (@yone_two) (@List.set_set.{0}))))))))) (And.intro (And.intro (And.intro (And.intro (And.intro (And.intro (And.intro (@List.length_set.{0}) (@List.getElem?_cons_zero.{0})) (And.intro (@List.getElem?_cons_succ.{0}) (@yresults.eq_2))) (And.intro (And.intro (@yresults.eq_1) (@yresult.eq_1)) (And.intro (@yresult.eq_2) (And.intro (@yop.eq_1) (@yop.eq_2))))) (And.intro (And.intro (And.intro (@yop.eq_3) (@yop.eq_4)) (And.intro (@yop.eq_5) (@yop.eq_6))) (And.intro (And.intro (@yop.eq_7) (@yop.eq_8)) (And.intro (@yop.eq_9) (And.intro (@yop.eq_10) (@yop.eq_11)))))) (And.intro (And.intro (And.intro (And.intro (@yop.eq_12) (@yop.eq_13)) (And.intro (@yop.eq_14) (@yop.eq_15))) (And.intro (And.intro (@yop.eq_16) (@yop.eq_17)) (And.intro (@yop.eq_18) (And.intro (@yop.eq_19) (@yop.eq_20))))) (And.intro (And.intro (And.intro (@yop.eq_21) (@yop.eq_22)) (And.intro (@yop.eq_23) (And.intro (@yop.eq_24) (@yAlloc.eq_1)))) (And.intro (And.intro (@yBox.eq_1) (@ycl.eq_1)) (And.intro (@ycl.eq_2) (And.intro (@ycl.eq_3) (@ycl.eq_4))))))) (And.intro (And.intro (And.intro (And.intro (And.intro (@yLoad.eq_1) (@ycells.eq_1)) (And.intro (@ycells.eq_2) (@ycells.eq_3))) (And.intro (And.intro (@yNil.eq_1) (@yNil.eq_2)) (And.intro (@yNil.eq_3) (And.intro (@yBin.eq_1) (@yUn.eq_1))))) (And.intro (And.intro (And.intro (@dvA.eq_1) (@dvA.eq_2)) (And.intro (@dvA.eq_3) (@dvs.eq_1))) (And.intro (And.intro (@dvs.eq_2) (@dvs.eq_3)) (And.intro (@dv.eq_1) (And.intro (@dv.eq_2) (@yFieldAddr.eq_1)))))) (And.intro (And.intro (And.intro (And.intro (@yField.eq_1) (@yField.eq_2)) (And.intro (@yPart.eq_1) (@yIndexAddr.eq_1))) (And.intro (And.intro (@yIndex.eq_1) (@yExtract.eq_1)) (And.intro (@yExtract.eq_2) (And.intro (@yLen.eq_1) (@yLen.eq_2))))) (And.intro (And.intro (And.intro (@yLen.eq_3) (@yLen.eq_4)) (And.intro (@yCall.eq_1) (And.intro (@xbin.eq_1) (@xbin.eq_2)))) (And.intro (And.intro (@xbin.eq_3) (@xbin.eq_4)) (And.intro (@xbin.eq_5) (And.intro (@xbin.eq_6) (@xbin.eq_7)))))))) (And.intro (And.intro (And.intro (And.intro (And.intro (And.intro (@xbin.eq_8) (@xbin.eq_9)) (And.intro (@xbinI.eq_1) (@xbinI.eq_2))) (And.intro (And.intro (@xbinI.eq_3) (@xint.eq_1)) (And.intro (@xint.eq_2) (And.intro (@xint.eq_3) (@xint.eq_4))))) (And.intro (And.intro (And.intro (@xint.eq_5) (@xint.eq_6)) (And.intro (@xint.eq_7) (@xint.eq_8))) (And.intro (And.intro (@xint.eq_9) (@xint.eq_10)) (And.intro (@xint.eq_11) (And.intro (@xint.eq_12) (@xint.eq_13)))))) (And.intro (And.intro (And.intro (And.intro (@xint.eq_14) (@xint.eq_15)) (And.intro (@xun.eq_1) (@xun.eq_2))) (And.intro (And.intro (@xun.eq_3) (@xbinB.eq_1)) (And.intro (@xbinB.eq_2) (And.intro (@xbinB.eq_3) (@yguard.eq_1))))) (And.intro (And.intro (And.intro (@yStore.eq_1) (@yStore.eq_2)) (And.intro (@ySlice.eq_1) (And.intro (@ySlice.eq_2) (@ySlice.eq_3)))) (And.intro (And.intro (@ySlice.eq_4) (@yAppend.eq_1)) (And.intro (@yBuild.eq_1) (And.intro (@yfill.eq_1) (@yfill.eq_2))))))) (And.intro (And.intro (And.intro (And.intro (And.intro (@yels.eq_1) (@yels.eq_2)) (And.intro (@ypc.eq_1) (@ypc.eq_2))) (And.intro (And.intro (@ypc.eq_3) (@pcs.eq_1)) (And.intro (@pcs.eq_2) (And.intro (@pcs.eq_3) (@gsplice.eq_1))))) (And.intro (And.intro (And.intro (@gsplice.eq_1) (@ySource.eq_1)) (And.intro (@ySource.eq_2) (@ySource.eq_3))) (And.intro (And.intro (@yrow.eq_1) (@yrow.eq_2)) (And.intro (@yrow.eq_3) (And.intro (@yMake.eq_1) (@yBuildSlice.eq_1)))))) (And.intro (And.intro (And.intro (And.intro (@yConvert.eq_1) (@low.eq_1)) (And.intro (@low.eq_2) (@low.eq_3))) (And.intro (And.intro (@yfzC.eq_1) (@yfzC.eq_2)) (And.intro (@yfzC.eq_3) (And.intro (@yfzL.eq_1) (@yfzL.eq_2))))) (And.intro (And.intro (And.intro (@yfzV.eq_1) (@yfzV.eq_2)) (And.intro (@yfzV.eq_3) (And.intro (@yfzP.eq_1) (@yfzP.eq_2)))) (And.intro (And.intro (@yBuildRow.eq_1) (@yBuildRow.eq_2)) (And.intro (@yfrz.eq_1) (And.intro (@yfrz.eq_2) (@pds.eq_1)))))))))
theorem yE : type_of% (And.intro (And.intro (And.intro (And.intro (And.intro (@yren.eq_1) (@yren.eq_2)) (And.intro (@yren.eq_3) (And.intro (@yren.eq_4) (@renV.eq_1)))) (And.intro (And.intro (@renV.eq_2) (And.intro (@renV.eq_3) (@renC.eq_1))) (And.intro (@renC.eq_2) (And.intro (@renC.eq_3) (@renC.eq_4))))) (And.intro (And.intro (And.intro (@renC.eq_5) (@renE.eq_1)) (And.intro (@renE.eq_2) (And.intro (@renE.eq_3) (@renS.eq_1)))) (And.intro (And.intro (@renB.eq_1) (And.intro (@renB.eq_2) (@renB.eq_3))) (And.intro (@slotIx_nil) (And.intro (@slotIx_cons) (@nth_zero)))))) (And.intro (And.intro (And.intro (And.intro (@nth_succ) (@yrow.eq_1)) (And.intro (@yrow.eq_2) (And.intro (@if_true.{1}) (@if_false.{1})))) (And.intro (And.intro (@List.map_cons.{0, 0}) (And.intro (@List.map_nil.{0, 0}) (@Nat.zero_add))) (And.intro (@Nat.add_zero) (And.intro (@Nat.le_refl) (@and_self))))) (And.intro (And.intro (And.intro (@and_true) (And.intro (@true_and) (@List.drop_zero.{0}))) (And.intro (@take_map_len) (And.intro (@take_map_snoc) (@snoc_len)))) (And.intro (And.intro (@List.length_map.{0, 0}) (And.intro (@List.length_append.{0}) (@List.length_cons.{0}))) (And.intro (@List.length_nil.{0}) (And.intro (@Nat.one_ne_zero) (@List.set_set.{0}))))))) := And.intro (And.intro (And.intro (And.intro (And.intro (@yren.eq_1) (@yren.eq_2)) (And.intro (@yren.eq_3) (And.intro (@yren.eq_4) (@renV.eq_1)))) (And.intro (And.intro (@renV.eq_2) (And.intro (@renV.eq_3) (@renC.eq_1))) (And.intro (@renC.eq_2) (And.intro (@renC.eq_3) (@renC.eq_4))))) (And.intro (And.intro (And.intro (@renC.eq_5) (@renE.eq_1)) (And.intro (@renE.eq_2) (And.intro (@renE.eq_3) (@renS.eq_1)))) (And.intro (And.intro (@renB.eq_1) (And.intro (@renB.eq_2) (@renB.eq_3))) (And.intro (@slotIx_nil) (And.intro (@slotIx_cons) (@nth_zero)))))) (And.intro (And.intro (And.intro (And.intro (@nth_succ) (@yrow.eq_1)) (And.intro (@yrow.eq_2) (And.intro (@if_true.{1}) (@if_false.{1})))) (And.intro (And.intro (@List.map_cons.{0, 0}) (And.intro (@List.map_nil.{0, 0}) (@Nat.zero_add))) (And.intro (@Nat.add_zero) (And.intro (@Nat.le_refl) (@and_self))))) (And.intro (And.intro (And.intro (@and_true) (And.intro (@true_and) (@List.drop_zero.{0}))) (And.intro (@take_map_len) (And.intro (@take_map_snoc) (@snoc_len)))) (And.intro (And.intro (@List.length_map.{0, 0}) (And.intro (@List.length_append.{0}) (@List.length_cons.{0}))) (And.intro (@List.length_nil.{0}) (And.intro (@Nat.one_ne_zero) (@List.set_set.{0}))))))
end Go.Vx.Seat
end
/- The style sheet's small functions, among values as they are. -/
section
open Go Go.Vx Go.Proofs
set_option linter.unusedSimpArgs false
set_option linter.unusedVariables false
set_option maxRecDepth 10000
set_option maxHeartbeats 4000000
namespace Go.Vx.Seat
attribute [local congr] Rg_at Rt_at Ro_at Ri_at Rc_at Rto_at Rtk_at Rtf_at Rti_at
attribute [local irreducible] Rg Rt Ro Ri Rc Rto Rtk Rtf Rti Rw Rl Rd Rcall Rtcall kf
theorem C1_eqs : C1.eqs = C0.eqs := rfl
theorem fn57 : nth C1.P.funcs.toList 57 = some Try.f57 := by kernel_rfl
theorem fn56 : nth C1.P.funcs.toList 56 = some Try.f56 := by kernel_rfl
theorem fn33 : nth C1.P.funcs.toList 33 = some Try.f33 := by kernel_rfl
theorem fn27 : nth C1.P.funcs.toList 27 = some Try.f27 := by kernel_rfl
theorem fn28 : nth C1.P.funcs.toList 28 = some Try.f28 := by kernel_rfl
theorem fn63 : nth C1.P.funcs.toList 63 = some Try.f63 := by kernel_rfl
theorem fn31 : nth C1.P.funcs.toList 31 = some Try.f31 := by kernel_rfl
theorem fn32 : nth C1.P.funcs.toList 32 = some Try.f32 := by kernel_rfl
theorem eqI_true (n : Int) : eqI n n = true := by rw [eqI_eq]; simp
theorem eqI_false {a b : Int} (h : a ≠ b) : eqI a b = false := by rw [eqI_eq]; simp [h]
theorem leI_true {a b : Int} (h : a ≤ b) : leI a b = true := by rw [leI_eq]; simp [h]
theorem leI_false {a b : Int} (h : ¬ a ≤ b) : leI a b = false := by rw [leI_eq]; simp [h]
theorem wrap_nat {i : Nat} (h : i < 9000000000000000000) : wrapK .i64 ((i : Nat) : Int) = (i : Nat) := by rw [wrapK_eq, IntKind.wrap_i64]; omega
theorem wrap_succ {i : Nat} (h : i < 9000000000000000000) : wrapK .i64 (((i : Nat) : Int) + 1) = ((i + 1 : Nat) : Int) := by rw [wrapK_eq, IntKind.wrap_i64]; omega
theorem wrap_int {x : Int} (h1 : -9000000000000000000 ≤ x) (h2 : x ≤ 9000000000000000000) : wrapK .i64 x = x := by rw [wrapK_eq, IntKind.wrap_i64]; omega
theorem wrap_pred {i : Nat} (h0 : 0 < i) (h : i < 9000000000000000000) : wrapK .i64 (((i : Nat) : Int) - 1) = ((i - 1 : Nat) : Int) := by rw [wrapK_eq, IntKind.wrap_i64]; omega
/-- A number's cell; a row of numbers. -/
def ei (n : Int) : List PC := [.d (.int .i64 n)]
abbrev rI (l : List Int) : PC := .row 1 (l.map ei)
/-- A row of rows of numbers. -/
def e2 (l : List Int) : List PC := [rI l]
abbrev rII (l : List (List Int)) : PC := .row 1 (l.map e2)
/-- A token. -/
structure Tok where
  kind : Int
  text : ByteArray
  unit : ByteArray
  neg : Bool
  digits : ByteArray
  exp : ByteArray
  flag : Bool
  sign : Bool
  c0 : Int
  c1 : Int
  c2 : Int
  c3 : Int
  start : Int
def Tok.pc (t : Tok) : List PC :=
  [.d (.int .i64 t.kind), .d (.string t.text), .d (.string t.unit), .d (.bool t.neg), .d (.string t.digits), .d (.string t.exp), .d (.bool t.flag), .d (.bool t.sign), .d (.int .i64 t.c0), .d (.int .i64 t.c1), .d (.int .i64 t.c2), .d (.int .i64 t.c3), .d (.int .i64 t.start)]
def Tok.cs (t : Tok) : List Ce := t.pc.map .p
abbrev Tok.yv (t : Tok) : YV := .agg t.cs
abbrev rT (l : List Tok) : PC := .row 13 (l.map Tok.pc)
instance : Inhabited Tok := ⟨⟨0, ⟨#[]⟩, ⟨#[]⟩, false, ⟨#[]⟩, ⟨#[]⟩, false, false, 0, 0, 0, 0, 0⟩⟩
theorem get_map {α β : Type} {f : α → β} {l : List α} {i : Nat} {a : α} (h : l[i]? = some a) : (l.map f)[i]? = some (f a) := by simp [h]
theorem get_lt {α : Type} {l : List α} {i : Nat} (h : i < l.length) : ∃ a, l[i]? = some a := ⟨l[i], List.getElem?_eq_getElem h⟩

def closes (k : Int) : Int := if k = 2 ∨ k = 21 then 22 else if k = 23 then 24 else if k = 19 then 20 else 0
theorem closes_spec (k : Int) : PCall C1 57 [yd (.int .i64 k)] fun y => y = yd (.int .i64 (closes k)) := by
  refine Pf (by rfl) (by rfl) fn57 (by rfl) ?_
  simp only [Try.f57, List.length_cons, List.length_nil, List.replicate, List.cons_append, List.nil_append]
  simp -implicitDefEqProofs only [↓yP, yT, Nat.reduceAdd, Nat.reduceMul, Nat.reduceSub, Nat.reduceLeDiff, Nat.reduceEqDiff, reduceCtorEq, Nat.reduceBEq]
  unfold closes
  by_cases h1 : k = 2
  · subst h1
    simp [eqI_eq, ↓yP, yT, Nat.reduceAdd, Nat.reduceMul, Nat.reduceSub, Nat.reduceLeDiff, Nat.reduceEqDiff, reduceCtorEq, Nat.reduceBEq]
  by_cases h2 : k = 21
  · subst h2
    simp [eqI_eq, ↓yP, yT, Nat.reduceAdd, Nat.reduceMul, Nat.reduceSub, Nat.reduceLeDiff, Nat.reduceEqDiff, reduceCtorEq, Nat.reduceBEq]
  by_cases h3 : k = 23
  · subst h3
    simp [eqI_eq, ↓yP, yT, Nat.reduceAdd, Nat.reduceMul, Nat.reduceSub, Nat.reduceLeDiff, Nat.reduceEqDiff, reduceCtorEq, Nat.reduceBEq]
  by_cases h4 : k = 19
  · subst h4
    simp [eqI_eq, ↓yP, yT, Nat.reduceAdd, Nat.reduceMul, Nat.reduceSub, Nat.reduceLeDiff, Nat.reduceEqDiff, reduceCtorEq, Nat.reduceBEq]
  simp [eqI_eq, h1, h2, h3, h4, ↓yP, yT, Nat.reduceAdd, Nat.reduceMul, Nat.reduceSub, Nat.reduceLeDiff, Nat.reduceEqDiff, reduceCtorEq, Nat.reduceBEq]
theorem closer_spec (k : Int) : PCall C1 56 [yd (.int .i64 k)] fun y => y = yd (.int .i64 (closes k)) := by
  refine Pf (by rfl) (by rfl) fn56 (by rfl) ?_
  simp only [Try.f56, List.length_cons, List.length_nil, List.replicate, List.cons_append, List.nil_append]
  simp -implicitDefEqProofs only [↓yP, yT, Nat.reduceAdd, Nat.reduceMul, Nat.reduceSub, Nat.reduceLeDiff, Nat.reduceEqDiff, reduceCtorEq, Nat.reduceBEq]
  unfold closes
  by_cases h1 : k = 2
  · subst h1
    simp [eqI_eq, ↓yP, yT, Nat.reduceAdd, Nat.reduceMul, Nat.reduceSub, Nat.reduceLeDiff, Nat.reduceEqDiff, reduceCtorEq, Nat.reduceBEq]
  by_cases h2 : k = 21
  · subst h2
    simp [eqI_eq, ↓yP, yT, Nat.reduceAdd, Nat.reduceMul, Nat.reduceSub, Nat.reduceLeDiff, Nat.reduceEqDiff, reduceCtorEq, Nat.reduceBEq]
  by_cases h3 : k = 23
  · subst h3
    simp [eqI_eq, ↓yP, yT, Nat.reduceAdd, Nat.reduceMul, Nat.reduceSub, Nat.reduceLeDiff, Nat.reduceEqDiff, reduceCtorEq, Nat.reduceBEq]
  by_cases h4 : k = 19
  · subst h4
    simp [eqI_eq, ↓yP, yT, Nat.reduceAdd, Nat.reduceMul, Nat.reduceSub, Nat.reduceLeDiff, Nat.reduceEqDiff, reduceCtorEq, Nat.reduceBEq]
  simp [eqI_eq, h1, h2, h3, h4, ↓yP, yT, Nat.reduceAdd, Nat.reduceMul, Nat.reduceSub, Nat.reduceLeDiff, Nat.reduceEqDiff, reduceCtorEq, Nat.reduceBEq]

def quiet (k : Int) : Bool := decide (k = 13) || decide (k = 25)
def partK (k : Int) : Bool := decide (k = 19) || decide (k = 20) || decide (k = 17)
theorem quiet_spec (t : Tok) : PCall C1 33 [t.yv] fun y => y = yd (.bool (quiet t.kind)) := by
  refine Pf (by rfl) (by rfl) fn33 (by rfl) ?_
  simp only [Try.f33, List.length_cons, List.length_nil, List.replicate, List.cons_append, List.nil_append]
  simp only [Tok.yv, Tok.cs, Tok.pc, List.map_cons, List.map_nil]
  unfold quiet
  by_cases h1 : t.kind = 13
  · simp -implicitDefEqProofs only [↓yP, yT, Nat.reduceAdd, Nat.reduceMul, Nat.reduceSub, Nat.reduceLeDiff, Nat.reduceEqDiff, reduceCtorEq, Nat.reduceBEq, h1, eqI_true]
    simp
  · simp -implicitDefEqProofs only [↓yP, yT, Nat.reduceAdd, Nat.reduceMul, Nat.reduceSub, Nat.reduceLeDiff, Nat.reduceEqDiff, reduceCtorEq, Nat.reduceBEq, eqI_false h1]
    simp [h1, eqI_eq]
theorem blank_spec (t : Tok) : PCall C1 27 [t.yv] fun y => y = yd (.bool (quiet t.kind)) := by
  refine Pf (by rfl) (by rfl) fn27 (by rfl) ?_
  simp only [Try.f27, List.length_cons, List.length_nil, List.replicate, List.cons_append, List.nil_append]
  simp only [Tok.yv, Tok.cs, Tok.pc, List.map_cons, List.map_nil]
  unfold quiet
  by_cases h1 : t.kind = 13
  · simp -implicitDefEqProofs only [↓yP, yT, Nat.reduceAdd, Nat.reduceMul, Nat.reduceSub, Nat.reduceLeDiff, Nat.reduceEqDiff, reduceCtorEq, Nat.reduceBEq, h1, eqI_true]
    simp
  · simp -implicitDefEqProofs only [↓yP, yT, Nat.reduceAdd, Nat.reduceMul, Nat.reduceSub, Nat.reduceLeDiff, Nat.reduceEqDiff, reduceCtorEq, Nat.reduceBEq, eqI_false h1]
    simp [h1, eqI_eq]
theorem cpart_spec (t : Tok) : PCall C1 28 [t.yv] fun y => y = yd (.bool (partK t.kind)) := by
  refine Pf (by rfl) (by rfl) fn28 (by rfl) ?_
  simp only [Try.f28, List.length_cons, List.length_nil, List.replicate, List.cons_append, List.nil_append]
  simp only [Tok.yv, Tok.cs, Tok.pc, List.map_cons, List.map_nil]
  unfold partK
  by_cases h1 : t.kind = 19
  · simp -implicitDefEqProofs only [↓yP, yT, Nat.reduceAdd, Nat.reduceMul, Nat.reduceSub, Nat.reduceLeDiff, Nat.reduceEqDiff, reduceCtorEq, Nat.reduceBEq, h1, eqI_true]
    simp
  by_cases h2 : t.kind = 20
  · have e1 : eqI t.kind 19 = false := eqI_false h1
    have e2 : eqI t.kind 20 = true := by rw [h2]; rfl
    simp -implicitDefEqProofs only [↓yP, yT, Nat.reduceAdd, Nat.reduceMul, Nat.reduceSub, Nat.reduceLeDiff, Nat.reduceEqDiff, reduceCtorEq, Nat.reduceBEq, e1, e2]
    simp [h2]
  · simp -implicitDefEqProofs only [↓yP, yT, Nat.reduceAdd, Nat.reduceMul, Nat.reduceSub, Nat.reduceLeDiff, Nat.reduceEqDiff, reduceCtorEq, Nat.reduceBEq, eqI_false h1, eqI_false h2]
    simp [h1, h2, eqI_eq]

theorem in_spec (l : List Int) (n : Int) (hl : l.length ≤ 100000000) : PCall C1 63 [.c (.p (rI l)), yd (.int .i64 n)] fun y => y = yd (.bool (l.contains n)) := by
  refine Pf (by rfl) (by rfl) fn63 (by rfl) ?_
  simp only [Try.f63, List.length_cons, List.length_nil, List.replicate, List.cons_append, List.nil_append]
  simp -implicitDefEqProofs only [↓yP, yT, Nat.reduceAdd, Nat.reduceMul, Nat.reduceSub, Nat.reduceLeDiff, Nat.reduceEqDiff, reduceCtorEq, Nat.reduceBEq]
  refine Rl_inv (fun d e s => ∃ i : Nat, e = [.c (.p (rI l)), yd (.int .i64 n), .c .top, .c .top, .c .top, yd (.int .i64 i), .c .top, .c .top, .c .top, .c .top, .c .top, .c .top, .c .top, .c .top, .c .top, .c .top, .c .top, .c .top] ∧ s = [] ∧ i + d = l.length ∧ ∀ (j : Nat) (a : Int), j < i → l[j]? = some a → a ≠ n) [true, true, false, false, false, true] l.length [] (by decide) (pinned_zero _) ⟨0, rfl, rfl, by omega, fun j a hj => by omega⟩ ?_
  rintro d e s ⟨i, rfl, rfl, hd, hne⟩
  by_cases hi : i < l.length
  · obtain ⟨a, ha⟩ := get_lt hi
    have t1 : leI (l.length : Nat) (i : Nat) = false := leI_false (by omega)
    by_cases he : a = n
    · simp -implicitDefEqProofs only [↓yP, yT, Nat.reduceAdd, Nat.reduceMul, Nat.reduceSub, Nat.reduceLeDiff, Nat.reduceEqDiff, reduceCtorEq, Nat.reduceBEq, List.length_map, t1, nn, Int.toNat_natCast, get_map ha, ei, he, eqI_true]
      simp [List.mem_of_getElem? (he ▸ ha)]
    · simp -implicitDefEqProofs only [↓yP, yT, Nat.reduceAdd, Nat.reduceMul, Nat.reduceSub, Nat.reduceLeDiff, Nat.reduceEqDiff, reduceCtorEq, Nat.reduceBEq, List.length_map, t1, nn, Int.toNat_natCast, get_map ha, ei, eqI_false he, wrap_succ (show i < 9000000000000000000 by omega)]
      refine ⟨d - 1, [], by omega, by decide, pinned_zero _, i + 1, rfl, rfl, by omega, fun j b hj hb => ?_⟩
      by_cases e : j = i
      · subst e; rw [ha] at hb; cases hb; exact he
      · exact hne j b (by omega) hb
  · have t1 : leI (l.length : Nat) (i : Nat) = true := leI_true (by omega)
    simp -implicitDefEqProofs only [↓yP, yT, Nat.reduceAdd, Nat.reduceMul, Nat.reduceSub, Nat.reduceLeDiff, Nat.reduceEqDiff, reduceCtorEq, Nat.reduceBEq, List.length_map, t1]
    have : n ∉ l := fun hm => by
      obtain ⟨j, hj, he⟩ := List.getElem_of_mem hm
      exact hne j n (by omega) (by rw [List.getElem?_eq_getElem hj, he]) rfl
    simp [this]
end Go.Vx.Seat
end
/- strings.Contains, called among values. -/
section
open Go Go.Vx Go.Proofs
set_option linter.unusedVariables false
namespace Go.Vx.Seat
theorem contains_spec (s t : ByteArray) (hs : s.size < 4294967281) : PCall C1 35 [yd (.string s), yd (.string t)] fun y => y = yd (.bool (Lib.contains s.data.toList t.data.toList)) := by
  intro lo R h vals hl hR ha
  match vals, ha.1, ha with
  | [v0, v1], _, ha =>
    obtain ⟨rfl, _⟩ := VRep.dv (ha.2 0 _ _ rfl rfl) (show dv (yd (.string s)) = some (.string s) from rfl)
    obtain ⟨rfl, _⟩ := VRep.dv (ha.2 1 _ _ rfl rfl) (show dv (yd (.string t)) = some (.string t) from rfl)
    refine WCall_told (g := contG) (v := .bool (Lib.contains s.data.toList t.data.toList)) (h' := h) rfl (by simp only [contG, if_pos hs]) ⟨R, _, rfl, PRep.d rfl, Nat.le_refl _, fun _ _ => rfl, fun b hb => ⟨hR b hb, fun _ => hb⟩⟩
end Go.Vx.Seat
end
/- Which comments are kept: by both. -/
section
open Go Go.Vx Go.Proofs
set_option linter.unusedSimpArgs false
set_option linter.unusedVariables false
set_option maxRecDepth 10000
set_option maxHeartbeats 4000000
namespace Go.Vx.Seat
attribute [local congr] Rg_at Rt_at Ro_at Ri_at Rc_at Rto_at Rtk_at Rtf_at Rti_at
attribute [local irreducible] Rg Rt Ro Ri Rc Rto Rtk Rtf Rti Rw Rl Rd Rcall Rtcall kf
theorem fn36 : nth C1.P.funcs.toList 36 = some Try.f36 := by kernel_rfl
theorem fn13 : nth C1.P.funcs.toList 13 = some Try.f13 := by kernel_rfl
theorem fn12 : nth C1.P.funcs.toList 12 = some Try.f12 := by kernel_rfl
theorem fn34 : nth C1.P.funcs.toList 34 = some Try.f34 := by kernel_rfl
theorem fn58 : nth C1.P.funcs.toList 58 = some Try.f58 := by kernel_rfl
theorem xstr_eq2 (a b : ByteArray) : xstr .eql a b = some (.bool (strOf a == strOf b)) := rfl
theorem occ_take (s t : List UInt8) (i : Nat) : Lib.occAt s t i = ((s.drop i).take t.length == t) := by
  rw [Lib.occAt, Bool.eq_iff_iff, List.isPrefixOf_iff_prefix, List.prefix_iff_eq_take, beq_iff_eq]
  exact ⟨fun h => h.symm, fun h => h.symm⟩
theorem contains_hit {s t : List UInt8} {i : Nat} (h : ∀ j, j < i → Lib.occAt s t j = false) (hi : i ≤ s.length) (ho : Lib.occAt s t i = true) : Lib.contains s t = true := by
  rw [Lib.contains, Lib.index_first hi ho h]; simp
theorem contains_past {s t : List UInt8} {i : Nat} (ht : t ≠ []) (h : ∀ j, j < i → Lib.occAt s t j = false) (hi : s.length < i + t.length) : Lib.contains s t = false := by
  rw [Lib.contains, Lib.index_past ht h hi]; rfl
theorem hasX_spec (s t : ByteArray) (hs : (strOf s).length ≤ 100000000) (ht : (strOf t).length ≤ 100) (ht0 : strOf t ≠ []) : PCall C1 36 [yd (.string s), yd (.string t)] fun y => y = yd (.bool (Lib.contains (strOf s) (strOf t))) := by
  refine Pf (by rfl) (by rfl) fn36 (by rfl) ?_
  simp only [Try.f36, List.length_cons, List.length_nil, List.replicate, List.cons_append, List.nil_append]
  simp -implicitDefEqProofs only [↓yP, yT, Nat.reduceAdd, Nat.reduceMul, Nat.reduceSub, Nat.reduceLeDiff, Nat.reduceEqDiff, reduceCtorEq, Nat.reduceBEq]
  refine Rl_inv (fun d e st => ∃ (i : Nat), e = ([yd (.string s), yd (.string t), .c .top, .c .top, .c .top, yd (.int .i64 (i : Nat)), .c .top, .c .top, .c .top, .c .top, .c .top, .c .top, .c .top, .c .top, .c .top, .c .top, .c .top, .c .top, .c .top, .c .top, .c .top, .c .top, .c .top, .c .top]) ∧ st = [] ∧ i + d = (strOf s).length + 1 ∧ ∀ j, j < i → Lib.occAt (strOf s) (strOf t) j = false) [true, true, false, false, false, true] ((strOf s).length + 1) [] (by decide) (pinned_zero _) ⟨0, by (simp only [yE, Nat.reduceEqDiff, Nat.reduceAdd, reduceCtorEq]; try rfl), rfl, by omega, fun j hj => absurd hj (Nat.not_lt_zero j)⟩ ?_
  rintro d e st ⟨i, rfl, rfl, hd, hno⟩
  have w1 : wrapK .i64 ((i : Int) + 1) = ((i + 1 : Nat) : Int) := wrap_succ (by omega)
  have w2 : wrapK .i64 ((i : Int) + ((strOf t).length : Nat)) = ((i + (strOf t).length : Nat) : Int) := wrap_nat (i := i + (strOf t).length) (by omega)
  by_cases h : i + (strOf t).length ≤ (strOf s).length
  · have t1 : leI ((i + (strOf t).length : Nat) : Int) ((strOf s).length : Nat) = true := leI_true (by omega)
    have c1 : (0 : Int) ≤ (i : Nat) := by omega
    have c2 : ((i : Nat) : Int) ≤ ((i + (strOf t).length : Nat) : Int) := by omega
    have c3 : ((i + (strOf t).length : Nat) : Int) ≤ ((strOf s).length : Nat) := by omega
    have h3 : (strOf (strMk (((strOf s).drop i).take (i + (strOf t).length - i))) == strOf t) = Lib.occAt (strOf s) (strOf t) i := by
      rw [occ_take, show i + (strOf t).length - i = (strOf t).length by omega]; rfl
    cases h2 : Lib.occAt (strOf s) (strOf t) i with
    | true =>
      rw [h2] at h3
      simp -implicitDefEqProofs only [↓yP, yT, Nat.reduceAdd, Nat.reduceMul, Nat.reduceSub, Nat.reduceLeDiff, Nat.reduceEqDiff, reduceCtorEq, Nat.reduceBEq, opLen.eq_1, xindex.eq_1, xslice.eq_1, Int.toNat_natCast, w2, t1, c1, c2, c3, xstr_eq2, h3]
      rw [contains_hit hno (by omega) h2]
    | false =>
      rw [h2] at h3
      simp -implicitDefEqProofs only [↓yP, yT, Nat.reduceAdd, Nat.reduceMul, Nat.reduceSub, Nat.reduceLeDiff, Nat.reduceEqDiff, reduceCtorEq, Nat.reduceBEq, opLen.eq_1, xindex.eq_1, xslice.eq_1, Int.toNat_natCast, w1, w2, t1, c1, c2, c3, xstr_eq2, h3]
      refine ⟨d - 1, [], by omega, by decide, pinned_zero _, i + 1, by (simp only [yE, Nat.reduceEqDiff, Nat.reduceAdd, reduceCtorEq]; try rfl), by (simp only [yE, Nat.reduceEqDiff, Nat.reduceAdd, reduceCtorEq]; try rfl), by omega, fun j hj => ?_⟩
      by_cases e : j = i
      · rw [e]; exact h2
      · exact hno j (by omega)
  · have t1 : leI ((i + (strOf t).length : Nat) : Int) ((strOf s).length : Nat) = false := leI_false (by omega)
    simp -implicitDefEqProofs only [↓yP, yT, Nat.reduceAdd, Nat.reduceMul, Nat.reduceSub, Nat.reduceLeDiff, Nat.reduceEqDiff, reduceCtorEq, Nat.reduceBEq, opLen.eq_1, xindex.eq_1, xslice.eq_1, Int.toNat_natCast, w2, t1]
    rw [contains_past ht0 hno (by omega)]
end Go.Vx.Seat
end
/- Which comments are kept: the program's Keeps and the document's answer are one. -/
section
open Go Go.Vx Go.Proofs
set_option linter.unusedSimpArgs false
set_option linter.unusedVariables false
set_option maxRecDepth 10000
set_option maxHeartbeats 4000000
namespace Go.Vx.Seat
attribute [local congr] Rg_at Rt_at Ro_at Ri_at Rc_at Rto_at Rtk_at Rtf_at Rti_at
attribute [local irreducible] Rg Rt Ro Ri Rc Rto Rtk Rtf Rti Rw Rl Rd Rcall Rtcall kf
def bang : ByteArray := ⟨#[33]⟩
def licence : ByteArray := ⟨#[64, 108, 105, 99, 101, 110, 115, 101]⟩
def preserve : ByteArray := ⟨#[64, 112, 114, 101, 115, 101, 114, 118, 101]⟩
def bangs (l : List UInt8) : Bool := match l with | c :: _ => c == 33 | [] => false
def keepB (s : ByteArray) : Bool := bangs (strOf s) || (Lib.contains (strOf s) (strOf licence) || Lib.contains (strOf s) (strOf preserve))
theorem keepsR_spec (s : ByteArray) (hs : (strOf s).length ≤ 100000000) : PCall C1 13 [yd (.string s)] fun y => y = yd (.bool (keepB s)) := by
  have i00 : Int.toNat 0 = 0 := rfl
  have c0 : (0 : Int) ≤ 0 := by omega
  refine Pf (by rfl) (by rfl) fn13 (by rfl) ?_
  simp only [Try.f13, List.length_cons, List.length_nil, List.replicate, List.cons_append, List.nil_append]
  by_cases h : 0 < (strOf s).length
  · obtain ⟨c, hc⟩ := get_lt h
    have t1 : leI ((strOf s).length : Nat) 0 = false := leI_false (by omega)
    have hbe : bangs (strOf s) = eqI (c.toNat : Nat) 33 := by
      cases hl : strOf s with
      | nil => rw [hl] at h; simp at h
      | cons d r =>
        rw [hl] at hc; simp at hc; subst hc
        rw [bangs, eqI_eq, Bool.eq_iff_iff, beq_iff_eq, decide_eq_true_eq]
        constructor
        · intro e; rw [e]; rfl
        · intro e; apply UInt8.toNat_inj.mp; have : d.toNat = 33 := by omega
          rw [this]; rfl
    cases h1 : eqI (c.toNat : Nat) 33 with
    | true =>
      simp -implicitDefEqProofs only [↓yP, yT, Nat.reduceAdd, Nat.reduceMul, Nat.reduceSub, Nat.reduceLeDiff, Nat.reduceEqDiff, reduceCtorEq, Nat.reduceBEq, opLen.eq_1, xindex.eq_1, xslice.eq_1, Int.toNat_natCast, t1, c0, i00, hc, h1]
      rw [keepB, hbe, h1]; rfl
    | false =>
      have hb : bangs (strOf s) = false := by rw [hbe, h1]
      simp -implicitDefEqProofs only [↓yP, yT, Nat.reduceAdd, Nat.reduceMul, Nat.reduceSub, Nat.reduceLeDiff, Nat.reduceEqDiff, reduceCtorEq, Nat.reduceBEq, opLen.eq_1, xindex.eq_1, xslice.eq_1, Int.toNat_natCast, t1, c0, i00, hc, h1]
      refine Rcall_pure (hasX_spec s ⟨#[64, 108, 105, 99, 101, 110, 115, 101]⟩ hs (by decide) (by decide)) (by rfl) fun y hy => ?_
      subst hy
      cases k1 : Lib.contains (strOf s) (strOf ⟨#[64, 108, 105, 99, 101, 110, 115, 101]⟩) with
      | true =>
        simp -implicitDefEqProofs only [↓yP, yT, Nat.reduceAdd, Nat.reduceMul, Nat.reduceSub, Nat.reduceLeDiff, Nat.reduceEqDiff, reduceCtorEq, Nat.reduceBEq]
        rw [keepB, hb, licence, k1]; rfl
      | false =>
        simp -implicitDefEqProofs only [↓yP, yT, Nat.reduceAdd, Nat.reduceMul, Nat.reduceSub, Nat.reduceLeDiff, Nat.reduceEqDiff, reduceCtorEq, Nat.reduceBEq]
        refine Rcall_pure (hasX_spec s ⟨#[64, 112, 114, 101, 115, 101, 114, 118, 101]⟩ hs (by decide) (by decide)) (by rfl) fun y hy => ?_
        subst hy
        simp -implicitDefEqProofs only [↓yP, yT, Nat.reduceAdd, Nat.reduceMul, Nat.reduceSub, Nat.reduceLeDiff, Nat.reduceEqDiff, reduceCtorEq, Nat.reduceBEq]
        rw [keepB, hb, licence, k1, preserve]; rfl
  · have t1 : leI ((strOf s).length : Nat) 0 = true := leI_true (by omega)
    have hb : bangs (strOf s) = false := by
      cases hl : strOf s with
      | nil => rfl
      | cons d r => rw [hl] at h; simp at h
    simp -implicitDefEqProofs only [↓yP, yT, Nat.reduceAdd, Nat.reduceMul, Nat.reduceSub, Nat.reduceLeDiff, Nat.reduceEqDiff, reduceCtorEq, Nat.reduceBEq, opLen.eq_1, xindex.eq_1, xslice.eq_1, Int.toNat_natCast, t1]
    refine Rcall_pure (hasX_spec s ⟨#[64, 108, 105, 99, 101, 110, 115, 101]⟩ hs (by decide) (by decide)) (by rfl) fun y hy => ?_
    subst hy
    cases k1 : Lib.contains (strOf s) (strOf ⟨#[64, 108, 105, 99, 101, 110, 115, 101]⟩) with
    | true =>
      simp -implicitDefEqProofs only [↓yP, yT, Nat.reduceAdd, Nat.reduceMul, Nat.reduceSub, Nat.reduceLeDiff, Nat.reduceEqDiff, reduceCtorEq, Nat.reduceBEq]
      rw [keepB, hb, licence, k1]; rfl
    | false =>
      simp -implicitDefEqProofs only [↓yP, yT, Nat.reduceAdd, Nat.reduceMul, Nat.reduceSub, Nat.reduceLeDiff, Nat.reduceEqDiff, reduceCtorEq, Nat.reduceBEq]
      refine Rcall_pure (hasX_spec s ⟨#[64, 112, 114, 101, 115, 101, 114, 118, 101]⟩ hs (by decide) (by decide)) (by rfl) fun y hy => ?_
      subst hy
      simp -implicitDefEqProofs only [↓yP, yT, Nat.reduceAdd, Nat.reduceMul, Nat.reduceSub, Nat.reduceLeDiff, Nat.reduceEqDiff, reduceCtorEq, Nat.reduceBEq]
      rw [keepB, hb, licence, k1, preserve]; rfl
theorem strOf_toList (s : ByteArray) : strOf s = s.data.toList := rfl
theorem size_of {s : ByteArray} (hs : (strOf s).length ≤ 100000000) : s.size < 4294967281 := by
  have : (strOf s).length = s.size := strOf_length s
  omega
theorem prefix58 (s : ByteArray) (hs : (strOf s).length ≤ 100000000) : PCall C1 58 [yd (.string s), yd (.string ⟨#[33]⟩)] fun y => y = yd (.bool (bangs (strOf s))) := by
  have i11 : Int.toNat 1 = 1 := rfl
  have l1 : (strOf ⟨#[33]⟩).length = 1 := rfl
  have c1 : (0 : Int) ≤ 1 := by omega
  have c0 : (0 : Int) ≤ 0 := by omega
  have i00 : Int.toNat 0 = 0 := rfl
  refine Pf (by rfl) (by rfl) fn58 (by rfl) ?_
  simp only [Try.f58, List.length_cons, List.length_nil, List.replicate, List.cons_append, List.nil_append]
  by_cases h : 0 < (strOf s).length
  · have t1 : leI 1 ((strOf s).length : Nat) = true := leI_true (by omega)
    have c2 : (1 : Int) ≤ ((strOf s).length : Nat) := by omega
    have hb : (strOf (strMk ((strOf s).take 1)) == strOf ⟨#[33]⟩) = bangs (strOf s) := by
      cases hl : strOf s with
      | nil => rw [hl] at h; simp at h
      | cons d r =>
        show ([d] == [33]) = (d == 33)
        rw [Bool.eq_iff_iff]; simp
    simp -implicitDefEqProofs only [↓yP, yT, Nat.reduceAdd, Nat.reduceMul, Nat.reduceSub, Nat.reduceLeDiff, Nat.reduceEqDiff, reduceCtorEq, Nat.reduceBEq, opLen.eq_1, xindex.eq_1, xslice.eq_1, Int.toNat_natCast, l1, t1, c0, c1, c2, i00, i11, Int.ofNat_one, Int.natCast_one, xstr_eq2]
    rw [hb]
  · have t1 : leI 1 ((strOf s).length : Nat) = false := leI_false (by omega)
    have hb : bangs (strOf s) = false := by
      cases hl : strOf s with
      | nil => rfl
      | cons d r => rw [hl] at h; simp at h
    simp -implicitDefEqProofs only [↓yP, yT, Nat.reduceAdd, Nat.reduceMul, Nat.reduceSub, Nat.reduceLeDiff, Nat.reduceEqDiff, reduceCtorEq, Nat.reduceBEq, opLen.eq_1, xindex.eq_1, xslice.eq_1, Int.toNat_natCast, l1, t1, Int.ofNat_one, Int.natCast_one]
    rw [hb]
theorem prefix34 (s : ByteArray) (hs : (strOf s).length ≤ 100000000) : PCall C1 34 [yd (.string s), yd (.string ⟨#[33]⟩)] fun y => y = yd (.bool (bangs (strOf s))) := by
  refine Pf (by rfl) (by rfl) fn34 (by rfl) ?_
  simp only [Try.f34, List.length_cons, List.length_nil, List.replicate, List.cons_append, List.nil_append]
  simp -implicitDefEqProofs only [↓yP, yT, Nat.reduceAdd, Nat.reduceMul, Nat.reduceSub, Nat.reduceLeDiff, Nat.reduceEqDiff, reduceCtorEq, Nat.reduceBEq]
  refine Rcall_pure (prefix58 s hs) (by rfl) fun y hy => ?_
  subst hy
  simp -implicitDefEqProofs only [↓yP, yT, Nat.reduceAdd, Nat.reduceMul, Nat.reduceSub, Nat.reduceLeDiff, Nat.reduceEqDiff, reduceCtorEq, Nat.reduceBEq]
theorem keepsC_spec (s : ByteArray) (hs : (strOf s).length ≤ 100000000) : PCall C1 12 [yd (.string s)] fun y => y = yd (.bool (keepB s)) := by
  refine Pf (by rfl) (by rfl) fn12 (by rfl) ?_
  simp only [Try.f12, List.length_cons, List.length_nil, List.replicate, List.cons_append, List.nil_append]
  simp -implicitDefEqProofs only [↓yP, yT, Nat.reduceAdd, Nat.reduceMul, Nat.reduceSub, Nat.reduceLeDiff, Nat.reduceEqDiff, reduceCtorEq, Nat.reduceBEq]
  refine Rcall_pure (prefix34 s hs) (by rfl) fun y hy => ?_
  subst hy
  cases hb : bangs (strOf s) with
  | true =>
    simp -implicitDefEqProofs only [↓yP, yT, Nat.reduceAdd, Nat.reduceMul, Nat.reduceSub, Nat.reduceLeDiff, Nat.reduceEqDiff, reduceCtorEq, Nat.reduceBEq]
    rw [keepB, hb]; rfl
  | false =>
    simp -implicitDefEqProofs only [↓yP, yT, Nat.reduceAdd, Nat.reduceMul, Nat.reduceSub, Nat.reduceLeDiff, Nat.reduceEqDiff, reduceCtorEq, Nat.reduceBEq]
    refine Rcall_pure (contains_spec s ⟨#[64, 108, 105, 99, 101, 110, 115, 101]⟩ (size_of hs)) (by rfl) fun y hy => ?_
    subst hy
    cases k1 : Lib.contains s.data.toList [64, 108, 105, 99, 101, 110, 115, 101] with
    | true =>
      simp -implicitDefEqProofs only [↓yP, yT, Nat.reduceAdd, Nat.reduceMul, Nat.reduceSub, Nat.reduceLeDiff, Nat.reduceEqDiff, reduceCtorEq, Nat.reduceBEq, k1]
      rw [keepB, hb]; show _ = yd (.bool (false || (Lib.contains s.data.toList [64, 108, 105, 99, 101, 110, 115, 101] || _))); rw [k1]; rfl
    | false =>
      simp -implicitDefEqProofs only [↓yP, yT, Nat.reduceAdd, Nat.reduceMul, Nat.reduceSub, Nat.reduceLeDiff, Nat.reduceEqDiff, reduceCtorEq, Nat.reduceBEq, k1]
      refine Rcall_pure (contains_spec s ⟨#[64, 112, 114, 101, 115, 101, 114, 118, 101]⟩ (size_of hs)) (by rfl) fun y hy => ?_
      subst hy
      simp -implicitDefEqProofs only [↓yP, yT, Nat.reduceAdd, Nat.reduceMul, Nat.reduceSub, Nat.reduceLeDiff, Nat.reduceEqDiff, reduceCtorEq, Nat.reduceBEq]
      rw [keepB, hb]; show _ = yd (.bool (false || (Lib.contains s.data.toList [64, 108, 105, 99, 101, 110, 115, 101] || _))); rw [k1]; rfl
end Go.Vx.Seat
end
/- Behind which tokens must a blank stay: both agree. -/
section
open Go Go.Vx Go.Proofs
set_option linter.unusedSimpArgs false
set_option linter.unusedVariables false
set_option maxRecDepth 10000
set_option maxHeartbeats 4000000
namespace Go.Vx.Seat
attribute [local congr] Rg_at Rt_at Ro_at Ri_at Rc_at Rto_at Rtk_at Rtf_at Rti_at
attribute [local irreducible] Rg Rt Ro Ri Rc Rto Rtk Rtf Rti Rw Rl Rd Rcall Rtcall kf
theorem fn41 : nth C1.P.funcs.toList 41 = some Try.f41 := by kernel_rfl
theorem fn60 : nth C1.P.funcs.toList 60 = some Try.f60 := by kernel_rfl
def lineB (t : Tok) : Bool := eqI t.kind 6 || (eqI t.kind 9 && (strOf t.text == strOf ⟨#[92]⟩))
theorem lineX_spec (t : Tok) : PCall C1 41 [t.yv] fun y => y = yd (.bool (lineB t)) := by
  refine Pf (by rfl) (by rfl) fn41 (by rfl) ?_
  simp only [Try.f41, List.length_cons, List.length_nil, List.replicate, List.cons_append, List.nil_append]
  simp only [Tok.yv, Tok.cs, Tok.pc, List.map_cons, List.map_nil]
  unfold lineB
  cases h1 : eqI t.kind 6 <;> cases h2 : eqI t.kind 9 <;> cases h3 : (strOf t.text == strOf ⟨#[92]⟩)
  all_goals
    simp -implicitDefEqProofs only [↓yP, yT, Nat.reduceAdd, Nat.reduceMul, Nat.reduceSub, Nat.reduceLeDiff, Nat.reduceEqDiff, reduceCtorEq, Nat.reduceBEq, opLen.eq_1, xindex.eq_1, xslice.eq_1, Int.toNat_natCast, h1, h2, h3, xstr_eq2]
  all_goals rfl
theorem must_spec (t : Tok) : PCall C1 60 [t.yv] fun y => y = yd (.bool (lineB t)) := by
  refine Pf (by rfl) (by rfl) fn60 (by rfl) ?_
  simp only [Try.f60, List.length_cons, List.length_nil, List.replicate, List.cons_append, List.nil_append]
  simp only [Tok.yv, Tok.cs, Tok.pc, List.map_cons, List.map_nil]
  unfold lineB
  cases h1 : eqI t.kind 6 <;> cases h2 : eqI t.kind 9 <;> cases h3 : (strOf t.text == strOf ⟨#[92]⟩)
  all_goals
    simp -implicitDefEqProofs only [↓yP, yT, Nat.reduceAdd, Nat.reduceMul, Nat.reduceSub, Nat.reduceLeDiff, Nat.reduceEqDiff, reduceCtorEq, Nat.reduceBEq, opLen.eq_1, xindex.eq_1, xslice.eq_1, Int.toNat_natCast, h1, h2, h3, xstr_eq2]
  all_goals rfl
end Go.Vx.Seat
end
/- blocks, part, Nest. -/
section
open Go Go.Vx Go.Proofs
set_option linter.unusedSimpArgs false
set_option linter.unusedVariables false
set_option maxRecDepth 10000
set_option maxHeartbeats 4000000
namespace Go.Vx.Seat
attribute [local congr] Rg_at Rt_at Ro_at Ri_at Rc_at Rto_at Rtk_at Rtf_at Rti_at
attribute [local irreducible] Rg Rt Ro Ri Rc Rto Rtk Rtf Rti Rw Rl Rd Rcall Rtcall kf
theorem fn30 : nth C1.P.funcs.toList 30 = some Try.f30 := by kernel_rfl
def allBlocks (l : List Int) : Bool := l.all fun k => decide (k = 20)
theorem blocks_spec (l : List Int) (hl : l.length ≤ 100000000) : PCall C1 31 [.c (.p (rI l))] fun y => y = yd (.bool (allBlocks l)) := by
  refine Pf (by rfl) (by rfl) fn31 (by rfl) ?_
  simp only [Try.f31, List.length_cons, List.length_nil, List.replicate, List.cons_append, List.nil_append]
  simp -implicitDefEqProofs only [↓yP, yT, Nat.reduceAdd, Nat.reduceMul, Nat.reduceSub, Nat.reduceLeDiff, Nat.reduceEqDiff, reduceCtorEq, Nat.reduceBEq]
  refine Rl_inv (fun d e s => ∃ i : Nat, e = [.c (.p (rI l)), .c .top, .c .top, yd (.int .i64 i), .c .top, .c .top, .c .top, .c .top, .c .top, .c .top, .c .top, .c .top, .c .top, .c .top, .c .top] ∧ s = [] ∧ i + d = l.length ∧ ∀ (j : Nat) (a : Int), j < i → l[j]? = some a → a = 20) [true, false, false, true] l.length [] (by decide) (pinned_zero _) ⟨0, rfl, rfl, by omega, fun j a hj => by omega⟩ ?_
  rintro d e s ⟨i, rfl, rfl, hd, hne⟩
  by_cases hi : i < l.length
  · obtain ⟨a, ha⟩ := get_lt hi
    have t1 : leI (l.length : Nat) (i : Nat) = false := leI_false (by omega)
    by_cases he : a = 20
    · simp -implicitDefEqProofs only [↓yP, yT, Nat.reduceAdd, Nat.reduceMul, Nat.reduceSub, Nat.reduceLeDiff, Nat.reduceEqDiff, reduceCtorEq, Nat.reduceBEq, t1, nn, Int.toNat_natCast, get_map ha, ei, he, eqI_true, wrap_succ (show i < 9000000000000000000 by omega)]
      refine ⟨d - 1, [], by omega, by decide, pinned_zero _, i + 1, rfl, rfl, by omega, fun j b hj hb => ?_⟩
      by_cases e : j = i
      · subst e; rw [ha] at hb; cases hb; exact he
      · exact hne j b (by omega) hb
    · simp -implicitDefEqProofs only [↓yP, yT, Nat.reduceAdd, Nat.reduceMul, Nat.reduceSub, Nat.reduceLeDiff, Nat.reduceEqDiff, reduceCtorEq, Nat.reduceBEq, t1, nn, Int.toNat_natCast, get_map ha, ei, eqI_false he]
      have : allBlocks l = false := by
        rw [allBlocks, List.all_eq_false]
        exact ⟨a, List.mem_of_getElem? ha, by simp [he]⟩
      simp [this]
  · have t1 : leI (l.length : Nat) (i : Nat) = true := leI_true (by omega)
    simp -implicitDefEqProofs only [↓yP, yT, Nat.reduceAdd, Nat.reduceMul, Nat.reduceSub, Nat.reduceLeDiff, Nat.reduceEqDiff, reduceCtorEq, Nat.reduceBEq, t1]
    have : allBlocks l = true := by
      rw [allBlocks, List.all_eq_true]
      intro k hk
      obtain ⟨j, hj, he⟩ := List.getElem_of_mem hk
      simp [hne j k (by omega) (by rw [List.getElem?_eq_getElem hj, he])]
    simp [this]

theorem part_spec (ts : List Tok) (rows : List (List Int)) (i : Nat) (t : Tok) (r : List Int) (hi : ts[i]? = some t) (hr : rows[i]? = some r) (hb : r.length ≤ 100000000) :
    PCall C1 32 [.c (.p (rT ts)), .c (.p (rII rows)), yd (.int .i64 i)] fun y => y = yd (.bool (partK t.kind && allBlocks r)) := by
  refine Pf (by rfl) (by rfl) fn32 (by rfl) ?_
  simp only [Try.f32, List.length_cons, List.length_nil, List.replicate, List.cons_append, List.nil_append]
  unfold partK
  by_cases k1 : t.kind = 19
  · have e1 : eqI t.kind 19 = true := by rw [k1]; rfl
    simp -implicitDefEqProofs only [↓yP, yT, Nat.reduceAdd, Nat.reduceMul, Nat.reduceSub, Nat.reduceLeDiff, Nat.reduceEqDiff, reduceCtorEq, Nat.reduceBEq, nn, Int.toNat_natCast, get_map hi, get_map hr, Tok.pc, e2, e1]
    refine Rcall_pure (blocks_spec r hb) (by rfl) fun y hy => ?_
    subst hy
    simp -implicitDefEqProofs only [↓yP, yT, Nat.reduceAdd, Nat.reduceMul, Nat.reduceSub, Nat.reduceLeDiff, Nat.reduceEqDiff, reduceCtorEq, Nat.reduceBEq]
    simp [k1]
  have e1 : eqI t.kind 19 = false := eqI_false k1
  by_cases k2 : t.kind = 20
  · have e2' : eqI t.kind 20 = true := by rw [k2]; rfl
    simp -implicitDefEqProofs only [↓yP, yT, Nat.reduceAdd, Nat.reduceMul, Nat.reduceSub, Nat.reduceLeDiff, Nat.reduceEqDiff, reduceCtorEq, Nat.reduceBEq, nn, Int.toNat_natCast, get_map hi, get_map hr, Tok.pc, e2, e1, e2']
    refine Rcall_pure (blocks_spec r hb) (by rfl) fun y hy => ?_
    subst hy
    simp -implicitDefEqProofs only [↓yP, yT, Nat.reduceAdd, Nat.reduceMul, Nat.reduceSub, Nat.reduceLeDiff, Nat.reduceEqDiff, reduceCtorEq, Nat.reduceBEq]
    simp [k2]
  have e2' : eqI t.kind 20 = false := eqI_false k2
  by_cases k3 : t.kind = 17
  · have e3 : eqI t.kind 17 = true := by rw [k3]; rfl
    simp -implicitDefEqProofs only [↓yP, yT, Nat.reduceAdd, Nat.reduceMul, Nat.reduceSub, Nat.reduceLeDiff, Nat.reduceEqDiff, reduceCtorEq, Nat.reduceBEq, nn, Int.toNat_natCast, get_map hi, get_map hr, Tok.pc, e2, e1, e2', e3]
    refine Rcall_pure (blocks_spec r hb) (by rfl) fun y hy => ?_
    subst hy
    simp -implicitDefEqProofs only [↓yP, yT, Nat.reduceAdd, Nat.reduceMul, Nat.reduceSub, Nat.reduceLeDiff, Nat.reduceEqDiff, reduceCtorEq, Nat.reduceBEq]
    simp [k3]
  · have e3 : eqI t.kind 17 = false := eqI_false k3
    simp -implicitDefEqProofs only [↓yP, yT, Nat.reduceAdd, Nat.reduceMul, Nat.reduceSub, Nat.reduceLeDiff, Nat.reduceEqDiff, reduceCtorEq, Nat.reduceBEq, nn, Int.toNat_natCast, get_map hi, get_map hr, Tok.pc, e2, e1, e2', e3]
    simp [k1, k2, k3]

/-- What is open behind a token of a kind. -/
def nestStep (o : List Int) (k : Int) : List Int :=
  if o.getLast? = some k then o.dropLast else if closes k > 0 then o ++ [closes k] else o
/-- What is open ahead of a place. -/
def openAt (ts : List Tok) : Nat → List Int
  | 0 => []
  | i + 1 => match ts[i]? with | some t => nestStep (openAt ts i) t.kind | none => openAt ts i
def nest (ts : List Tok) : List (List Int) := (List.range ts.length).map (openAt ts)
theorem nestStep_length (o : List Int) (k : Int) : (nestStep o k).length ≤ o.length + 1 := by
  unfold nestStep
  split
  · simp; omega
  · split
    · simp
    · omega
theorem openAt_length (ts : List Tok) : ∀ i, (openAt ts i).length ≤ i
  | 0 => by simp [openAt]
  | i + 1 => by
    have := openAt_length ts i
    unfold openAt
    split
    · rename_i t _
      have := nestStep_length (openAt ts i) t.kind
      omega
    · omega
theorem nest_length (ts : List Tok) : (nest ts).length = ts.length := by simp [nest]
theorem nest_at (ts : List Tok) {i : Nat} (hi : i < ts.length) : (nest ts)[i]? = some (openAt ts i) := by
  simp [nest, hi]
theorem openAt_succ {ts : List Tok} {i : Nat} {t : Tok} (h : ts[i]? = some t) : openAt ts (i + 1) = nestStep (openAt ts i) t.kind := by
  rw [openAt, h]
end Go.Vx.Seat
end
/- Nest: the walk. -/
section
open Go Go.Vx Go.Proofs
set_option linter.unusedSimpArgs false
set_option linter.unusedVariables false
set_option maxRecDepth 10000
set_option maxHeartbeats 4000000
namespace Go.Vx.Seat
attribute [local congr] Rg_at Rt_at Ro_at Ri_at Rc_at Rto_at Rtk_at Rtf_at Rti_at
attribute [local irreducible] Rg Rt Ro Ri Rc Rto Rtk Rtf Rti Rw Rl Rd Rcall Rtcall kf
def opens (ts : List Tok) (i : Nat) : List (List PC) := (List.range i).map fun j => e2 (openAt ts j)
theorem opens_length (ts : List Tok) (i : Nat) : (opens ts i).length = i := by simp [opens]
theorem opens_succ (ts : List Tok) (i : Nat) : opens ts (i + 1) = opens ts i ++ [e2 (openAt ts i)] := by simp [opens, List.range_succ]
theorem opens_take (ts : List Tok) (i : Nat) : (opens ts i).take i = opens ts i := List.take_of_length_le (by rw [opens_length]; omega)

theorem opens_nest (ts : List Tok) : opens ts ts.length = (nest ts).map e2 := by simp [opens, nest]
theorem nest_take (ts : List Tok) : ((nest ts).map e2).take ts.length = (nest ts).map e2 := List.take_of_length_le (by simp [nest_length])
theorem nest_spec (ts : List Tok) (hl : ts.length ≤ 1000000) : PCall C1 30 [.c (.p (rT ts))] fun y => y = .c (.p (rII (nest ts))) := by
  refine Pf (by rfl) (by rfl) fn30 (by rfl) ?_
  simp only [Try.f30, List.length_cons, List.length_nil, List.replicate, List.cons_append, List.nil_append]
  simp -implicitDefEqProofs only [↓yP, yT, Nat.reduceAdd, Nat.reduceMul, Nat.reduceSub, Nat.reduceLeDiff, Nat.reduceEqDiff, reduceCtorEq, Nat.reduceBEq]
  refine Rl_nil 3 1 (by decide) rfl ?_
  refine Rl_nil0 4 1 rfl ?_
  refine Rl_inv (fun d e s => ∃ i : Nat, e = [.c (.p (rT ts)), .c .top, .c .top, .c (.own 0 1 0 i), .c (.p (rI (openAt ts i))), yd (.int .i64 i), .c .top, .c .top, .c .top, .c .top, .c .top, .c .top, .c .top, .c .top, .c .top, .c .top, .c .top, .c .top, .c .top, .c .top, .c .top, .c .top, .c .top, .c .top, .c .top, .c .top, .c .top, .c .top, .c .top, .c .top, .c .top, .c .top, .c .top, .c .top, .c .top, .c .top, .c .top, .c .top, .c .top, .c .top, .c .top, .c .top, .c .top, .c .top, .c .top, .c .top, .c .top, .c .top, .c .top, .c .top, .c .top, .c .top, .c .top, .c .top, .c .top, .c .top, .c .top, .c .top] ∧ s = [.row 1 (opens ts i)] ∧ i + d = ts.length) [true, false, false, true, true, true] ts.length [0] (by decide) (pinned_zero _) ⟨0, rfl, rfl, by omega⟩ ?_
  rintro d e s ⟨i, rfl, rfl, hd⟩
  have hol := openAt_length ts i
  by_cases hi : i < ts.length
  · obtain ⟨t, ht⟩ := get_lt hi
    have t1 : leI (ts.length : Nat) (i : Nat) = false := leI_false (by omega)
    have b1 : (openAt ts i).length * 8 ≤ 70368744177664 := by omega
    have b2 : (i + 1) * 24 ≤ 70368744177664 := by omega
    have b3 : i ≤ (opens ts i).length := by rw [opens_length]; omega
    simp -implicitDefEqProofs only [↓yP, yT, Nat.reduceAdd, Nat.reduceMul, Nat.reduceSub, Nat.reduceLeDiff, Nat.reduceEqDiff, reduceCtorEq, Nat.reduceBEq, t1, b1, b2, b3]
    refine Rd_calm (by rw [C1_P]; kernel_rfl) ?_
    have w1 : wrapK .i64 ((i : Int) + 1) = ((i + 1 : Nat) : Int) := wrap_succ (by omega)
    have hsucc := openAt_succ ht
    rcases hol0 : (openAt ts i).getLast? with _ | c
    · have ho : openAt ts i = [] := by simpa using hol0
      have t2 : leI ((openAt ts i).length : Nat) 0 = true := by rw [ho]; rfl
      simp -implicitDefEqProofs only [↓yP, yT, Nat.reduceAdd, Nat.reduceMul, Nat.reduceSub, Nat.reduceLeDiff, Nat.reduceEqDiff, reduceCtorEq, Nat.reduceBEq, t2, nn, Int.toNat_natCast, get_map ht, Tok.pc]
      refine Rcall_pure (closes_spec t.kind) (by rfl) fun y hy => ?_
      subst hy
      by_cases hc : closes t.kind > 0
      · have t3 : leI (closes t.kind) 0 = false := leI_false (by omega)
        have b4 : ((openAt ts i).length + 1) * 8 ≤ 70368744177664 := by omega
        simp -implicitDefEqProofs only [↓yP, yT, Nat.reduceAdd, Nat.reduceMul, Nat.reduceSub, Nat.reduceLeDiff, Nat.reduceEqDiff, reduceCtorEq, Nat.reduceBEq, t3]
        refine Rd_trace ?_
        simp -implicitDefEqProofs only [↓yP, yT, Nat.reduceAdd, Nat.reduceMul, Nat.reduceSub, Nat.reduceLeDiff, Nat.reduceEqDiff, reduceCtorEq, Nat.reduceBEq, nn, Int.toNat_natCast, get_map ht, Tok.pc, b1]
        refine Rtcall_pure (closes_spec t.kind) (by rfl) fun y hy => ?_
        subst hy
        simp -implicitDefEqProofs only [↓yP, yT, Nat.reduceAdd, Nat.reduceMul, Nat.reduceSub, Nat.reduceLeDiff, Nat.reduceEqDiff, reduceCtorEq, Nat.reduceBEq, b4, w1]
        have hs2 : openAt ts (i + 1) = openAt ts i ++ [closes t.kind] := by rw [hsucc, nestStep, hol0, if_neg (by simp), if_pos hc]
        refine ⟨d - 1, [3], by omega, by decide, pinned_zero _, i + 1, ?_, ?_, by omega⟩
        · simp only [yE, Nat.reduceEqDiff, Nat.reduceAdd, reduceCtorEq, hs2, rI, List.map_append, ei]
        · simp only [yE, Nat.reduceEqDiff, Nat.reduceAdd, reduceCtorEq, opens_succ, opens_take, e2]
      · have t3 : leI (closes t.kind) 0 = true := leI_true (by omega)
        simp -implicitDefEqProofs only [↓yP, yT, Nat.reduceAdd, Nat.reduceMul, Nat.reduceSub, Nat.reduceLeDiff, Nat.reduceEqDiff, reduceCtorEq, Nat.reduceBEq, t3, w1]
        have hs2 : openAt ts (i + 1) = openAt ts i := by rw [hsucc, nestStep, hol0, if_neg (by simp), if_neg hc]
        refine ⟨d - 1, [3], by omega, by decide, pinned_zero _, i + 1, ?_, ?_, by omega⟩
        · simp only [yE, Nat.reduceEqDiff, Nat.reduceAdd, reduceCtorEq, hs2]
        · simp only [yE, Nat.reduceEqDiff, Nat.reduceAdd, reduceCtorEq, opens_succ, opens_take, e2]
    · have ho : (openAt ts i).length ≠ 0 := by intro h0; rw [List.length_eq_zero_iff.mp h0] at hol0; cases hol0
      have t2 : leI ((openAt ts i).length : Nat) 0 = false := leI_false (by omega)
      have w2 : wrapK .i64 (((openAt ts i).length : Int) - 1) = (((openAt ts i).length - 1 : Nat) : Int) := wrap_pred (by omega) (by omega)
      have hlast : (openAt ts i)[(openAt ts i).length - 1]? = some c := by rw [← List.getLast?_eq_getElem?]; exact hol0
      by_cases hck : c = t.kind
      · subst hck
        have b5 : ((openAt ts i).length - 1) * 8 ≤ 70368744177664 := by omega
        have b6 : (openAt ts i).length - 1 ≤ (openAt ts i).length := by omega
        have l6 : (((openAt ts i).length - 1 : Nat) : Int) ≤ ((openAt ts i).length : Nat) := by omega
        have hs2 : openAt ts (i + 1) = (openAt ts i).take ((openAt ts i).length - 1) := by rw [hsucc, nestStep, hol0, if_pos rfl, List.dropLast_eq_take]
        have hm : min ((openAt ts i).length - 1) (openAt ts i).length = (openAt ts i).length - 1 := by omega
        simp -implicitDefEqProofs only [↓yP, yT, Nat.reduceAdd, Nat.reduceMul, Nat.reduceSub, Nat.reduceLeDiff, Nat.reduceEqDiff, reduceCtorEq, Nat.reduceBEq, t2, w1, w2, nn, Int.toNat_natCast, get_map ht, get_map hlast, ei, Tok.pc, eqI_true, b5, l6, Int.toNat_zero, Nat.sub_zero, Int.le_refl, List.length_take, hm]
        refine ⟨d - 1, [3], by omega, by decide, pinned_zero _, i + 1, ?_, ?_, by omega⟩
        · simp only [yE, Nat.reduceEqDiff, Nat.reduceAdd, reduceCtorEq, hs2, List.length_take, hm, List.take_take, Nat.min_self, rI, List.map_take]
        · simp only [yE, Nat.reduceEqDiff, Nat.reduceAdd, reduceCtorEq, opens_succ, opens_take, e2]
      · have e1 : eqI c t.kind = false := eqI_false hck
        simp -implicitDefEqProofs only [↓yP, yT, Nat.reduceAdd, Nat.reduceMul, Nat.reduceSub, Nat.reduceLeDiff, Nat.reduceEqDiff, reduceCtorEq, Nat.reduceBEq, t2, w2, nn, Int.toNat_natCast, get_map ht, get_map hlast, ei, Tok.pc, e1]
        refine Rcall_pure (closes_spec t.kind) (by rfl) fun y hy => ?_
        subst hy
        by_cases hc : closes t.kind > 0
        · have t3 : leI (closes t.kind) 0 = false := leI_false (by omega)
          have b4 : ((openAt ts i).length + 1) * 8 ≤ 70368744177664 := by omega
          simp -implicitDefEqProofs only [↓yP, yT, Nat.reduceAdd, Nat.reduceMul, Nat.reduceSub, Nat.reduceLeDiff, Nat.reduceEqDiff, reduceCtorEq, Nat.reduceBEq, t3]
          refine Rd_trace ?_
          simp -implicitDefEqProofs only [↓yP, yT, Nat.reduceAdd, Nat.reduceMul, Nat.reduceSub, Nat.reduceLeDiff, Nat.reduceEqDiff, reduceCtorEq, Nat.reduceBEq, nn, Int.toNat_natCast, get_map ht, Tok.pc, b1]
          refine Rtcall_pure (closes_spec t.kind) (by rfl) fun y hy => ?_
          subst hy
          simp -implicitDefEqProofs only [↓yP, yT, Nat.reduceAdd, Nat.reduceMul, Nat.reduceSub, Nat.reduceLeDiff, Nat.reduceEqDiff, reduceCtorEq, Nat.reduceBEq, b4, w1]
          have hs2 : openAt ts (i + 1) = openAt ts i ++ [closes t.kind] := by rw [hsucc, nestStep, hol0, if_neg (by simpa using hck), if_pos hc]
          refine ⟨d - 1, [3], by omega, by decide, pinned_zero _, i + 1, ?_, ?_, by omega⟩
          · simp only [yE, Nat.reduceEqDiff, Nat.reduceAdd, reduceCtorEq, hs2, rI, List.map_append, ei]
          · simp only [yE, Nat.reduceEqDiff, Nat.reduceAdd, reduceCtorEq, opens_succ, opens_take, e2]
        · have t3 : leI (closes t.kind) 0 = true := leI_true (by omega)
          simp -implicitDefEqProofs only [↓yP, yT, Nat.reduceAdd, Nat.reduceMul, Nat.reduceSub, Nat.reduceLeDiff, Nat.reduceEqDiff, reduceCtorEq, Nat.reduceBEq, t3, w1]
          have hs2 : openAt ts (i + 1) = openAt ts i := by rw [hsucc, nestStep, hol0, if_neg (by simpa using hck), if_neg hc]
          refine ⟨d - 1, [3], by omega, by decide, pinned_zero _, i + 1, ?_, ?_, by omega⟩
          · simp only [yE, Nat.reduceEqDiff, Nat.reduceAdd, reduceCtorEq, hs2]
          · simp only [yE, Nat.reduceEqDiff, Nat.reduceAdd, reduceCtorEq, opens_succ, opens_take, e2]
  · have t1 : leI (ts.length : Nat) (i : Nat) = true := leI_true (by omega)
    have : i = ts.length := by omega
    subst this
    simp -implicitDefEqProofs only [↓yP, yT, Nat.reduceAdd, Nat.reduceMul, Nat.reduceSub, Nat.reduceLeDiff, Nat.reduceEqDiff, reduceCtorEq, Nat.reduceBEq, t1, opens_nest, Nat.le_of_eq (nest_length ts).symm, nest_take]
end Go.Vx.Seat
end
/- The document's Colons. -/
section
open Go Go.Vx Go.Proofs
set_option linter.unusedSimpArgs false
set_option linter.unusedVariables false
set_option maxRecDepth 10000
set_option maxHeartbeats 4000000
namespace Go.Vx.Seat
attribute [local congr] Rg_at Rt_at Ro_at Ri_at Rc_at Rto_at Rtk_at Rtf_at Rti_at
attribute [local irreducible] Rg Rt Ro Ri Rc Rto Rtk Rtf Rti Rw Rl Rd Rcall Rtcall kf
theorem fn11 : nth C1.P.funcs.toList 11 = some Try.f11 := by kernel_rfl
def kindAt (ts : List Tok) (i : Nat) : Int := match ts[i]? with | some t => t.kind | none => 0
theorem kindAt_some {ts : List Tok} {i : Nat} {t : Tok} (h : ts[i]? = some t) : kindAt ts i = t.kind := by rw [kindAt, h]
/-- Does a token part, where it stands? -/
def partAt (ts : List Tok) (i : Nat) : Bool := partK (kindAt ts i) && allBlocks (openAt ts i)
/-- How many names and how many other tokens there are since the last part. -/
def back (ts : List Tok) : Nat → Nat → Nat → Nat × Nat
  | 0, a, b => (a, b)
  | n + 1, a, b => if partAt ts n = true then (a, b) else if quiet (kindAt ts n) = true then back ts n a b else if kindAt ts n = 1 then back ts n (a + 1) b else back ts n a (b + 1)
/-- Does what is behind end without a block? -/
def behind (ts : List Tok) (i : Nat) : Nat → Nat → Bool
  | 0, _ => true
  | d + 1, k => if (openAt ts k).length = (openAt ts i).length ∧ partK (kindAt ts k) = true then !decide (kindAt ts k = 19) else behind ts i d (k + 1)
def docColon (ts : List Tok) (i : Nat) : Bool := decide (kindAt ts i = 16) && decide ((openAt ts i).length ≠ 0) && allBlocks (openAt ts i) && decide (back ts i 0 0 = (1, 0)) && behind ts i (ts.length - (i + 1)) (i + 1)
def colonsTo (ts : List Tok) (n : Nat) : List Int := ((List.range n).filter (docColon ts)).map fun i : Nat => (i : Int)
theorem colonsTo_yes {ts : List Tok} {n : Nat} (h : docColon ts n = true) : colonsTo ts (n + 1) = colonsTo ts n ++ [(n : Int)] := by simp [colonsTo, List.range_succ, h]
theorem colonsTo_no {ts : List Tok} {n : Nat} (h : docColon ts n = false) : colonsTo ts (n + 1) = colonsTo ts n := by simp [colonsTo, List.range_succ, h]
theorem colonsTo_length (ts : List Tok) (n : Nat) : (colonsTo ts n).length ≤ n := by
  have := List.length_filter_le (docColon ts) (List.range n)
  simpa [colonsTo] using this

theorem colons_spec (ts : List Tok) (hl : ts.length ≤ 1000000) : PCall C1 11 [.c (.p (rT ts))] fun y => y = .c (.p (rI (colonsTo ts ts.length))) := by
  refine Pf (by rfl) (by rfl) fn11 (by rfl) ?_
  simp only [Try.f11, List.length_cons, List.length_nil, List.replicate, List.cons_append, List.nil_append]
  simp -implicitDefEqProofs only [↓yP, yT, Nat.reduceAdd, Nat.reduceMul, Nat.reduceSub, Nat.reduceLeDiff, Nat.reduceEqDiff, reduceCtorEq, Nat.reduceBEq]
  refine Rcall_pure (nest_spec ts hl) (by rfl) fun y hy => ?_
  subst hy
  simp -implicitDefEqProofs only [↓yP, yT, Nat.reduceAdd, Nat.reduceMul, Nat.reduceSub, Nat.reduceLeDiff, Nat.reduceEqDiff, reduceCtorEq, Nat.reduceBEq]
  refine Rl_nil 4 1 (by decide) rfl ?_
  refine Rl_inv (fun d e s => ∃ i : Nat, e = [.c (.p (rT ts)), .c .top, .c .top, .c (.p (rII (nest ts))), .c (.own 0 1 0 (colonsTo ts i).length), yd (.int .i64 i), .c .top, .c .top, .c .top, .c .top, .c .top, .c .top, .c .top, .c .top, .c .top, .c .top, .c .top, .c .top, .c .top, .c .top, .c .top, .c .top, .c .top, .c .top, .c .top, .c .top, .c .top, .c .top, .c .top, .c .top, .c .top, .c .top, .c .top, .c .top, .c .top, .c .top, .c .top, .c .top, .c .top, .c .top, .c .top, .c .top, .c .top, .c .top, .c .top, .c .top, .c .top, .c .top, .c .top, .c .top, .c .top, .c .top, .c .top, .c .top, .c .top, .c .top, .c .top, .c .top, .c .top, .c .top, .c .top, .c .top, .c .top, .c .top, .c .top, .c .top, .c .top, .c .top, .c .top, .c .top, .c .top, .c .top, .c .top, .c .top, .c .top, .c .top, .c .top, .c .top, .c .top, .c .top, .c .top, .c .top, .c .top, .c .top, .c .top, .c .top, .c .top, .c .top, .c .top, .c .top, .c .top, .c .top, .c .top, .c .top, .c .top, .c .top, .c .top, .c .top, .c .top, .c .top, .c .top, .c .top, .c .top, .c .top, .c .top, .c .top, .c .top, .c .top, .c .top, .c .top, .c .top, .c .top, .c .top, .c .top, .c .top, .c .top, .c .top, .c .top, .c .top, .c .top, .c .top, .c .top, .c .top, .c .top, .c .top, .c .top, .c .top, .c .top, .c .top, .c .top, .c .top, .c .top] ∧ s = [.row 1 ((colonsTo ts i).map ei)] ∧ i + d = ts.length) [true, false, false, true, true, true] ts.length [0] (by decide) (pinned_zero _) ⟨0, rfl, rfl, by omega⟩ ?_
  rintro d e s ⟨i, rfl, rfl, hd⟩
  have hol := openAt_length ts i
  by_cases hi : i < ts.length
  · obtain ⟨t, ht⟩ := get_lt hi
    have hn := nest_at ts hi
    have hk := kindAt_some ht
    have t1 : leI (ts.length : Nat) (i : Nat) = false := leI_false (by omega)
    have w1 : wrapK .i64 ((i : Int) + 1) = ((i + 1 : Nat) : Int) := wrap_succ (by omega)
    have hcl := colonsTo_length ts i
    have bcol : ((colonsTo ts i).length + 1) * 8 ≤ 70368744177664 := by omega
    by_cases k1 : t.kind = 16
    · have e1 : eqI t.kind 16 = true := by rw [k1]; rfl
      by_cases h0 : (openAt ts i).length = 0
      · have e2' : eqI ((openAt ts i).length : Nat) 0 = true := by rw [h0]; rfl
        simp -implicitDefEqProofs only [↓yP, yT, Nat.reduceAdd, Nat.reduceMul, Nat.reduceSub, Nat.reduceLeDiff, Nat.reduceEqDiff, reduceCtorEq, Nat.reduceBEq, t1, nn, get_map ht, Tok.pc, e1, get_map hn, e2, e2', w1]
        have hno : docColon ts i = false := by simp [docColon, h0]
        refine ⟨d - 1, [0], by omega, by decide, pinned_zero _, i + 1, ?_, ?_, by omega⟩
        · simp only [yE, Nat.reduceEqDiff, Nat.reduceAdd, reduceCtorEq, colonsTo_no hno]
        · simp only [yE, Nat.reduceEqDiff, Nat.reduceAdd, reduceCtorEq, colonsTo_no hno]
      have e2' : eqI ((openAt ts i).length : Nat) 0 = false := eqI_false (by omega)
      simp -implicitDefEqProofs only [↓yP, yT, Nat.reduceAdd, Nat.reduceMul, Nat.reduceSub, Nat.reduceLeDiff, Nat.reduceEqDiff, reduceCtorEq, Nat.reduceBEq, t1, nn, get_map ht, Tok.pc, e1, get_map hn, e2, e2', w1]
      refine Rcall_pure (blocks_spec (openAt ts i) (by omega)) (by rfl) fun y hy => ?_
      subst hy
      cases hb : allBlocks (openAt ts i) with
      | false =>
        simp -implicitDefEqProofs only [↓yP, yT, Nat.reduceAdd, Nat.reduceMul, Nat.reduceSub, Nat.reduceLeDiff, Nat.reduceEqDiff, reduceCtorEq, Nat.reduceBEq, w1]
        have hno : docColon ts i = false := by simp [docColon, hb]
        refine ⟨d - 1, [0], by omega, by decide, pinned_zero _, i + 1, ?_, ?_, by omega⟩
        · simp only [yE, Nat.reduceEqDiff, Nat.reduceAdd, reduceCtorEq, colonsTo_no hno]
        · simp only [yE, Nat.reduceEqDiff, Nat.reduceAdd, reduceCtorEq, colonsTo_no hno]
      | true =>
        simp -implicitDefEqProofs only [↓yP, yT, Nat.reduceAdd, Nat.reduceMul, Nat.reduceSub, Nat.reduceLeDiff, Nat.reduceEqDiff, reduceCtorEq, Nat.reduceBEq, w1]
        have w0 : wrapK .i64 ((i : Int) - 1) = (i : Int) - 1 := wrap_int (by omega) (by omega)
        refine Rl_inv (fun d' e s => ∃ n a b : Nat, e = [.c (.p (rT ts)), .c .top, .c .top, .c (.p (rII (nest ts))), .c (.own 0 1 0 (colonsTo ts i).length), yd (.int .i64 i), yd (.int .i64 a), yd (.int .i64 b), yd (.int .i64 ((n : Int) - 1)), .c .top, .c .top, .c .top, .c .top, .c .top, .c .top, .c .top, .c .top, .c .top, .c .top, .c .top, .c .top, .c .top, .c .top, .c .top, .c .top, .c .top, .c .top, .c .top, .c .top, .c .top, .c .top, .c .top, .c .top, .c .top, .c .top, .c .top, .c .top, .c .top, .c .top, .c .top, .c .top, .c .top, .c .top, .c .top, .c .top, .c .top, .c .top, .c .top, .c .top, .c .top, .c .top, .c .top, .c .top, .c .top, .c .top, .c .top, .c .top, .c .top, .c .top, .c .top, .c .top, .c .top, .c .top, .c .top, .c .top, .c .top, .c .top, .c .top, .c .top, .c .top, .c .top, .c .top, .c .top, .c .top, .c .top, .c .top, .c .top, .c .top, .c .top, .c .top, .c .top, .c .top, .c .top, .c .top, .c .top, .c .top, .c .top, .c .top, .c .top, .c .top, .c .top, .c .top, .c .top, .c .top, .c .top, .c .top, .c .top, .c .top, .c .top, .c .top, .c .top, .c .top, .c .top, .c .top, .c .top, .c .top, .c .top, .c .top, .c .top, .c .top, .c .top, .c .top, .c .top, .c .top, .c .top, .c .top, .c .top, .c .top, .c .top, .c .top, .c .top, .c .top, .c .top, .c .top, .c .top, .c .top, .c .top, .c .top, .c .top, .c .top, .c .top, .c .top] ∧ s = [.row 1 ((colonsTo ts i).map ei)] ∧ n = d' ∧ a + b + n ≤ i ∧ back ts n a b = back ts i 0 0)
          [true, false, false, true, true, true, true, true, true] i [0] (by decide) (pinned_zero _) ⟨i, 0, 0, by simp only [yE, Nat.reduceEqDiff, Nat.reduceAdd, reduceCtorEq, w0]; rfl, rfl, rfl, by omega, rfl⟩ ?_
        rintro d' e s ⟨n, a, b, rfl, rfl, hnd, hab, hback⟩
        cases n with
        | zero =>
          have t2 : leI 0 (((0 : Nat) : Int) - 1) = false := leI_false (by omega)
          have hb2 : back ts i 0 0 = (a, b) := by rw [← hback]; rfl
          simp -implicitDefEqProofs only [↓yP, yT, Nat.reduceAdd, Nat.reduceMul, Nat.reduceSub, Nat.reduceLeDiff, Nat.reduceEqDiff, reduceCtorEq, Nat.reduceBEq, t2]
          by_cases ha : a = 1
          · have e4 : eqI (a : Nat) 1 = true := by rw [ha]; rfl
            by_cases hb1 : b = 0
            · have e5 : eqI (b : Nat) 0 = true := by rw [hb1]; rfl
              simp -implicitDefEqProofs only [↓yP, yT, Nat.reduceAdd, Nat.reduceMul, Nat.reduceSub, Nat.reduceLeDiff, Nat.reduceEqDiff, reduceCtorEq, Nat.reduceBEq, e4, e5, w1]
              refine Rl_inv (fun d' e s => ∃ k : Nat, e = [.c (.p (rT ts)), .c .top, .c .top, .c (.p (rII (nest ts))), .c (.own 0 1 0 (colonsTo ts i).length), yd (.int .i64 i), .c .top, .c .top, .c .top, yd (.bool true), yd (.int .i64 k), .c .top, .c .top, .c .top, .c .top, .c .top, .c .top, .c .top, .c .top, .c .top, .c .top, .c .top, .c .top, .c .top, .c .top, .c .top, .c .top, .c .top, .c .top, .c .top, .c .top, .c .top, .c .top, .c .top, .c .top, .c .top, .c .top, .c .top, .c .top, .c .top, .c .top, .c .top, .c .top, .c .top, .c .top, .c .top, .c .top, .c .top, .c .top, .c .top, .c .top, .c .top, .c .top, .c .top, .c .top, .c .top, .c .top, .c .top, .c .top, .c .top, .c .top, .c .top, .c .top, .c .top, .c .top, .c .top, .c .top, .c .top, .c .top, .c .top, .c .top, .c .top, .c .top, .c .top, .c .top, .c .top, .c .top, .c .top, .c .top, .c .top, .c .top, .c .top, .c .top, .c .top, .c .top, .c .top, .c .top, .c .top, .c .top, .c .top, .c .top, .c .top, .c .top, .c .top, .c .top, .c .top, .c .top, .c .top, .c .top, .c .top, .c .top, .c .top, .c .top, .c .top, .c .top, .c .top, .c .top, .c .top, .c .top, .c .top, .c .top, .c .top, .c .top, .c .top, .c .top, .c .top, .c .top, .c .top, .c .top, .c .top, .c .top, .c .top, .c .top, .c .top, .c .top, .c .top, .c .top, .c .top, .c .top, .c .top, .c .top, .c .top] ∧ s = [.row 1 ((colonsTo ts i).map ei)] ∧ k + d' = ts.length ∧ i < k ∧ behind ts i d' k = behind ts i (ts.length - (i + 1)) (i + 1))
                [true, false, false, true, true, true, false, false, false, true, true] (ts.length - (i + 1)) [0] (by decide) (pinned_zero _) ⟨i + 1, by simp only [yE, Nat.reduceEqDiff, Nat.reduceAdd, reduceCtorEq], by simp only [yE, Nat.reduceEqDiff, Nat.reduceAdd, reduceCtorEq], by omega, by omega, rfl⟩ ?_
              rintro d' e s ⟨k, rfl, rfl, hkd, hik, hbeh⟩
              by_cases hkl : k < ts.length
              · obtain ⟨v, hv⟩ := get_lt hkl
                have hnv := nest_at ts hkl
                have hkv := kindAt_some hv
                have hol3 := openAt_length ts k
                have t3 : leI (ts.length : Nat) (k : Nat) = false := leI_false (by omega)
                have w3 : wrapK .i64 ((k : Int) + 1) = ((k + 1 : Nat) : Int) := wrap_succ (by omega)
                have hd1 : d' = (d' - 1) + 1 := by omega
                by_cases hlen : (openAt ts k).length = (openAt ts i).length
                · have e6 : eqI ((openAt ts k).length : Nat) ((openAt ts i).length : Nat) = true := by rw [hlen]; exact eqI_true _
                  simp -implicitDefEqProofs only [↓yP, yT, Nat.reduceAdd, Nat.reduceMul, Nat.reduceSub, Nat.reduceLeDiff, Nat.reduceEqDiff, reduceCtorEq, Nat.reduceBEq, t3]
                  refine Rd_calm (by rw [C1_P]; kernel_rfl) ?_
                  by_cases q1 : v.kind = 19
                  · have f1 : eqI v.kind 19 = true := by rw [q1]; rfl
                    simp -implicitDefEqProofs only [↓yP, yT, Nat.reduceAdd, Nat.reduceMul, Nat.reduceSub, Nat.reduceLeDiff, Nat.reduceEqDiff, reduceCtorEq, Nat.reduceBEq, get_map hnv, get_map hn, e2, e6, get_map hv, Tok.pc, f1, w1]
                    have hno : docColon ts i = false := by
                      rw [docColon, ← hbeh, hd1, behind, if_pos ⟨hlen, by simp [partK, hkv, q1]⟩]; simp [hkv, q1]
                    refine ⟨d - 1, [0], by omega, by decide, pinned_zero _, i + 1, ?_, ?_, by omega⟩
                    · simp only [yE, Nat.reduceEqDiff, Nat.reduceAdd, reduceCtorEq, colonsTo_no hno]
                    · simp only [yE, Nat.reduceEqDiff, Nat.reduceAdd, reduceCtorEq, colonsTo_no hno]
                  have f1 : eqI v.kind 19 = false := eqI_false q1
                  by_cases q2 : v.kind = 20
                  · have f2 : eqI v.kind 20 = true := by rw [q2]; rfl
                    have hyes : docColon ts i = true := by
                      rw [docColon, ← hbeh, hd1, behind, if_pos ⟨hlen, by simp [partK, hkv, q2]⟩]; simp [hkv, hk, k1, q2, h0, hb, hb2, ha, hb1]
                    simp -implicitDefEqProofs only [↓yP, yT, Nat.reduceAdd, Nat.reduceMul, Nat.reduceSub, Nat.reduceLeDiff, Nat.reduceEqDiff, reduceCtorEq, Nat.reduceBEq, get_map hnv, get_map hn, e2, e6, get_map hv, Tok.pc, f1, f2, w1, bcol]
                    refine ⟨d - 1, [2], by omega, by decide, pinned_zero _, i + 1, ?_, ?_, by omega⟩
                    · simp only [yE, Nat.reduceEqDiff, Nat.reduceAdd, reduceCtorEq, colonsTo_yes hyes]
                    · simp only [yE, Nat.reduceEqDiff, Nat.reduceAdd, reduceCtorEq, colonsTo_yes hyes, List.map_append, ei]
                  have f2 : eqI v.kind 20 = false := eqI_false q2
                  by_cases q3 : v.kind = 17
                  · have f3 : eqI v.kind 17 = true := by rw [q3]; rfl
                    have hyes : docColon ts i = true := by
                      rw [docColon, ← hbeh, hd1, behind, if_pos ⟨hlen, by simp [partK, hkv, q3]⟩]; simp [hkv, hk, k1, q3, h0, hb, hb2, ha, hb1]
                    simp -implicitDefEqProofs only [↓yP, yT, Nat.reduceAdd, Nat.reduceMul, Nat.reduceSub, Nat.reduceLeDiff, Nat.reduceEqDiff, reduceCtorEq, Nat.reduceBEq, get_map hnv, get_map hn, e2, e6, get_map hv, Tok.pc, f1, f2, f3, w1, bcol]
                    refine ⟨d - 1, [2], by omega, by decide, pinned_zero _, i + 1, ?_, ?_, by omega⟩
                    · simp only [yE, Nat.reduceEqDiff, Nat.reduceAdd, reduceCtorEq, colonsTo_yes hyes]
                    · simp only [yE, Nat.reduceEqDiff, Nat.reduceAdd, reduceCtorEq, colonsTo_yes hyes, List.map_append, ei]
                  · have f3 : eqI v.kind 17 = false := eqI_false q3
                    simp -implicitDefEqProofs only [↓yP, yT, Nat.reduceAdd, Nat.reduceMul, Nat.reduceSub, Nat.reduceLeDiff, Nat.reduceEqDiff, reduceCtorEq, Nat.reduceBEq, get_map hnv, get_map hn, e2, e6, get_map hv, Tok.pc, f1, f2, f3, w3]
                    refine ⟨d' - 1, [0], by omega, by decide, pinned_zero _, k + 1, ?_, ?_, by omega, by omega, ?_⟩
                    · simp only [yE, Nat.reduceEqDiff, Nat.reduceAdd, reduceCtorEq]
                    · simp only [yE, Nat.reduceEqDiff, Nat.reduceAdd, reduceCtorEq]
                    · rw [← hbeh, hd1, behind, if_neg (by simp [partK, hkv, q1, q2, q3])]; rfl
                · have e6 : eqI ((openAt ts k).length : Nat) ((openAt ts i).length : Nat) = false := eqI_false (by omega)
                  simp -implicitDefEqProofs only [↓yP, yT, Nat.reduceAdd, Nat.reduceMul, Nat.reduceSub, Nat.reduceLeDiff, Nat.reduceEqDiff, reduceCtorEq, Nat.reduceBEq, t3]
                  refine Rd_calm (by rw [C1_P]; kernel_rfl) ?_
                  simp -implicitDefEqProofs only [↓yP, yT, Nat.reduceAdd, Nat.reduceMul, Nat.reduceSub, Nat.reduceLeDiff, Nat.reduceEqDiff, reduceCtorEq, Nat.reduceBEq, get_map hnv, get_map hn, e2, e6, w3]
                  refine ⟨d' - 1, [0], by omega, by decide, pinned_zero _, k + 1, ?_, ?_, by omega, by omega, ?_⟩
                  · simp only [yE, Nat.reduceEqDiff, Nat.reduceAdd, reduceCtorEq]
                  · simp only [yE, Nat.reduceEqDiff, Nat.reduceAdd, reduceCtorEq]
                  · rw [← hbeh, hd1, behind, if_neg (by simp [hlen])]; rfl
              · have t3 : leI (ts.length : Nat) (k : Nat) = true := leI_true (by omega)
                have hd0 : d' = 0 := by omega
                have hyes : docColon ts i = true := by
                  rw [docColon, ← hbeh, hd0, behind]; simp [hk, k1, h0, hb, hb2, ha, hb1]
                simp -implicitDefEqProofs only [↓yP, yT, Nat.reduceAdd, Nat.reduceMul, Nat.reduceSub, Nat.reduceLeDiff, Nat.reduceEqDiff, reduceCtorEq, Nat.reduceBEq, t3, w1, bcol]
                refine ⟨d - 1, [2], by omega, by decide, pinned_zero _, i + 1, ?_, ?_, by omega⟩
                · simp only [yE, Nat.reduceEqDiff, Nat.reduceAdd, reduceCtorEq, colonsTo_yes hyes]
                · simp only [yE, Nat.reduceEqDiff, Nat.reduceAdd, reduceCtorEq, colonsTo_yes hyes, List.map_append, ei]
            · have e5 : eqI (b : Nat) 0 = false := eqI_false (by omega)
              have hno : docColon ts i = false := by simp [docColon, hb2, ha, hb1]
              simp -implicitDefEqProofs only [↓yP, yT, Nat.reduceAdd, Nat.reduceMul, Nat.reduceSub, Nat.reduceLeDiff, Nat.reduceEqDiff, reduceCtorEq, Nat.reduceBEq, e4, e5, w1]
              refine ⟨d - 1, [0], by omega, by decide, pinned_zero _, i + 1, ?_, ?_, by omega⟩
              · simp only [yE, Nat.reduceEqDiff, Nat.reduceAdd, reduceCtorEq, colonsTo_no hno]
              · simp only [yE, Nat.reduceEqDiff, Nat.reduceAdd, reduceCtorEq, colonsTo_no hno]
          · have e4 : eqI (a : Nat) 1 = false := eqI_false (by omega)
            have hno : docColon ts i = false := by simp [docColon, hb2, ha]
            simp -implicitDefEqProofs only [↓yP, yT, Nat.reduceAdd, Nat.reduceMul, Nat.reduceSub, Nat.reduceLeDiff, Nat.reduceEqDiff, reduceCtorEq, Nat.reduceBEq, e4, w1]
            refine ⟨d - 1, [0], by omega, by decide, pinned_zero _, i + 1, ?_, ?_, by omega⟩
            · simp only [yE, Nat.reduceEqDiff, Nat.reduceAdd, reduceCtorEq, colonsTo_no hno]
            · simp only [yE, Nat.reduceEqDiff, Nat.reduceAdd, reduceCtorEq, colonsTo_no hno]
        | succ n =>
          have hn1 : ((n + 1 : Nat) : Int) - 1 = (n : Nat) := by omega
          have t2 : leI 0 ((n : Nat) : Int) = true := leI_true (by omega)
          obtain ⟨u, hu⟩ := get_lt (show n < ts.length by omega)
          have hnn := nest_at ts (show n < ts.length by omega)
          have hku := kindAt_some hu
          have hol2 := openAt_length ts n
          have w2 : wrapK .i64 ((n : Int) - 1) = (n : Int) - 1 := wrap_int (by omega) (by omega)
          simp -implicitDefEqProofs only [↓yP, yT, Nat.reduceAdd, Nat.reduceMul, Nat.reduceSub, Nat.reduceLeDiff, Nat.reduceEqDiff, reduceCtorEq, Nat.reduceBEq, hn1, t2]
          refine Rcall_pure (part_spec ts (nest ts) n u (openAt ts n) hu hnn (by omega)) (by rfl) fun y hy => ?_
          subst hy
          cases hp : (partK u.kind && allBlocks (openAt ts n)) with
          | true =>
            have hb2 : back ts i 0 0 = (a, b) := by rw [← hback, back, partAt, hku, if_pos hp]
            simp -implicitDefEqProofs only [↓yP, yT, Nat.reduceAdd, Nat.reduceMul, Nat.reduceSub, Nat.reduceLeDiff, Nat.reduceEqDiff, reduceCtorEq, Nat.reduceBEq]
            by_cases ha : a = 1
            · have e4 : eqI (a : Nat) 1 = true := by rw [ha]; rfl
              by_cases hb1 : b = 0
              · have e5 : eqI (b : Nat) 0 = true := by rw [hb1]; rfl
                simp -implicitDefEqProofs only [↓yP, yT, Nat.reduceAdd, Nat.reduceMul, Nat.reduceSub, Nat.reduceLeDiff, Nat.reduceEqDiff, reduceCtorEq, Nat.reduceBEq, e4, e5, w1]
                refine Rl_inv (fun d' e s => ∃ k : Nat, e = [.c (.p (rT ts)), .c .top, .c .top, .c (.p (rII (nest ts))), .c (.own 0 1 0 (colonsTo ts i).length), yd (.int .i64 i), .c .top, .c .top, .c .top, yd (.bool true), yd (.int .i64 k), .c .top, .c .top, .c .top, .c .top, .c .top, .c .top, .c .top, .c .top, .c .top, .c .top, .c .top, .c .top, .c .top, .c .top, .c .top, .c .top, .c .top, .c .top, .c .top, .c .top, .c .top, .c .top, .c .top, .c .top, .c .top, .c .top, .c .top, .c .top, .c .top, .c .top, .c .top, .c .top, .c .top, .c .top, .c .top, .c .top, .c .top, .c .top, .c .top, .c .top, .c .top, .c .top, .c .top, .c .top, .c .top, .c .top, .c .top, .c .top, .c .top, .c .top, .c .top, .c .top, .c .top, .c .top, .c .top, .c .top, .c .top, .c .top, .c .top, .c .top, .c .top, .c .top, .c .top, .c .top, .c .top, .c .top, .c .top, .c .top, .c .top, .c .top, .c .top, .c .top, .c .top, .c .top, .c .top, .c .top, .c .top, .c .top, .c .top, .c .top, .c .top, .c .top, .c .top, .c .top, .c .top, .c .top, .c .top, .c .top, .c .top, .c .top, .c .top, .c .top, .c .top, .c .top, .c .top, .c .top, .c .top, .c .top, .c .top, .c .top, .c .top, .c .top, .c .top, .c .top, .c .top, .c .top, .c .top, .c .top, .c .top, .c .top, .c .top, .c .top, .c .top, .c .top, .c .top, .c .top, .c .top, .c .top, .c .top, .c .top, .c .top] ∧ s = [.row 1 ((colonsTo ts i).map ei)] ∧ k + d' = ts.length ∧ i < k ∧ behind ts i d' k = behind ts i (ts.length - (i + 1)) (i + 1))
                  [true, false, false, true, true, true, false, false, false, true, true] (ts.length - (i + 1)) [0] (by decide) (pinned_zero _) ⟨i + 1, by simp only [yE, Nat.reduceEqDiff, Nat.reduceAdd, reduceCtorEq], by simp only [yE, Nat.reduceEqDiff, Nat.reduceAdd, reduceCtorEq], by omega, by omega, rfl⟩ ?_
                rintro d' e s ⟨k, rfl, rfl, hkd, hik, hbeh⟩
                by_cases hkl : k < ts.length
                · obtain ⟨v, hv⟩ := get_lt hkl
                  have hnv := nest_at ts hkl
                  have hkv := kindAt_some hv
                  have hol3 := openAt_length ts k
                  have t3 : leI (ts.length : Nat) (k : Nat) = false := leI_false (by omega)
                  have w3 : wrapK .i64 ((k : Int) + 1) = ((k + 1 : Nat) : Int) := wrap_succ (by omega)
                  have hd1 : d' = (d' - 1) + 1 := by omega
                  by_cases hlen : (openAt ts k).length = (openAt ts i).length
                  · have e6 : eqI ((openAt ts k).length : Nat) ((openAt ts i).length : Nat) = true := by rw [hlen]; exact eqI_true _
                    simp -implicitDefEqProofs only [↓yP, yT, Nat.reduceAdd, Nat.reduceMul, Nat.reduceSub, Nat.reduceLeDiff, Nat.reduceEqDiff, reduceCtorEq, Nat.reduceBEq, t3]
                    refine Rd_calm (by rw [C1_P]; kernel_rfl) ?_
                    by_cases q1 : v.kind = 19
                    · have f1 : eqI v.kind 19 = true := by rw [q1]; rfl
                      simp -implicitDefEqProofs only [↓yP, yT, Nat.reduceAdd, Nat.reduceMul, Nat.reduceSub, Nat.reduceLeDiff, Nat.reduceEqDiff, reduceCtorEq, Nat.reduceBEq, get_map hnv, get_map hn, e2, e6, get_map hv, Tok.pc, f1, w1]
                      have hno : docColon ts i = false := by
                        rw [docColon, ← hbeh, hd1, behind, if_pos ⟨hlen, by simp [partK, hkv, q1]⟩]; simp [hkv, q1]
                      refine ⟨d - 1, [0], by omega, by decide, pinned_zero _, i + 1, ?_, ?_, by omega⟩
                      · simp only [yE, Nat.reduceEqDiff, Nat.reduceAdd, reduceCtorEq, colonsTo_no hno]
                      · simp only [yE, Nat.reduceEqDiff, Nat.reduceAdd, reduceCtorEq, colonsTo_no hno]
                    have f1 : eqI v.kind 19 = false := eqI_false q1
                    by_cases q2 : v.kind = 20
                    · have f2 : eqI v.kind 20 = true := by rw [q2]; rfl
                      have hyes : docColon ts i = true := by
                        rw [docColon, ← hbeh, hd1, behind, if_pos ⟨hlen, by simp [partK, hkv, q2]⟩]; simp [hkv, hk, k1, q2, h0, hb, hb2, ha, hb1]
                      simp -implicitDefEqProofs only [↓yP, yT, Nat.reduceAdd, Nat.reduceMul, Nat.reduceSub, Nat.reduceLeDiff, Nat.reduceEqDiff, reduceCtorEq, Nat.reduceBEq, get_map hnv, get_map hn, e2, e6, get_map hv, Tok.pc, f1, f2, w1, bcol]
                      refine ⟨d - 1, [2], by omega, by decide, pinned_zero _, i + 1, ?_, ?_, by omega⟩
                      · simp only [yE, Nat.reduceEqDiff, Nat.reduceAdd, reduceCtorEq, colonsTo_yes hyes]
                      · simp only [yE, Nat.reduceEqDiff, Nat.reduceAdd, reduceCtorEq, colonsTo_yes hyes, List.map_append, ei]
                    have f2 : eqI v.kind 20 = false := eqI_false q2
                    by_cases q3 : v.kind = 17
                    · have f3 : eqI v.kind 17 = true := by rw [q3]; rfl
                      have hyes : docColon ts i = true := by
                        rw [docColon, ← hbeh, hd1, behind, if_pos ⟨hlen, by simp [partK, hkv, q3]⟩]; simp [hkv, hk, k1, q3, h0, hb, hb2, ha, hb1]
                      simp -implicitDefEqProofs only [↓yP, yT, Nat.reduceAdd, Nat.reduceMul, Nat.reduceSub, Nat.reduceLeDiff, Nat.reduceEqDiff, reduceCtorEq, Nat.reduceBEq, get_map hnv, get_map hn, e2, e6, get_map hv, Tok.pc, f1, f2, f3, w1, bcol]
                      refine ⟨d - 1, [2], by omega, by decide, pinned_zero _, i + 1, ?_, ?_, by omega⟩
                      · simp only [yE, Nat.reduceEqDiff, Nat.reduceAdd, reduceCtorEq, colonsTo_yes hyes]
                      · simp only [yE, Nat.reduceEqDiff, Nat.reduceAdd, reduceCtorEq, colonsTo_yes hyes, List.map_append, ei]
                    · have f3 : eqI v.kind 17 = false := eqI_false q3
                      simp -implicitDefEqProofs only [↓yP, yT, Nat.reduceAdd, Nat.reduceMul, Nat.reduceSub, Nat.reduceLeDiff, Nat.reduceEqDiff, reduceCtorEq, Nat.reduceBEq, get_map hnv, get_map hn, e2, e6, get_map hv, Tok.pc, f1, f2, f3, w3]
                      refine ⟨d' - 1, [0], by omega, by decide, pinned_zero _, k + 1, ?_, ?_, by omega, by omega, ?_⟩
                      · simp only [yE, Nat.reduceEqDiff, Nat.reduceAdd, reduceCtorEq]
                      · simp only [yE, Nat.reduceEqDiff, Nat.reduceAdd, reduceCtorEq]
                      · rw [← hbeh, hd1, behind, if_neg (by simp [partK, hkv, q1, q2, q3])]; rfl
                  · have e6 : eqI ((openAt ts k).length : Nat) ((openAt ts i).length : Nat) = false := eqI_false (by omega)
                    simp -implicitDefEqProofs only [↓yP, yT, Nat.reduceAdd, Nat.reduceMul, Nat.reduceSub, Nat.reduceLeDiff, Nat.reduceEqDiff, reduceCtorEq, Nat.reduceBEq, t3]
                    refine Rd_calm (by rw [C1_P]; kernel_rfl) ?_
                    simp -implicitDefEqProofs only [↓yP, yT, Nat.reduceAdd, Nat.reduceMul, Nat.reduceSub, Nat.reduceLeDiff, Nat.reduceEqDiff, reduceCtorEq, Nat.reduceBEq, get_map hnv, get_map hn, e2, e6, w3]
                    refine ⟨d' - 1, [0], by omega, by decide, pinned_zero _, k + 1, ?_, ?_, by omega, by omega, ?_⟩
                    · simp only [yE, Nat.reduceEqDiff, Nat.reduceAdd, reduceCtorEq]
                    · simp only [yE, Nat.reduceEqDiff, Nat.reduceAdd, reduceCtorEq]
                    · rw [← hbeh, hd1, behind, if_neg (by simp [hlen])]; rfl
                · have t3 : leI (ts.length : Nat) (k : Nat) = true := leI_true (by omega)
                  have hd0 : d' = 0 := by omega
                  have hyes : docColon ts i = true := by
                    rw [docColon, ← hbeh, hd0, behind]; simp [hk, k1, h0, hb, hb2, ha, hb1]
                  simp -implicitDefEqProofs only [↓yP, yT, Nat.reduceAdd, Nat.reduceMul, Nat.reduceSub, Nat.reduceLeDiff, Nat.reduceEqDiff, reduceCtorEq, Nat.reduceBEq, t3, w1, bcol]
                  refine ⟨d - 1, [2], by omega, by decide, pinned_zero _, i + 1, ?_, ?_, by omega⟩
                  · simp only [yE, Nat.reduceEqDiff, Nat.reduceAdd, reduceCtorEq, colonsTo_yes hyes]
                  · simp only [yE, Nat.reduceEqDiff, Nat.reduceAdd, reduceCtorEq, colonsTo_yes hyes, List.map_append, ei]
              · have e5 : eqI (b : Nat) 0 = false := eqI_false (by omega)
                have hno : docColon ts i = false := by simp [docColon, hb2, ha, hb1]
                simp -implicitDefEqProofs only [↓yP, yT, Nat.reduceAdd, Nat.reduceMul, Nat.reduceSub, Nat.reduceLeDiff, Nat.reduceEqDiff, reduceCtorEq, Nat.reduceBEq, e4, e5, w1]
                refine ⟨d - 1, [0], by omega, by decide, pinned_zero _, i + 1, ?_, ?_, by omega⟩
                · simp only [yE, Nat.reduceEqDiff, Nat.reduceAdd, reduceCtorEq, colonsTo_no hno]
                · simp only [yE, Nat.reduceEqDiff, Nat.reduceAdd, reduceCtorEq, colonsTo_no hno]
            · have e4 : eqI (a : Nat) 1 = false := eqI_false (by omega)
              have hno : docColon ts i = false := by simp [docColon, hb2, ha]
              simp -implicitDefEqProofs only [↓yP, yT, Nat.reduceAdd, Nat.reduceMul, Nat.reduceSub, Nat.reduceLeDiff, Nat.reduceEqDiff, reduceCtorEq, Nat.reduceBEq, e4, w1]
              refine ⟨d - 1, [0], by omega, by decide, pinned_zero _, i + 1, ?_, ?_, by omega⟩
              · simp only [yE, Nat.reduceEqDiff, Nat.reduceAdd, reduceCtorEq, colonsTo_no hno]
              · simp only [yE, Nat.reduceEqDiff, Nat.reduceAdd, reduceCtorEq, colonsTo_no hno]
          | false =>
            have hp2 : ¬ partAt ts n = true := by rw [partAt, hku, hp]; simp
            simp -implicitDefEqProofs only [↓yP, yT, Nat.reduceAdd, Nat.reduceMul, Nat.reduceSub, Nat.reduceLeDiff, Nat.reduceEqDiff, reduceCtorEq, Nat.reduceBEq, get_map hu, Tok.pc]
            refine Rcall_pure (quiet_spec u) (by rfl) fun y hy => ?_
            subst hy
            cases hq : quiet u.kind with
            | true =>
              simp -implicitDefEqProofs only [↓yP, yT, Nat.reduceAdd, Nat.reduceMul, Nat.reduceSub, Nat.reduceLeDiff, Nat.reduceEqDiff, reduceCtorEq, Nat.reduceBEq, w2]
              refine ⟨d' - 1, [0], by omega, by decide, pinned_zero _, n, a, b, ?_, ?_, by omega, by omega, ?_⟩
              · simp only [yE, Nat.reduceEqDiff, Nat.reduceAdd, reduceCtorEq]
              · simp only [yE, Nat.reduceEqDiff, Nat.reduceAdd, reduceCtorEq]
              · rw [← hback, back, if_neg hp2, hku, if_pos hq]
            | false =>
              by_cases k2 : u.kind = 1
              · have e3 : eqI u.kind 1 = true := by rw [k2]; rfl
                simp -implicitDefEqProofs only [↓yP, yT, Nat.reduceAdd, Nat.reduceMul, Nat.reduceSub, Nat.reduceLeDiff, Nat.reduceEqDiff, reduceCtorEq, Nat.reduceBEq, w2, get_map hu, Tok.pc, e3, wrap_succ (show a < 9000000000000000000 by omega)]
                refine ⟨d' - 1, [0], by omega, by decide, pinned_zero _, n, a + 1, b, ?_, ?_, by omega, by omega, ?_⟩
                · simp only [yE, Nat.reduceEqDiff, Nat.reduceAdd, reduceCtorEq]
                · simp only [yE, Nat.reduceEqDiff, Nat.reduceAdd, reduceCtorEq]
                · rw [← hback, back, if_neg hp2, hku, if_neg (by rw [hq]; simp), if_pos k2]
              · have e3 : eqI u.kind 1 = false := eqI_false k2
                simp -implicitDefEqProofs only [↓yP, yT, Nat.reduceAdd, Nat.reduceMul, Nat.reduceSub, Nat.reduceLeDiff, Nat.reduceEqDiff, reduceCtorEq, Nat.reduceBEq, w2, get_map hu, Tok.pc, e3, wrap_succ (show b < 9000000000000000000 by omega)]
                refine ⟨d' - 1, [0], by omega, by decide, pinned_zero _, n, a, b + 1, ?_, ?_, by omega, by omega, ?_⟩
                · simp only [yE, Nat.reduceEqDiff, Nat.reduceAdd, reduceCtorEq]
                · simp only [yE, Nat.reduceEqDiff, Nat.reduceAdd, reduceCtorEq]
                · rw [← hback, back, if_neg hp2, hku, if_neg (by rw [hq]; simp), if_neg k2]
    · have e1 : eqI t.kind 16 = false := eqI_false k1
      simp -implicitDefEqProofs only [↓yP, yT, Nat.reduceAdd, Nat.reduceMul, Nat.reduceSub, Nat.reduceLeDiff, Nat.reduceEqDiff, reduceCtorEq, Nat.reduceBEq, t1, nn, get_map ht, Tok.pc, e1, w1]
      have hno : docColon ts i = false := by simp [docColon, hk, k1]
      refine ⟨d - 1, [0], by omega, by decide, pinned_zero _, i + 1, ?_, ?_, by omega⟩
      · simp only [yE, Nat.reduceEqDiff, Nat.reduceAdd, reduceCtorEq, colonsTo_no hno]
      · simp only [yE, Nat.reduceEqDiff, Nat.reduceAdd, reduceCtorEq, colonsTo_no hno]
  · have t1 : leI (ts.length : Nat) (i : Nat) = true := leI_true (by omega)
    have : i = ts.length := by omega
    subst this
    simp -implicitDefEqProofs only [↓yP, yT, Nat.reduceAdd, Nat.reduceMul, Nat.reduceSub, Nat.reduceLeDiff, Nat.reduceEqDiff, reduceCtorEq, Nat.reduceBEq, t1]
end Go.Vx.Seat
end
/- Places. -/
section
open Go Go.Vx Go.Proofs
set_option linter.unusedSimpArgs false
set_option linter.unusedVariables false
set_option maxRecDepth 10000
set_option maxHeartbeats 4000000
namespace Go.Vx.Seat
attribute [local congr] Rg_at Rt_at Ro_at Ri_at Rc_at Rto_at Rtk_at Rtf_at Rti_at
attribute [local irreducible] Rg Rt Ro Ri Rc Rto Rtk Rtf Rti Rw Rl Rd Rcall Rtcall kf
theorem fn26 : nth C1.P.funcs.toList 26 = some Try.f26 := by kernel_rfl
/-- A place: how deep, in blocks alone?, does it close? -/
def plOf (o : List Int) (k : Int) : Nat × Bool × Bool := let o1 := if o.getLast? = some k then o.dropLast else o; (o1.length, allBlocks o1, decide (o.getLast? = some k))
def pl (ts : List Tok) (i : Nat) : Nat × Bool × Bool := plOf (openAt ts i) (kindAt ts i)
def ep (p : Nat × Bool × Bool) : List PC := [.d (.int .i64 p.1), .d (.bool p.2.1), .d (.bool p.2.2)]
def zp : List PC := [.d (.int .i64 0), .d (.bool false), .d (.bool false)]
def plTo (ts : List Tok) (i : Nat) : List (List PC) := (List.range i).map (fun j => ep (pl ts j)) ++ List.replicate (ts.length - i) zp
theorem plTo_length {ts : List Tok} {i : Nat} (h : i ≤ ts.length) : (plTo ts i).length = ts.length := by simp [plTo]; omega
theorem plTo_get {ts : List Tok} {i : Nat} (h : i < ts.length) : (plTo ts i)[i]? = some zp := by
  rw [plTo, List.getElem?_append_right (by simp)]
  simp only [List.length_map, List.length_range, Nat.sub_self]
  rw [List.getElem?_replicate, if_pos (by omega)]
theorem plTo_set {ts : List Tok} {i : Nat} (h : i < ts.length) : (plTo ts i).set i (ep (pl ts i)) = plTo ts (i + 1) := by
  rw [plTo, List.set_append_right _ _ (by simp), plTo, List.range_succ, List.map_append, List.append_assoc]
  congr 1
  rw [List.length_map, List.length_range, Nat.sub_self, show ts.length - i = (ts.length - (i + 1)) + 1 by omega, List.replicate_succ]
  rfl
def cnt (o : List Int) : Nat := (o.filter fun k => decide (k ≠ 20)).length
theorem cnt_blocks (o : List Int) : eqI (cnt o : Nat) 0 = allBlocks o := by
  rw [eqI_eq, Bool.eq_iff_iff, decide_eq_true_eq, allBlocks, List.all_eq_true]
  have : ((cnt o : Nat) : Int) = 0 ↔ cnt o = 0 := by omega
  rw [this, cnt, List.length_eq_zero_iff, List.filter_eq_nil_iff]
  simp
theorem cnt_length (o : List Int) : cnt o ≤ o.length := List.length_filter_le _ _
theorem cnt_snoc (o : List Int) (k : Int) : cnt (o ++ [k]) = cnt o + (if k = 20 then 0 else 1) := by
  simp only [cnt, List.filter_append, List.length_append]
  by_cases h : k = 20 <;> simp [h]
theorem snoc_of_last {o : List Int} {k : Int} (h : o.getLast? = some k) : o = o.dropLast ++ [k] := by
  have hne : o ≠ [] := by intro hn; subst hn; cases h
  rw [List.getLast?_eq_some_getLast hne] at h
  rw [← Option.some.inj h, List.dropLast_concat_getLast hne]
/-- What is open are kinds that close. -/
theorem open_kinds (ts : List Tok) : ∀ i, ∀ k, k ∈ openAt ts i → k = 20 ∨ k = 22 ∨ k = 24
  | 0, k, h => by simp [openAt] at h
  | i + 1, k, h => by
    unfold openAt at h
    split at h
    · rename_i t _
      unfold nestStep at h
      split at h
      · exact open_kinds ts i k (List.dropLast_subset _ h)
      · split at h
        · rcases List.mem_append.mp h with h | h
          · exact open_kinds ts i k h
          · rw [List.mem_singleton] at h
            subst h
            unfold closes at *
            split
            · omega
            · split
              · omega
              · split
                · omega
                · rename_i hc h1 h2 h3; simp [h1, h2, h3] at hc
        · exact open_kinds ts i k h
    · exact open_kinds ts i k h
theorem closes_shut {k : Int} (h : k = 20 ∨ k = 22 ∨ k = 24) : closes k = 0 := by
  unfold closes
  rw [if_neg (by omega), if_neg (by omega), if_neg (by omega)]
theorem closes_pos (k : Int) : closes k = 0 ∨ closes k > 0 := by
  unfold closes
  split
  · omega
  · split
    · omega
    · split <;> omega

def plE (ts : List Tok) (j : Nat) : List PC := ep (pl ts j)
abbrev rP (ts : List Tok) : PC := .row 3 ((List.range ts.length).map (plE ts))
theorem places_spec (ts : List Tok) (hl : ts.length ≤ 1000000) : PCall C1 26 [.c (.p (rT ts))] fun y => y = .c (.p (rP ts)) := by
  refine Pf (by rfl) (by rfl) fn26 (by rfl) ?_
  simp only [Try.f26, List.length_cons, List.length_nil, List.replicate, List.cons_append, List.nil_append]
  have b0 : ((16 : Nat) : Int) * ((ts.length : Nat) : Int) ≤ 70368744177664 := by omega
  have b1 : ((ts.length : Nat) : Int) ≤ 70368744177664 := by omega
  simp -implicitDefEqProofs only [↓yP, yT, Nat.reduceAdd, Nat.reduceMul, Nat.reduceSub, Nat.reduceLeDiff, Nat.reduceEqDiff, reduceCtorEq, Nat.reduceBEq, b0, b1]
  refine Rl_nil 4 1 (by decide) rfl ?_
  refine Rl_inv (fun d e s => ∃ (i : Nat) (E : List (List PC)), e = [.c .top, .c .top, .c .top, .c (.own 0 3 0 ts.length), .c (.own 1 1 0 (openAt ts i).length), yd (.int .i64 (cnt (openAt ts i))), .c .top, .c .top, .c .top, .c .top, .c .top, .c .top, .c .top, .c (.p (rT ts)), yd (.int .i64 ts.length), yd (.int .i64 i), .c .top, .c .top, .c .top, .c .top, .c .top, .c .top, .c .top, .c .top, .c .top, .c .top, .c .top, .c .top, .c .top, .c .top, .c .top, .c .top, .c .top, .c .top, .c .top, .c .top, .c .top, .c .top, .c .top, .c .top, .c .top, .c .top, .c .top, .c .top, .c .top, .c .top, .c .top, .c .top, .c .top, .c .top, .c .top, .c .top, .c .top, .c .top, .c .top, .c .top, .c .top, .c .top, .c .top, .c .top, .c .top, .c .top, .c .top, .c .top, .c .top, .c .top, .c .top, .c .top, .c .top, .c .top, .c .top, .c .top, .c .top, .c .top] ∧ s = [.row 3 (plTo ts i), .row 1 E] ∧ i + d = ts.length ∧ (openAt ts i).length ≤ E.length ∧ E.take (openAt ts i).length = (openAt ts i).map ei)
    [false, false, false, true, true, true, false, false, false, false, false, false, false, true, true, true] ts.length [0, 1] (by decide) (pinned_zero _) ⟨0, [], by simp only [yE, Nat.reduceEqDiff, Nat.reduceAdd, reduceCtorEq, List.length_replicate]; rfl, by simp only [yE, Nat.reduceEqDiff, Nat.reduceAdd, reduceCtorEq]; rfl, by omega, by simp [openAt], by simp [openAt]⟩ ?_
  rintro d e s ⟨i, E, rfl, rfl, hd, hE1, hE2⟩
  have hol := openAt_length ts i
  have hcn := cnt_length (openAt ts i)
  by_cases hi : i < ts.length
  · obtain ⟨t, ht⟩ := get_lt hi
    have hk := kindAt_some ht
    have hsucc := openAt_succ ht
    have t1 : leI (ts.length : Nat) (i : Nat) = false := leI_false (by omega)
    have w1 : wrapK .i64 ((i : Int) + 1) = ((i + 1 : Nat) : Int) := wrap_succ (by omega)
    have hg := plTo_get hi
    have hll := plTo_length (ts := ts) (i := i) (by omega)
    have hsg : ∀ x, ((plTo ts i).set i x)[i]? = some x := fun x => by rw [List.getElem?_set, if_pos rfl, if_pos (by omega)]
    simp -implicitDefEqProofs only [↓yP, yT, Nat.reduceAdd, Nat.reduceMul, Nat.reduceSub, Nat.reduceLeDiff, Nat.reduceEqDiff, reduceCtorEq, Nat.reduceBEq, t1, get_map ht, Tok.pc]
    refine Rd_calm (by rw [C1_P]; kernel_rfl) ?_
    have ilt : ((i : Nat) : Int) < ((ts.length : Nat) : Int) := by omega
    have hset : (plTo ts i).set i (ep (pl ts i)) = plTo ts (i + 1) := plTo_set hi
    rcases hol0 : (openAt ts i).getLast? with _ | c
    · have ho : openAt ts i = [] := by simpa using hol0
      have t2 : leI ((openAt ts i).length : Nat) 0 = true := by rw [ho]; rfl
      have hck : True := trivial
      have hpl : ep (pl ts i) = [.d (.int .i64 ((openAt ts i).length : Nat)), .d (.bool (allBlocks (openAt ts i))), .d (.bool false)] := by
        simp [pl, plOf, ep, hol0]
      rw [hpl] at hset
      simp -implicitDefEqProofs only [↓yP, yT, Nat.reduceAdd, Nat.reduceMul, Nat.reduceSub, Nat.reduceLeDiff, Nat.reduceEqDiff, reduceCtorEq, Nat.reduceBEq, t2, hg, hsg, zp, cnt_blocks, ilt]
      refine Rcall_pure (closer_spec t.kind) (by rfl) fun y hy => ?_
      subst hy
      rcases closes_pos t.kind with hc | hc
      · have t3 : eqI (closes t.kind) 0 = true := by rw [hc]; rfl
        have hs2 : openAt ts (i + 1) = openAt ts i := by rw [hsucc, nestStep, if_neg (by rw [hol0]; simp [hck]), if_neg (by omega)]
        simp -implicitDefEqProofs only [↓yP, yT, Nat.reduceAdd, Nat.reduceMul, Nat.reduceSub, Nat.reduceLeDiff, Nat.reduceEqDiff, reduceCtorEq, Nat.reduceBEq, t3, w1]
        refine ⟨d - 1, [0, 1], by omega, by decide, pinned_zero _, i + 1, E, ?_, ?_, by omega, by rw [hs2]; exact hE1, by rw [hs2]; exact hE2⟩
        · simp only [yE, Nat.reduceEqDiff, Nat.reduceAdd, reduceCtorEq, hs2]
        · simp only [yE, Nat.reduceEqDiff, Nat.reduceAdd, reduceCtorEq, hset]
      · have t3 : eqI (closes t.kind) 0 = false := eqI_false (by omega)
        have hs2 : openAt ts (i + 1) = openAt ts i ++ [closes t.kind] := by rw [hsucc, nestStep, if_neg (by rw [hol0]; simp [hck]), if_pos hc]
        have b4 : ((openAt ts i).length + 1) * 8 ≤ 70368744177664 := by omega
        have hE3 : (List.map ei (openAt ts i) ++ [[PC.d (.int .i64 (closes t.kind))]]) = (openAt ts (i + 1)).map ei := by rw [hs2, List.map_append]; rfl
        by_cases c20 : closes t.kind = 20
        · have t4 : eqI (closes t.kind) 20 = true := by rw [c20]; rfl
          simp -implicitDefEqProofs only [↓yP, yT, Nat.reduceAdd, Nat.reduceMul, Nat.reduceSub, Nat.reduceLeDiff, Nat.reduceEqDiff, reduceCtorEq, Nat.reduceBEq, t3, t4, w1, hE1, hE2, b4]
          refine ⟨d - 1, [0, 4], by omega, by decide, pinned_zero _, i + 1, List.map ei (openAt ts i) ++ [[PC.d (.int .i64 (closes t.kind))]], ?_, ?_, by omega, ?_, ?_⟩
          · simp only [yE, Nat.reduceEqDiff, Nat.reduceAdd, reduceCtorEq, hs2, cnt_snoc, if_pos c20]
          · simp only [yE, Nat.reduceEqDiff, Nat.reduceAdd, reduceCtorEq, hset]
          · rw [hE3]; simp
          · rw [hE3, take_map_len]
        · have t4 : eqI (closes t.kind) 20 = false := eqI_false c20
          have w4 : wrapK .i64 ((cnt (openAt ts i) : Int) + 1) = ((cnt (openAt ts i) + 1 : Nat) : Int) := wrap_succ (by omega)
          simp -implicitDefEqProofs only [↓yP, yT, Nat.reduceAdd, Nat.reduceMul, Nat.reduceSub, Nat.reduceLeDiff, Nat.reduceEqDiff, reduceCtorEq, Nat.reduceBEq, t3, t4, w1, w4, hE1, hE2, b4]
          refine ⟨d - 1, [0, 4], by omega, by decide, pinned_zero _, i + 1, List.map ei (openAt ts i) ++ [[PC.d (.int .i64 (closes t.kind))]], ?_, ?_, by omega, ?_, ?_⟩
          · simp only [yE, Nat.reduceEqDiff, Nat.reduceAdd, reduceCtorEq, hs2, cnt_snoc, if_neg c20]
          · simp only [yE, Nat.reduceEqDiff, Nat.reduceAdd, reduceCtorEq, hset]
          · rw [hE3]; simp
          · rw [hE3, take_map_len]
    · have ho : (openAt ts i).length ≠ 0 := by intro h0; rw [List.length_eq_zero_iff.mp h0] at hol0; cases hol0
      have t2 : leI ((openAt ts i).length : Nat) 0 = false := leI_false (by omega)
      have w2 : wrapK .i64 (((openAt ts i).length : Int) - 1) = (((openAt ts i).length - 1 : Nat) : Int) := wrap_pred (by omega) (by omega)
      have hlast : (openAt ts i)[(openAt ts i).length - 1]? = some c := by rw [← List.getLast?_eq_getElem?]; exact hol0
      have hlE : E[(openAt ts i).length - 1]? = some (ei c) := by
        have h1 := get_map (f := ei) hlast
        rw [← hE2, List.getElem?_take, if_pos (by omega)] at h1; exact h1
      have ilt2 : (((openAt ts i).length - 1 : Nat) : Int) < ((openAt ts i).length : Nat) := by omega
      by_cases hck : c = t.kind
      · subst hck
        have hsn := snoc_of_last hol0
        have hkc := open_kinds ts i t.kind (List.mem_of_getElem? hlast)
        have hl1 : (openAt ts i).dropLast.length = (openAt ts i).length - 1 := by simp
        have l6 : (((openAt ts i).length - 1 : Nat) : Int) ≤ ((openAt ts i).length : Nat) := by omega
        have hs2 : openAt ts (i + 1) = (openAt ts i).dropLast := by rw [hsucc, nestStep, hol0, if_pos rfl]
        have hpl : ep (pl ts i) = [.d (.int .i64 ((openAt ts i).length - 1 : Nat)), .d (.bool (allBlocks (openAt ts i).dropLast)), .d (.bool true)] := by
          simp [pl, plOf, ep, hol0, hk]
        rw [hpl] at hset
        have hcl : closes t.kind = 0 := closes_shut hkc
        have hE3 : E.take ((openAt ts i).length - 1) = (openAt ts i).dropLast.map ei := by
          rw [List.dropLast_eq_take, List.map_take, ← hE2, List.take_take, Nat.min_eq_left (by omega)]
        have hcn2 : cnt (openAt ts i) = cnt (openAt ts i).dropLast + (if t.kind = 20 then 0 else 1) := by
          rw [← cnt_snoc, ← hsn]
        by_cases c20 : t.kind = 20
        · have t4 : eqI t.kind 20 = true := by rw [c20]; rfl
          rw [if_pos c20, Nat.add_zero] at hcn2
          simp -implicitDefEqProofs only [↓yP, yT, Nat.reduceAdd, Nat.reduceMul, Nat.reduceSub, Nat.reduceLeDiff, Nat.reduceEqDiff, reduceCtorEq, Nat.reduceBEq, t2, hg, hsg, zp, ilt, w2, ilt2, hlE, ei, eqI_true, t4, l6, hcn2, cnt_blocks]
          refine Rcall_pure (closer_spec t.kind) (by rfl) fun y hy => ?_
          subst hy
          have t3 : eqI (closes t.kind) 0 = true := by rw [hcl]; rfl
          simp -implicitDefEqProofs only [↓yP, yT, Nat.reduceAdd, Nat.reduceMul, Nat.reduceSub, Nat.reduceLeDiff, Nat.reduceEqDiff, reduceCtorEq, Nat.reduceBEq, t3, w1]
          refine ⟨d - 1, [0, 1], by omega, by decide, pinned_zero _, i + 1, E, ?_, ?_, by omega, by rw [hs2, hl1]; omega, by rw [hs2, hl1]; exact hE3⟩
          · simp only [yE, Nat.reduceEqDiff, Nat.reduceAdd, reduceCtorEq, hs2, hl1]
          · simp only [yE, Nat.reduceEqDiff, Nat.reduceAdd, reduceCtorEq, hset]
        · have t4 : eqI t.kind 20 = false := eqI_false c20
          rw [if_neg c20] at hcn2
          have w4 : wrapK .i64 ((((cnt (openAt ts i).dropLast + 1 : Nat)) : Int) - 1) = ((cnt (openAt ts i).dropLast : Nat) : Int) := wrap_pred (by omega) (by omega)
          simp -implicitDefEqProofs only [↓yP, yT, Nat.reduceAdd, Nat.reduceMul, Nat.reduceSub, Nat.reduceLeDiff, Nat.reduceEqDiff, reduceCtorEq, Nat.reduceBEq, t2, hg, hsg, zp, ilt, w2, ilt2, hlE, ei, eqI_true, t4, l6, hcn2, w4, cnt_blocks]
          refine Rcall_pure (closer_spec t.kind) (by rfl) fun y hy => ?_
          subst hy
          have t3 : eqI (closes t.kind) 0 = true := by rw [hcl]; rfl
          simp -implicitDefEqProofs only [↓yP, yT, Nat.reduceAdd, Nat.reduceMul, Nat.reduceSub, Nat.reduceLeDiff, Nat.reduceEqDiff, reduceCtorEq, Nat.reduceBEq, t3, w1]
          refine ⟨d - 1, [0, 1], by omega, by decide, pinned_zero _, i + 1, E, ?_, ?_, by omega, by rw [hs2, hl1]; omega, by rw [hs2, hl1]; exact hE3⟩
          · simp only [yE, Nat.reduceEqDiff, Nat.reduceAdd, reduceCtorEq, hs2, hl1]
          · simp only [yE, Nat.reduceEqDiff, Nat.reduceAdd, reduceCtorEq, hset]
      · have e1 : eqI c t.kind = false := eqI_false hck
        have hpl : ep (pl ts i) = [.d (.int .i64 ((openAt ts i).length : Nat)), .d (.bool (allBlocks (openAt ts i))), .d (.bool false)] := by
          simp [pl, plOf, ep, hol0, hk, hck]
        rw [hpl] at hset
        simp -implicitDefEqProofs only [↓yP, yT, Nat.reduceAdd, Nat.reduceMul, Nat.reduceSub, Nat.reduceLeDiff, Nat.reduceEqDiff, reduceCtorEq, Nat.reduceBEq, t2, hg, hsg, zp, cnt_blocks, ilt, w2, ilt2, hlE, ei, e1]
        refine Rcall_pure (closer_spec t.kind) (by rfl) fun y hy => ?_
        subst hy
        rcases closes_pos t.kind with hc | hc
        · have t3 : eqI (closes t.kind) 0 = true := by rw [hc]; rfl
          have hs2 : openAt ts (i + 1) = openAt ts i := by rw [hsucc, nestStep, if_neg (by rw [hol0]; simp [hck]), if_neg (by omega)]
          simp -implicitDefEqProofs only [↓yP, yT, Nat.reduceAdd, Nat.reduceMul, Nat.reduceSub, Nat.reduceLeDiff, Nat.reduceEqDiff, reduceCtorEq, Nat.reduceBEq, t3, w1]
          refine ⟨d - 1, [0, 1], by omega, by decide, pinned_zero _, i + 1, E, ?_, ?_, by omega, by rw [hs2]; exact hE1, by rw [hs2]; exact hE2⟩
          · simp only [yE, Nat.reduceEqDiff, Nat.reduceAdd, reduceCtorEq, hs2]
          · simp only [yE, Nat.reduceEqDiff, Nat.reduceAdd, reduceCtorEq, hset]
        · have t3 : eqI (closes t.kind) 0 = false := eqI_false (by omega)
          have hs2 : openAt ts (i + 1) = openAt ts i ++ [closes t.kind] := by rw [hsucc, nestStep, if_neg (by rw [hol0]; simp [hck]), if_pos hc]
          have b4 : ((openAt ts i).length + 1) * 8 ≤ 70368744177664 := by omega
          have hE3 : (List.map ei (openAt ts i) ++ [[PC.d (.int .i64 (closes t.kind))]]) = (openAt ts (i + 1)).map ei := by rw [hs2, List.map_append]; rfl
          by_cases c20 : closes t.kind = 20
          · have t4 : eqI (closes t.kind) 20 = true := by rw [c20]; rfl
            simp -implicitDefEqProofs only [↓yP, yT, Nat.reduceAdd, Nat.reduceMul, Nat.reduceSub, Nat.reduceLeDiff, Nat.reduceEqDiff, reduceCtorEq, Nat.reduceBEq, t3, t4, w1, hE1, hE2, b4]
            refine ⟨d - 1, [0, 4], by omega, by decide, pinned_zero _, i + 1, List.map ei (openAt ts i) ++ [[PC.d (.int .i64 (closes t.kind))]], ?_, ?_, by omega, ?_, ?_⟩
            · simp only [yE, Nat.reduceEqDiff, Nat.reduceAdd, reduceCtorEq, hs2, cnt_snoc, if_pos c20]
            · simp only [yE, Nat.reduceEqDiff, Nat.reduceAdd, reduceCtorEq, hset]
            · rw [hE3]; simp
            · rw [hE3, take_map_len]
          · have t4 : eqI (closes t.kind) 20 = false := eqI_false c20
            have w4 : wrapK .i64 ((cnt (openAt ts i) : Int) + 1) = ((cnt (openAt ts i) + 1 : Nat) : Int) := wrap_succ (by omega)
            simp -implicitDefEqProofs only [↓yP, yT, Nat.reduceAdd, Nat.reduceMul, Nat.reduceSub, Nat.reduceLeDiff, Nat.reduceEqDiff, reduceCtorEq, Nat.reduceBEq, t3, t4, w1, w4, hE1, hE2, b4]
            refine ⟨d - 1, [0, 4], by omega, by decide, pinned_zero _, i + 1, List.map ei (openAt ts i) ++ [[PC.d (.int .i64 (closes t.kind))]], ?_, ?_, by omega, ?_, ?_⟩
            · simp only [yE, Nat.reduceEqDiff, Nat.reduceAdd, reduceCtorEq, hs2, cnt_snoc, if_neg c20]
            · simp only [yE, Nat.reduceEqDiff, Nat.reduceAdd, reduceCtorEq, hset]
            · rw [hE3]; simp
            · rw [hE3, take_map_len]
  · have t1 : leI (ts.length : Nat) (i : Nat) = true := leI_true (by omega)
    have : i = ts.length := by omega
    subst this
    have hf : plTo ts ts.length = (List.range ts.length).map (plE ts) := by simp [plTo, plE]
    have hl2 : ts.length ≤ (plTo ts ts.length).length := by rw [plTo_length (Nat.le_refl _)]; omega
    have hl3 : (plTo ts ts.length).take ts.length = plTo ts ts.length := List.take_of_length_le (by rw [plTo_length (Nat.le_refl _)]; omega)
    simp -implicitDefEqProofs only [↓yP, yT, Nat.reduceAdd, Nat.reduceMul, Nat.reduceSub, Nat.reduceLeDiff, Nat.reduceEqDiff, reduceCtorEq, Nat.reduceBEq, t1, hl2, hl3]
    rw [hf]
end Go.Vx.Seat
end
/- plain and Colons. -/
section
open Go Go.Vx Go.Proofs
set_option linter.unusedSimpArgs false
set_option linter.unusedVariables false
set_option maxRecDepth 10000
set_option maxHeartbeats 4000000
namespace Go.Vx.Seat
attribute [local congr] Rg_at Rt_at Ro_at Ri_at Rc_at Rto_at Rtk_at Rtf_at Rti_at
attribute [local irreducible] Rg Rt Ro Ri Rc Rto Rtk Rtf Rti Rw Rl Rd Rcall Rtcall kf
theorem fn29 : nth C1.P.funcs.toList 29 = some Try.f29 := by kernel_rfl
theorem fn10 : nth C1.P.funcs.toList 10 = some Try.f10 := by kernel_rfl
theorem plGet {ts : List Tok} {i : Nat} (h : i < ts.length) : ((List.range ts.length).map (plE ts))[i]? = some [.d (.int .i64 ((pl ts i).1 : Nat)), .d (.bool (pl ts i).2.1), .d (.bool (pl ts i).2.2)] := by simp [h, plE, ep]
/-- Does what is behind, nested as it is, come to an end without a block? -/
def plainFrom (ts : List Tok) (i : Nat) : Nat → Nat → Bool
  | 0, _ => true
  | d + 1, k => if (pl ts k).1 < (pl ts i).1 then true else if (pl ts k).1 = (pl ts i).1 ∧ partK (kindAt ts k) = true then !decide (kindAt ts k = 19) else plainFrom ts i d (k + 1)
def plainAt (ts : List Tok) (i : Nat) : Bool := plainFrom ts i (ts.length - (i + 1)) (i + 1)

theorem pl_le (ts : List Tok) (i : Nat) : (pl ts i).1 ≤ i := by
  have := openAt_length ts i
  unfold pl plOf
  simp only
  split
  · simp; omega
  · exact this

theorem plain_spec (ts : List Tok) (i : Nat) (hl : ts.length ≤ 1000000) (hi : i < ts.length) : PCall C1 29 [.c (.p (rT ts)), .c (.p (rP ts)), yd (.int .i64 i)] fun y => y = yd (.bool (plainAt ts i)) := by
  refine Pf (by rfl) (by rfl) fn29 (by rfl) ?_
  simp only [Try.f29, List.length_cons, List.length_nil, List.replicate, List.cons_append, List.nil_append]
  have w1 : wrapK .i64 ((i : Int) + 1) = ((i + 1 : Nat) : Int) := wrap_succ (by omega)
  simp -implicitDefEqProofs only [↓yP, yT, Nat.reduceAdd, Nat.reduceMul, Nat.reduceSub, Nat.reduceLeDiff, Nat.reduceEqDiff, reduceCtorEq, Nat.reduceBEq, w1]
  refine Rl_inv (fun d e s => ∃ k : Nat, e = [.c (.p (rT ts)), .c (.p (rP ts)), yd (.int .i64 i), .c .top, .c .top, .c .top, .c .top, yd (.int .i64 k), .c .top, .c .top, .c .top, .c .top, .c .top, .c .top, .c .top, .c .top, .c .top, .c .top, .c .top, .c .top, .c .top, .c .top, .c .top, .c .top, .c .top, .c .top, .c .top, .c .top, .c .top, .c .top, .c .top, .c .top, .c .top, .c .top, .c .top, .c .top, .c .top, .c .top, .c .top, .c .top, .c .top, .c .top, .c .top, .c .top, .c .top, .c .top, .c .top, .c .top, .c .top, .c .top, .c .top, .c .top, .c .top] ∧ s = [] ∧ k + d = ts.length ∧ plainFrom ts i d k = plainAt ts i) [true, true, true, false, false, false, false, true] (ts.length - (i + 1)) [] (by decide) (pinned_zero _)
    ⟨i + 1, by simp only [yE, Nat.reduceEqDiff, Nat.reduceAdd, reduceCtorEq], rfl, by omega, rfl⟩ ?_
  rintro d e s ⟨k, rfl, rfl, hd, hp⟩
  have hli := pl_le ts i
  by_cases hk : k < ts.length
  · obtain ⟨t, ht⟩ := get_lt hk
    have hkk := kindAt_some ht
    have hlk := pl_le ts k
    have t1 : leI (ts.length : Nat) (k : Nat) = false := leI_false (by omega)
    have w2 : wrapK .i64 ((k : Int) + 1) = ((k + 1 : Nat) : Int) := wrap_succ (by omega)
    have hd1 : d = (d - 1) + 1 := by omega
    simp -implicitDefEqProofs only [↓yP, yT, Nat.reduceAdd, Nat.reduceMul, Nat.reduceSub, Nat.reduceLeDiff, Nat.reduceEqDiff, reduceCtorEq, Nat.reduceBEq, t1]
    refine Rd_calm (by rw [C1_P]; kernel_rfl) ?_
    by_cases c1 : (pl ts k).1 < (pl ts i).1
    · have t2 : leI ((pl ts i).1 : Nat) ((pl ts k).1 : Nat) = false := leI_false (by omega)
      simp -implicitDefEqProofs only [↓yP, yT, Nat.reduceAdd, Nat.reduceMul, Nat.reduceSub, Nat.reduceLeDiff, Nat.reduceEqDiff, reduceCtorEq, Nat.reduceBEq, plGet hk, plGet hi, t2]
      rw [← hp, hd1, plainFrom, if_pos c1]
    have t2 : leI ((pl ts i).1 : Nat) ((pl ts k).1 : Nat) = true := leI_true (by omega)
    simp -implicitDefEqProofs only [↓yP, yT, Nat.reduceAdd, Nat.reduceMul, Nat.reduceSub, Nat.reduceLeDiff, Nat.reduceEqDiff, reduceCtorEq, Nat.reduceBEq, plGet hk, plGet hi, t2]
    refine Rd_calm (by rw [C1_P]; kernel_rfl) ?_
    by_cases c2 : (pl ts k).1 = (pl ts i).1
    · have t3 : eqI ((pl ts k).1 : Nat) ((pl ts i).1 : Nat) = true := by rw [c2]; exact eqI_true _
      simp -implicitDefEqProofs only [↓yP, yT, Nat.reduceAdd, Nat.reduceMul, Nat.reduceSub, Nat.reduceLeDiff, Nat.reduceEqDiff, reduceCtorEq, Nat.reduceBEq, plGet hk, plGet hi, t3, get_map ht, Tok.pc]
      refine Rcall_pure (cpart_spec t) (by rfl) fun y hy => ?_
      subst hy
      cases hpk : partK t.kind with
      | true =>
        by_cases q1 : t.kind = 19
        · have f1 : eqI t.kind 19 = true := by rw [q1]; rfl
          simp -implicitDefEqProofs only [↓yP, yT, Nat.reduceAdd, Nat.reduceMul, Nat.reduceSub, Nat.reduceLeDiff, Nat.reduceEqDiff, reduceCtorEq, Nat.reduceBEq, get_map ht, Tok.pc, f1]
          rw [← hp, hd1, plainFrom, if_neg c1, if_pos ⟨c2, by rw [hkk]; exact hpk⟩, hkk]
          simp [q1]
        · have f1 : eqI t.kind 19 = false := eqI_false q1
          simp -implicitDefEqProofs only [↓yP, yT, Nat.reduceAdd, Nat.reduceMul, Nat.reduceSub, Nat.reduceLeDiff, Nat.reduceEqDiff, reduceCtorEq, Nat.reduceBEq, get_map ht, Tok.pc, f1]
          rw [← hp, hd1, plainFrom, if_neg c1, if_pos ⟨c2, by rw [hkk]; exact hpk⟩, hkk]
          simp [q1]
      | false =>
        simp -implicitDefEqProofs only [↓yP, yT, Nat.reduceAdd, Nat.reduceMul, Nat.reduceSub, Nat.reduceLeDiff, Nat.reduceEqDiff, reduceCtorEq, Nat.reduceBEq, w2]
        refine ⟨d - 1, [], by omega, by decide, pinned_zero _, k + 1, ?_, rfl, by omega, ?_⟩
        · simp only [yE, Nat.reduceEqDiff, Nat.reduceAdd, reduceCtorEq]
        · rw [← hp, hd1, plainFrom, if_neg c1, if_neg (by rw [hkk, hpk]; simp)]; rfl
    · have t3 : eqI ((pl ts k).1 : Nat) ((pl ts i).1 : Nat) = false := eqI_false (by omega)
      simp -implicitDefEqProofs only [↓yP, yT, Nat.reduceAdd, Nat.reduceMul, Nat.reduceSub, Nat.reduceLeDiff, Nat.reduceEqDiff, reduceCtorEq, Nat.reduceBEq, plGet hk, plGet hi, t3, w2]
      refine ⟨d - 1, [], by omega, by decide, pinned_zero _, k + 1, ?_, rfl, by omega, ?_⟩
      · simp only [yE, Nat.reduceEqDiff, Nat.reduceAdd, reduceCtorEq]
      · rw [← hp, hd1, plainFrom, if_neg c1, if_neg (by simp [c2])]; rfl
  · have t1 : leI (ts.length : Nat) (k : Nat) = true := leI_true (by omega)
    have hd0 : d = 0 := by omega
    simp -implicitDefEqProofs only [↓yP, yT, Nat.reduceAdd, Nat.reduceMul, Nat.reduceSub, Nat.reduceLeDiff, Nat.reduceEqDiff, reduceCtorEq, Nat.reduceBEq, t1]
    rw [← hp, hd0, plainFrom]

/-- How many tokens there are since the last part, and whether the last one is a name. -/
def since (ts : List Tok) : Nat → Nat × Bool
  | 0 => (0, false)
  | i + 1 => if quiet (kindAt ts i) = true then since ts i else if partK (kindAt ts i) = true ∧ (pl ts i).2.1 = true then (0, (since ts i).2) else ((since ts i).1 + 1, decide (kindAt ts i = 1))
theorem since_le (ts : List Tok) : ∀ i, (since ts i).1 ≤ i
  | 0 => by simp [since]
  | i + 1 => by
    have := since_le ts i
    unfold since
    split
    · omega
    · split
      · simp
      · simp; omega
def isColon (ts : List Tok) (i : Nat) : Bool := decide (kindAt ts i = 16) && (pl ts i).2.1 && decide (0 < (pl ts i).1) && decide ((since ts i).1 = 1) && (since ts i).2 && plainAt ts i
def colonsP (ts : List Tok) (n : Nat) : List Int := ((List.range n).filter (isColon ts)).map fun i : Nat => (i : Int)
theorem colonsP_yes {ts : List Tok} {n : Nat} (h : isColon ts n = true) : colonsP ts (n + 1) = colonsP ts n ++ [(n : Int)] := by simp [colonsP, List.range_succ, h]
theorem colonsP_no {ts : List Tok} {n : Nat} (h : isColon ts n = false) : colonsP ts (n + 1) = colonsP ts n := by simp [colonsP, List.range_succ, h]
theorem colonsP_length (ts : List Tok) (n : Nat) : (colonsP ts n).length ≤ n := by
  have := List.length_filter_le (isColon ts) (List.range n)
  simpa [colonsP] using this

theorem colonsP_spec (ts : List Tok) (hl : ts.length ≤ 1000000) : PCall C1 10 [.c (.p (rT ts))] fun y => y = .c (.p (rI (colonsP ts ts.length))) := by
  refine Pf (by rfl) (by rfl) fn10 (by rfl) ?_
  simp only [Try.f10, List.length_cons, List.length_nil, List.replicate, List.cons_append, List.nil_append]
  simp -implicitDefEqProofs only [↓yP, yT, Nat.reduceAdd, Nat.reduceMul, Nat.reduceSub, Nat.reduceLeDiff, Nat.reduceEqDiff, reduceCtorEq, Nat.reduceBEq]
  refine Rcall_pure (places_spec ts hl) (by rfl) fun y hy => ?_
  subst hy
  simp -implicitDefEqProofs only [↓yP, yT, Nat.reduceAdd, Nat.reduceMul, Nat.reduceSub, Nat.reduceLeDiff, Nat.reduceEqDiff, reduceCtorEq, Nat.reduceBEq]
  refine Rl_nil 4 1 (by decide) rfl ?_
  refine Rl_inv (fun d e s => ∃ i : Nat, e = [.c (.p (rT ts)), .c .top, .c .top, .c (.p (rP ts)), .c (.own 0 1 0 (colonsP ts i).length), yd (.int .i64 (since ts i).1), yd (.bool (since ts i).2), .c .top, .c .top, .c .top, .c .top, .c (.p (rT ts)), yd (.int .i64 ts.length), yd (.int .i64 i), .c .top, .c .top, .c .top, .c .top, .c .top, .c .top, .c .top, .c .top, .c .top, .c .top, .c .top, .c .top, .c .top, .c .top, .c .top, .c .top, .c .top, .c .top, .c .top, .c .top, .c .top, .c .top, .c .top, .c .top, .c .top, .c .top, .c .top, .c .top, .c .top, .c .top, .c .top, .c .top, .c .top, .c .top, .c .top, .c .top, .c .top, .c .top, .c .top, .c .top, .c .top, .c .top, .c .top, .c .top, .c .top, .c .top, .c .top, .c .top, .c .top, .c .top, .c .top, .c .top, .c .top, .c .top, .c .top, .c .top, .c .top, .c .top, .c .top, .c .top] ∧ s = [.row 1 ((colonsP ts i).map ei)] ∧ i + d = ts.length)
    [true, false, false, true, true, true, true, false, false, false, false, true, true, true] ts.length [0] (by decide) (pinned_zero _) ⟨0, by simp only [yE, Nat.reduceEqDiff, Nat.reduceAdd, reduceCtorEq]; rfl, by simp only [yE, Nat.reduceEqDiff, Nat.reduceAdd, reduceCtorEq]; rfl, by omega⟩ ?_
  rintro d e s ⟨i, rfl, rfl, hd⟩
  by_cases hi : i < ts.length
  · obtain ⟨t, ht⟩ := get_lt hi
    have hk := kindAt_some ht
    have hli := pl_le ts i
    have hsl := since_le ts i
    have hcl := colonsP_length ts i
    have bcol : ((colonsP ts i).length + 1) * 8 ≤ 70368744177664 := by omega
    have t1 : leI (ts.length : Nat) (i : Nat) = false := leI_false (by omega)
    have w1 : wrapK .i64 ((i : Int) + 1) = ((i + 1 : Nat) : Int) := wrap_succ (by omega)
    have w3 : wrapK .i64 (((since ts i).1 : Int) + 1) = (((since ts i).1 + 1 : Nat) : Int) := wrap_succ (by omega)
    simp -implicitDefEqProofs only [↓yP, yT, Nat.reduceAdd, Nat.reduceMul, Nat.reduceSub, Nat.reduceLeDiff, Nat.reduceEqDiff, reduceCtorEq, Nat.reduceBEq, t1, get_map ht, Tok.pc]
    refine Rcall_pure (blank_spec t) (by rfl) fun y hy => ?_
    subst hy
    cases hq : quiet t.kind with
    | true =>
      have hno : isColon ts i = false := by
        simp only [quiet, Bool.or_eq_true, decide_eq_true_eq] at hq
        have : t.kind ≠ 16 := by omega
        simp [isColon, hk, this]
      have hsin : since ts (i + 1) = since ts i := by rw [since, hk, if_pos hq]
      simp -implicitDefEqProofs only [↓yP, yT, Nat.reduceAdd, Nat.reduceMul, Nat.reduceSub, Nat.reduceLeDiff, Nat.reduceEqDiff, reduceCtorEq, Nat.reduceBEq, w1]
      refine ⟨d - 1, [0], by omega, by decide, pinned_zero _, i + 1, ?_, ?_, by omega⟩
      · simp only [yE, Nat.reduceEqDiff, Nat.reduceAdd, reduceCtorEq, colonsP_no hno, hsin]
      · simp only [yE, Nat.reduceEqDiff, Nat.reduceAdd, reduceCtorEq, colonsP_no hno]
    | false =>
      have hq' : ¬ quiet (kindAt ts i) = true := by rw [hk, hq]; simp
      simp -implicitDefEqProofs only [↓yP, yT, Nat.reduceAdd, Nat.reduceMul, Nat.reduceSub, Nat.reduceLeDiff, Nat.reduceEqDiff, reduceCtorEq, Nat.reduceBEq]
      refine Rcall_pure (cpart_spec t) (by rfl) fun y hy => ?_
      subst hy
      by_cases hpb : partK t.kind = true ∧ (pl ts i).2.1 = true
      · obtain ⟨hp1, hp2⟩ := hpb
        have hno : isColon ts i = false := by
          simp only [partK, Bool.or_eq_true, decide_eq_true_eq] at hp1
          have : t.kind ≠ 16 := by omega
          simp [isColon, hk, this]
        have hsin : since ts (i + 1) = (0, (since ts i).2) := by rw [since, if_neg hq', hk, if_pos ⟨hp1, hp2⟩]
        simp -implicitDefEqProofs only [↓yP, yT, Nat.reduceAdd, Nat.reduceMul, Nat.reduceSub, Nat.reduceLeDiff, Nat.reduceEqDiff, reduceCtorEq, Nat.reduceBEq, hp1, plGet hi, hp2, w1]
        refine ⟨d - 1, [0], by omega, by decide, pinned_zero _, i + 1, ?_, ?_, by omega⟩
        · simp only [yE, Nat.reduceEqDiff, Nat.reduceAdd, reduceCtorEq, colonsP_no hno, hsin]
          rfl
        · simp only [yE, Nat.reduceEqDiff, Nat.reduceAdd, reduceCtorEq, colonsP_no hno]
      · have hsin : since ts (i + 1) = ((since ts i).1 + 1, decide (t.kind = 1)) := by rw [since, if_neg hq', hk, if_neg hpb]
        cases hp1 : partK t.kind with
        | true =>
          have hp2 : (pl ts i).2.1 = false := by
            cases hb : (pl ts i).2.1 with
            | false => rfl
            | true => exact absurd ⟨hp1, hb⟩ hpb
          have k16 : t.kind ≠ 16 := by
            simp only [partK, Bool.or_eq_true, decide_eq_true_eq] at hp1
            omega
          have f1 : eqI t.kind 16 = false := eqI_false k16
          have hno : isColon ts i = false := by simp [isColon, hk, k16]
          simp -implicitDefEqProofs only [↓yP, yT, Nat.reduceAdd, Nat.reduceMul, Nat.reduceSub, Nat.reduceLeDiff, Nat.reduceEqDiff, reduceCtorEq, Nat.reduceBEq, plGet hi, hp2, f1, w1, w3]
          refine Rd_calm (by rw [C1_P]; kernel_rfl) ?_
          simp -implicitDefEqProofs only [↓yP, yT, Nat.reduceAdd, Nat.reduceMul, Nat.reduceSub, Nat.reduceLeDiff, Nat.reduceEqDiff, reduceCtorEq, Nat.reduceBEq, w1, w3]
          refine ⟨d - 1, [0], by omega, by decide, pinned_zero _, i + 1, ?_, ?_, by omega⟩
          · simp only [yE, Nat.reduceEqDiff, Nat.reduceAdd, reduceCtorEq, colonsP_no hno, hsin, eqI_eq]
          · simp only [yE, Nat.reduceEqDiff, Nat.reduceAdd, reduceCtorEq, colonsP_no hno]
        | false =>
          by_cases k16 : t.kind = 16
          · have f1 : eqI t.kind 16 = true := by rw [k16]; rfl
            cases hb : (pl ts i).2.1 with
            | false =>
              have hno : isColon ts i = false := by simp [isColon, hb]
              simp -implicitDefEqProofs only [↓yP, yT, Nat.reduceAdd, Nat.reduceMul, Nat.reduceSub, Nat.reduceLeDiff, Nat.reduceEqDiff, reduceCtorEq, Nat.reduceBEq, plGet hi, hb, f1, w1, w3]
              refine Rd_calm (by rw [C1_P]; kernel_rfl) ?_
              simp -implicitDefEqProofs only [↓yP, yT, Nat.reduceAdd, Nat.reduceMul, Nat.reduceSub, Nat.reduceLeDiff, Nat.reduceEqDiff, reduceCtorEq, Nat.reduceBEq, w1, w3]
              refine ⟨d - 1, [0], by omega, by decide, pinned_zero _, i + 1, ?_, ?_, by omega⟩
              · simp only [yE, Nat.reduceEqDiff, Nat.reduceAdd, reduceCtorEq, colonsP_no hno, hsin, eqI_eq]
              · simp only [yE, Nat.reduceEqDiff, Nat.reduceAdd, reduceCtorEq, colonsP_no hno]
            | true =>
              by_cases hd0 : 0 < (pl ts i).1
              · have f2 : leI ((pl ts i).1 : Nat) 0 = false := leI_false (by omega)
                by_cases hn1 : (since ts i).1 = 1
                · have f3 : eqI ((since ts i).1 : Nat) 1 = true := by rw [hn1]; rfl
                  cases hid : (since ts i).2 with
                  | false =>
                    have hno : isColon ts i = false := by simp [isColon, hid]
                    simp -implicitDefEqProofs only [↓yP, yT, Nat.reduceAdd, Nat.reduceMul, Nat.reduceSub, Nat.reduceLeDiff, Nat.reduceEqDiff, reduceCtorEq, Nat.reduceBEq, plGet hi, hb, f1, f2, f3, w1, w3]
                    refine Rd_calm (by rw [C1_P]; kernel_rfl) ?_
                    simp -implicitDefEqProofs only [↓yP, yT, Nat.reduceAdd, Nat.reduceMul, Nat.reduceSub, Nat.reduceLeDiff, Nat.reduceEqDiff, reduceCtorEq, Nat.reduceBEq, w1, w3]
                    refine ⟨d - 1, [0], by omega, by decide, pinned_zero _, i + 1, ?_, ?_, by omega⟩
                    · simp only [yE, Nat.reduceEqDiff, Nat.reduceAdd, reduceCtorEq, colonsP_no hno, hsin, eqI_eq]
                    · simp only [yE, Nat.reduceEqDiff, Nat.reduceAdd, reduceCtorEq, colonsP_no hno]
                  | true =>
                    simp -implicitDefEqProofs only [↓yP, yT, Nat.reduceAdd, Nat.reduceMul, Nat.reduceSub, Nat.reduceLeDiff, Nat.reduceEqDiff, reduceCtorEq, Nat.reduceBEq, plGet hi, hb, f1, f2, f3]
                    refine Rcall_pure (plain_spec ts i hl hi) (by rfl) fun y hy => ?_
                    subst hy
                    cases hpl : plainAt ts i with
                    | false =>
                      have hno : isColon ts i = false := by simp [isColon, hpl]
                      simp -implicitDefEqProofs only [↓yP, yT, Nat.reduceAdd, Nat.reduceMul, Nat.reduceSub, Nat.reduceLeDiff, Nat.reduceEqDiff, reduceCtorEq, Nat.reduceBEq, w1, w3]
                      refine Rd_calm (by rw [C1_P]; kernel_rfl) ?_
                      simp -implicitDefEqProofs only [↓yP, yT, Nat.reduceAdd, Nat.reduceMul, Nat.reduceSub, Nat.reduceLeDiff, Nat.reduceEqDiff, reduceCtorEq, Nat.reduceBEq, w1, w3]
                      refine ⟨d - 1, [0], by omega, by decide, pinned_zero _, i + 1, ?_, ?_, by omega⟩
                      · simp only [yE, Nat.reduceEqDiff, Nat.reduceAdd, reduceCtorEq, colonsP_no hno, hsin, eqI_eq]
                      · simp only [yE, Nat.reduceEqDiff, Nat.reduceAdd, reduceCtorEq, colonsP_no hno]
                    | true =>
                      have hyes : isColon ts i = true := by simp [isColon, hk, k16, hb, hd0, hn1, hid, hpl]
                      simp -implicitDefEqProofs only [↓yP, yT, Nat.reduceAdd, Nat.reduceMul, Nat.reduceSub, Nat.reduceLeDiff, Nat.reduceEqDiff, reduceCtorEq, Nat.reduceBEq, w1, w3, bcol]
                      refine Rd_calm (by rw [C1_P]; kernel_rfl) ?_
                      simp -implicitDefEqProofs only [↓yP, yT, Nat.reduceAdd, Nat.reduceMul, Nat.reduceSub, Nat.reduceLeDiff, Nat.reduceEqDiff, reduceCtorEq, Nat.reduceBEq, w1, w3]
                      refine ⟨d - 1, [3], by omega, by decide, pinned_zero _, i + 1, ?_, ?_, by omega⟩
                      · simp only [yE, Nat.reduceEqDiff, Nat.reduceAdd, reduceCtorEq, colonsP_yes hyes, hsin, eqI_eq]
                      · simp only [yE, Nat.reduceEqDiff, Nat.reduceAdd, reduceCtorEq, colonsP_yes hyes, List.map_append, ei]
                · have f3 : eqI ((since ts i).1 : Nat) 1 = false := eqI_false (by omega)
                  have hno : isColon ts i = false := by simp [isColon, hn1]
                  simp -implicitDefEqProofs only [↓yP, yT, Nat.reduceAdd, Nat.reduceMul, Nat.reduceSub, Nat.reduceLeDiff, Nat.reduceEqDiff, reduceCtorEq, Nat.reduceBEq, plGet hi, hb, f1, f2, f3, w1, w3]
                  refine Rd_calm (by rw [C1_P]; kernel_rfl) ?_
                  simp -implicitDefEqProofs only [↓yP, yT, Nat.reduceAdd, Nat.reduceMul, Nat.reduceSub, Nat.reduceLeDiff, Nat.reduceEqDiff, reduceCtorEq, Nat.reduceBEq, w1, w3]
                  refine ⟨d - 1, [0], by omega, by decide, pinned_zero _, i + 1, ?_, ?_, by omega⟩
                  · simp only [yE, Nat.reduceEqDiff, Nat.reduceAdd, reduceCtorEq, colonsP_no hno, hsin, eqI_eq]
                  · simp only [yE, Nat.reduceEqDiff, Nat.reduceAdd, reduceCtorEq, colonsP_no hno]
              · have f2 : leI ((pl ts i).1 : Nat) 0 = true := leI_true (by omega)
                have hno : isColon ts i = false := by simp [isColon, hd0]
                simp -implicitDefEqProofs only [↓yP, yT, Nat.reduceAdd, Nat.reduceMul, Nat.reduceSub, Nat.reduceLeDiff, Nat.reduceEqDiff, reduceCtorEq, Nat.reduceBEq, plGet hi, hb, f1, f2, w1, w3]
                refine Rd_calm (by rw [C1_P]; kernel_rfl) ?_
                simp -implicitDefEqProofs only [↓yP, yT, Nat.reduceAdd, Nat.reduceMul, Nat.reduceSub, Nat.reduceLeDiff, Nat.reduceEqDiff, reduceCtorEq, Nat.reduceBEq, w1, w3]
                refine ⟨d - 1, [0], by omega, by decide, pinned_zero _, i + 1, ?_, ?_, by omega⟩
                · simp only [yE, Nat.reduceEqDiff, Nat.reduceAdd, reduceCtorEq, colonsP_no hno, hsin, eqI_eq]
                · simp only [yE, Nat.reduceEqDiff, Nat.reduceAdd, reduceCtorEq, colonsP_no hno]
          · have f1 : eqI t.kind 16 = false := eqI_false k16
            have hno : isColon ts i = false := by simp [isColon, hk, k16]
            simp -implicitDefEqProofs only [↓yP, yT, Nat.reduceAdd, Nat.reduceMul, Nat.reduceSub, Nat.reduceLeDiff, Nat.reduceEqDiff, reduceCtorEq, Nat.reduceBEq, f1, w1, w3]
            refine Rd_calm (by rw [C1_P]; kernel_rfl) ?_
            simp -implicitDefEqProofs only [↓yP, yT, Nat.reduceAdd, Nat.reduceMul, Nat.reduceSub, Nat.reduceLeDiff, Nat.reduceEqDiff, reduceCtorEq, Nat.reduceBEq, w1, w3]
            refine ⟨d - 1, [0], by omega, by decide, pinned_zero _, i + 1, ?_, ?_, by omega⟩
            · simp only [yE, Nat.reduceEqDiff, Nat.reduceAdd, reduceCtorEq, colonsP_no hno, hsin, eqI_eq]
            · simp only [yE, Nat.reduceEqDiff, Nat.reduceAdd, reduceCtorEq, colonsP_no hno]
  · have t1 : leI (ts.length : Nat) (i : Nat) = true := leI_true (by omega)
    have : i = ts.length := by omega
    subst this
    simp -implicitDefEqProofs only [↓yP, yT, Nat.reduceAdd, Nat.reduceMul, Nat.reduceSub, Nat.reduceLeDiff, Nat.reduceEqDiff, reduceCtorEq, Nat.reduceBEq, t1]
end Go.Vx.Seat
end
/- BinarySearch; what the parsers ask of their tokens. -/
section
open Go Go.Vx Go.Proofs
set_option linter.unusedSimpArgs false
set_option linter.unusedVariables false
set_option maxRecDepth 10000
set_option maxHeartbeats 4000000
namespace Go.Vx.Seat
attribute [local congr] Rg_at Rt_at Ro_at Ri_at Rc_at Rto_at Rtk_at Rtf_at Rti_at
attribute [local irreducible] Rg Rt Ro Ri Rc Rto Rtk Rtf Rti Rw Rl Rd Rcall Rtcall kf
theorem fn89 : nth C1.P.funcs.toList 89 = some Try.f89 := by kernel_rfl
theorem fn110 : nth C1.P.funcs.toList 110 = some Try.f110 := by kernel_rfl
theorem fn111 : nth C1.P.funcs.toList 111 = some Try.f111 := by kernel_rfl
theorem fn121 : nth C1.P.funcs.toList 121 = some Try.f121 := by kernel_rfl
theorem isNaN1 (n : Int) : PCall C1 111 [yd (.int .i64 n)] fun y => y = yd (.bool false) := by
  refine Pf (by rfl) (by rfl) fn111 (by rfl) ?_
  simp only [Try.f111, List.length_cons, List.length_nil, List.replicate, List.cons_append, List.nil_append]
  simp -implicitDefEqProofs only [↓yP, yT, Nat.reduceAdd, Nat.reduceMul, Nat.reduceSub, Nat.reduceLeDiff, Nat.reduceEqDiff, reduceCtorEq, Nat.reduceBEq, eqI_true]
theorem isNaN2 (n : Int) : PCall C1 121 [yd (.int .i64 n)] fun y => y = yd (.bool false) := by
  refine Pf (by rfl) (by rfl) fn121 (by rfl) ?_
  simp only [Try.f121, List.length_cons, List.length_nil, List.replicate, List.cons_append, List.nil_append]
  simp -implicitDefEqProofs only [↓yP, yT, Nat.reduceAdd, Nat.reduceMul, Nat.reduceSub, Nat.reduceLeDiff, Nat.reduceEqDiff, reduceCtorEq, Nat.reduceBEq, eqI_true]
theorem less_spec (a b : Int) : PCall C1 110 [yd (.int .i64 a), yd (.int .i64 b)] fun y => y = yd (.bool (!leI b a)) := by
  refine Pf (by rfl) (by rfl) fn110 (by rfl) ?_
  simp only [Try.f110, List.length_cons, List.length_nil, List.replicate, List.cons_append, List.nil_append]
  simp -implicitDefEqProofs only [↓yP, yT, Nat.reduceAdd, Nat.reduceMul, Nat.reduceSub, Nat.reduceLeDiff, Nat.reduceEqDiff, reduceCtorEq, Nat.reduceBEq]
  refine Rcall_pure (isNaN2 a) (by rfl) fun y hy => ?_
  subst hy
  simp -implicitDefEqProofs only [↓yP, yT, Nat.reduceAdd, Nat.reduceMul, Nat.reduceSub, Nat.reduceLeDiff, Nat.reduceEqDiff, reduceCtorEq, Nat.reduceBEq]
theorem wrap_u64 {i : Nat} (h : i < 9000000000000000000) : wrapK .u64 ((i : Nat) : Int) = (i : Nat) := by
  rw [wrapK_eq]
  simp only [IntKind.wrap, IntKind.bits, IntKind.signed]
  have : (2 ^ 64 : Int) = 18446744073709551616 := by decide
  simp only [*, Bool.false_and, Bool.false_eq_true, if_false]
  omega
theorem shr_one (i : Nat) : xshift .shr .u64 ((i : Nat) : Int) 1 = some (.int .u64 ((i / 2 : Nat) : Int)) := by
  simp only [xshift, IntKind.bits]
  rw [if_neg (by omega)]
  congr 2
  show Int.fdiv (i : Int) (2 ^ (min 1 64)) = _
  rw [show (2 : Int) ^ (min 1 64) = 2 by decide, Int.fdiv_eq_ediv_of_nonneg _ (by omega)]
  omega
/-- Where a number stands in a rising list, or would. -/
def Stands (l : List Int) (n : Int) (k : Nat) : Prop := k ≤ l.length ∧ (∀ (j : Nat) (a : Int), j < k → l[j]? = some a → a < n) ∧ ∀ (j : Nat) (a : Int), k ≤ j → l[j]? = some a → n ≤ a
def Rising (l : List Int) : Prop := ∀ (i j : Nat) (a b : Int), i < j → l[i]? = some a → l[j]? = some b → a < b
theorem search_spec (l : List Int) (n : Int) (hl : l.length ≤ 1000000) (hr : Rising l) : PCall C1 89 [.c (.p (rI l)), yd (.int .i64 n)] fun y => ∃ (k : Nat) (b : Bool), y = .tup [yd (.int .i64 k), yd (.bool b)] ∧ Stands l n k ∧ (b = true ↔ l[k]? = some n) := by
  refine Pf (by rfl) (by rfl) fn89 (by rfl) ?_
  simp only [Try.f89, List.length_cons, List.length_nil, List.replicate, List.cons_append, List.nil_append]
  simp -implicitDefEqProofs only [↓yP, yT, Nat.reduceAdd, Nat.reduceMul, Nat.reduceSub, Nat.reduceLeDiff, Nat.reduceEqDiff, reduceCtorEq, Nat.reduceBEq]
  refine Rl_inv (fun d e s => ∃ i j : Nat, e = [.c (.p (rI l)), yd (.int .i64 n), .c .top, .c .top, .c .top, .c .top, yd (.int .i64 l.length), yd (.int .i64 i), yd (.int .i64 j), .c .top, .c .top, .c .top, .c .top, .c .top, .c .top, .c .top, .c .top, .c .top, .c .top, .c .top, .c .top, .c .top, .c .top, .c .top, .c .top, .c .top, .c .top, .c .top, .c .top, .c .top, .c .top, .c .top, .c .top, .c .top, .c .top, .c .top, .c .top, .c .top, .c .top, .c .top, .c .top, .c .top, .c .top, .c .top, .c .top, .c .top, .c .top, .c .top, .c .top, .c .top, .c .top, .c .top, .c .top, .c .top] ∧ s = [] ∧ i ≤ j ∧ j ≤ l.length ∧ j - i = d ∧ (∀ (k : Nat) (a : Int), k < i → l[k]? = some a → a < n) ∧ ∀ (k : Nat) (a : Int), j ≤ k → l[k]? = some a → n ≤ a)
    [true, true, false, false, false, false, true, true, true] l.length [] (by decide) (pinned_zero _) ⟨0, l.length, by simp only [yE, Nat.reduceEqDiff, Nat.reduceAdd, reduceCtorEq]; rfl, rfl, by omega, by omega, by omega, fun k a hk => by omega, fun k a hk ha => by have := lt_of_some ha; omega⟩ ?_
  rintro d e s ⟨i, j, rfl, rfl, hij, hjl, hd, hlo, hhi⟩
  by_cases hlt : i < j
  · have t1 : leI (j : Nat) (i : Nat) = false := leI_false (by omega)
    have wa : wrapK .i64 ((i : Int) + (j : Int)) = ((i + j : Nat) : Int) := by rw [show (i : Int) + (j : Int) = ((i + j : Nat) : Int) by omega]; exact wrap_nat (by omega)
    have wb : wrapK .u64 ((i + j : Nat) : Int) = ((i + j : Nat) : Int) := wrap_u64 (by omega)
    have wc : wrapK .i64 (((i + j) / 2 : Nat) : Int) = (((i + j) / 2 : Nat) : Int) := wrap_nat (by omega)
    have wd : wrapK .i64 ((((i + j) / 2 : Nat) : Int) + 1) = (((i + j) / 2 + 1 : Nat) : Int) := wrap_succ (by omega)
    obtain ⟨a, ha⟩ := get_lt (show (i + j) / 2 < l.length by omega)
    simp -implicitDefEqProofs only [↓yP, yT, Nat.reduceAdd, Nat.reduceMul, Nat.reduceSub, Nat.reduceLeDiff, Nat.reduceEqDiff, reduceCtorEq, Nat.reduceBEq, t1, wa, wb, wc, shr_one, get_map ha, ei]
    refine Rcall_pure (less_spec a n) (by rfl) fun y hy => ?_
    subst hy
    by_cases hn : n ≤ a
    · have t2 : leI n a = true := leI_true hn
      simp -implicitDefEqProofs only [↓yP, yT, Nat.reduceAdd, Nat.reduceMul, Nat.reduceSub, Nat.reduceLeDiff, Nat.reduceEqDiff, reduceCtorEq, Nat.reduceBEq, t2]
      refine ⟨j - i - 1 - ((j - i - 1) - ((i + j) / 2 - i)), [], by omega, by decide, pinned_zero _, i, (i + j) / 2, ?_, rfl, by omega, by omega, by omega, hlo, fun k b hk hb => ?_⟩
      · simp only [yE, Nat.reduceEqDiff, Nat.reduceAdd, reduceCtorEq]
      · by_cases e : k = (i + j) / 2
        · subst e; rw [ha] at hb; cases hb; exact hn
        · have := hr _ _ _ _ (show (i + j) / 2 < k by omega) ha hb; omega
    · have t2 : leI n a = false := leI_false hn
      simp -implicitDefEqProofs only [↓yP, yT, Nat.reduceAdd, Nat.reduceMul, Nat.reduceSub, Nat.reduceLeDiff, Nat.reduceEqDiff, reduceCtorEq, Nat.reduceBEq, t2, wd]
      refine ⟨j - ((i + j) / 2 + 1), [], by omega, by decide, pinned_zero _, (i + j) / 2 + 1, j, ?_, rfl, by omega, by omega, by omega, fun k b hk hb => ?_, hhi⟩
      · simp only [yE, Nat.reduceEqDiff, Nat.reduceAdd, reduceCtorEq]
      · by_cases e : k = (i + j) / 2
        · subst e; rw [ha] at hb; cases hb; omega
        · have := hr _ _ _ _ (show k < (i + j) / 2 by omega) hb ha; omega
  · have t1 : leI (j : Nat) (i : Nat) = true := leI_true (by omega)
    have : i = j := by omega
    subst this
    by_cases hil : i < l.length
    · obtain ⟨a, ha⟩ := get_lt hil
      have t2 : leI (l.length : Nat) (i : Nat) = false := leI_false (by omega)
      by_cases hn : a = n
      · subst hn
        simp -implicitDefEqProofs only [↓yP, yT, Nat.reduceAdd, Nat.reduceMul, Nat.reduceSub, Nat.reduceLeDiff, Nat.reduceEqDiff, reduceCtorEq, Nat.reduceBEq, t1, t2, get_map ha, ei, eqI_true]
        exact ⟨i, true, rfl, ⟨by omega, hlo, hhi⟩, by simp [ha]⟩
      · have e1 : eqI a n = false := eqI_false hn
        simp -implicitDefEqProofs only [↓yP, yT, Nat.reduceAdd, Nat.reduceMul, Nat.reduceSub, Nat.reduceLeDiff, Nat.reduceEqDiff, reduceCtorEq, Nat.reduceBEq, t1, t2, get_map ha, ei, e1]
        refine Rcall_pure (isNaN1 a) (by rfl) fun y hy => ?_
        subst hy
        simp -implicitDefEqProofs only [↓yP, yT, Nat.reduceAdd, Nat.reduceMul, Nat.reduceSub, Nat.reduceLeDiff, Nat.reduceEqDiff, reduceCtorEq, Nat.reduceBEq]
        exact ⟨i, false, rfl, ⟨by omega, hlo, hhi⟩, by simp [ha, hn]⟩
    · have t2 : leI (l.length : Nat) (i : Nat) = true := leI_true (by omega)
      simp -implicitDefEqProofs only [↓yP, yT, Nat.reduceAdd, Nat.reduceMul, Nat.reduceSub, Nat.reduceLeDiff, Nat.reduceEqDiff, reduceCtorEq, Nat.reduceBEq, t1, t2]
      exact ⟨i, false, rfl, ⟨by omega, hlo, hhi⟩, by rw [List.getElem?_eq_none (by omega)]; simp⟩

end Go.Vx.Seat
end
/- Are two rows of tokens one? -/
section
open Go Go.Vx Go.Proofs
set_option linter.unusedSimpArgs false
set_option linter.unusedVariables false
set_option maxRecDepth 10000
set_option maxHeartbeats 4000000
namespace Go.Vx.Seat
attribute [local congr] Rg_at Rt_at Ro_at Ri_at Rc_at Rto_at Rtk_at Rtf_at Rti_at
attribute [local irreducible] Rg Rt Ro Ri Rc Rto Rtk Rtf Rti Rw Rl Rd Rcall Rtcall kf
theorem fn16 : nth C1.P.funcs.toList 16 = some Try.f16 := by kernel_rfl
def Tok.vals (t : Tok) : List Value :=
  [.int .i64 t.kind, .string t.text, .string t.unit, .bool t.neg, .string t.digits, .string t.exp, .bool t.flag, .bool t.sign, .int .i64 t.c0, .int .i64 t.c1, .int .i64 t.c2, .int .i64 t.c3, .int .i64 t.start]
noncomputable def tokEq (t u : Tok) : Bool := match cellsEq t.vals u.vals with | some b => b | none => false
theorem strOf_eq (a b : ByteArray) : strOf a = strOf b ↔ a = b := by
  constructor
  · intro h
    cases a; cases b
    simp only [strOf] at h
    congr 1
    exact Array.toList_inj.mp h
  · intro h; rw [h]
theorem tokEq_iff (t u : Tok) : tokEq t u = true ↔ t = u := by
  cases t; cases u
  simp only [tokEq, Tok.vals, cellsEq, cellEq, if_true, Bool.and_true, Bool.and_eq_true, decide_eq_true_eq, beq_iff_eq, strOf_eq, Tok.mk.injEq]
theorem cellsEq_tok (t u : Tok) : cellsEq t.vals u.vals = some (tokEq t u) := by
  simp only [tokEq, Tok.vals, cellsEq, cellEq, if_true]
theorem zeroTok : tyZero Try.prog 38 = some (.agg #[.int .i64 0, .string ⟨#[]⟩, .string ⟨#[]⟩, .bool false, .string ⟨#[]⟩, .string ⟨#[]⟩, .bool false, .bool false, .int .i64 0, .int .i64 0, .int .i64 0, .int .i64 0, .int .i64 0]) := by kernel_rfl
theorem eqsTok : C1.eqs.contains 38 = true := by kernel_rfl
theorem neq_tok (t u : Tok) : xbin Try.prog C1.eqs .neq 38 (.agg ⟨t.vals⟩) (.agg ⟨u.vals⟩) = some (.bool (!tokEq t u)) := by
  have h1 : likes (clist (.agg #[.int .i64 0, .string ⟨#[]⟩, .string ⟨#[]⟩, .bool false, .string ⟨#[]⟩, .string ⟨#[]⟩, .bool false, .bool false, .int .i64 0, .int .i64 0, .int .i64 0, .int .i64 0, .int .i64 0])) t.vals = true := rfl
  have h2 : likes (clist (.agg #[.int .i64 0, .string ⟨#[]⟩, .string ⟨#[]⟩, .bool false, .string ⟨#[]⟩, .string ⟨#[]⟩, .bool false, .bool false, .int .i64 0, .int .i64 0, .int .i64 0, .int .i64 0, .int .i64 0])) u.vals = true := rfl
  simp only [xbin, xbinA, eqsTok, if_true, aggEq, zeroTok]
  rw [h1, h2]
  simp only [Bool.and_self, if_true, cellsEq_tok]
theorem sameTok_spec (l m : List Tok) (hl : l.length ≤ 1000000) : PCall C1 16 [.c (.p (rT l)), .c (.p (rT m))] fun y => ∃ b : Bool, y = yd (.bool b) ∧ (b = true ↔ l = m) := by
  refine Pf (by rfl) (by rfl) fn16 (by rfl) ?_
  simp only [Try.f16, List.length_cons, List.length_nil, List.replicate, List.cons_append, List.nil_append]
  by_cases hlen : l.length = m.length
  · have f1 : eqI (l.length : Nat) (m.length : Nat) = true := by rw [hlen]; exact eqI_true _
    simp -implicitDefEqProofs only [↓yP, yT, Nat.reduceAdd, Nat.reduceMul, Nat.reduceSub, Nat.reduceLeDiff, Nat.reduceEqDiff, reduceCtorEq, Nat.reduceBEq, f1]
    refine Rl_inv (fun d e s => ∃ i : Nat, e = [.c (.p (rT l)), .c (.p (rT m)), .c .top, .c .top, .c .top, yd (.int .i64 i), .c .top, .c .top, .c .top, .c .top, .c .top, .c .top, .c .top, .c .top, .c .top, .c .top, .c .top, .c .top, .c .top, .c .top, .c .top, .c .top, .c .top, .c .top, .c .top, .c .top] ∧ s = [] ∧ i + d = l.length ∧ ∀ j, j < i → l[j]? = m[j]?) [true, true, false, false, false, true] l.length [] (by decide) (pinned_zero _) ⟨0, by simp only [yE, Nat.reduceEqDiff, Nat.reduceAdd, reduceCtorEq]; rfl, rfl, by omega, fun j hj => by omega⟩ ?_
    rintro d e s ⟨i, rfl, rfl, hd, hsame⟩
    by_cases hi : i < l.length
    · obtain ⟨t, ht⟩ := get_lt hi
      obtain ⟨u, hu⟩ := get_lt (show i < m.length by omega)
      have t1 : leI (l.length : Nat) (i : Nat) = false := leI_false (by omega)
      have w1 : wrapK .i64 ((i : Int) + 1) = ((i + 1 : Nat) : Int) := wrap_succ (by omega)
      have hneq := neq_tok t u
      simp only [Tok.vals] at hneq
      simp -implicitDefEqProofs only [↓yP, yT, Nat.reduceAdd, Nat.reduceMul, Nat.reduceSub, Nat.reduceLeDiff, Nat.reduceEqDiff, reduceCtorEq, Nat.reduceBEq, t1]
      refine Rd_calm (by rw [C1_P]; kernel_rfl) ?_
      cases hq : tokEq t u with
      | true =>
        rw [hq] at hneq
        have he := (tokEq_iff t u).mp hq
        simp -implicitDefEqProofs only [↓yP, yT, Nat.reduceAdd, Nat.reduceMul, Nat.reduceSub, Nat.reduceLeDiff, Nat.reduceEqDiff, reduceCtorEq, Nat.reduceBEq, get_map ht, get_map hu, Tok.pc, hneq, w1]
        refine ⟨d - 1, [], by omega, by decide, pinned_zero _, i + 1, ?_, rfl, by omega, fun j hj => ?_⟩
        · simp only [yE, Nat.reduceEqDiff, Nat.reduceAdd, reduceCtorEq]
        · by_cases e : j = i
          · subst e; rw [ht, hu, he]
          · exact hsame j (by omega)
      | false =>
        rw [hq] at hneq
        simp -implicitDefEqProofs only [↓yP, yT, Nat.reduceAdd, Nat.reduceMul, Nat.reduceSub, Nat.reduceLeDiff, Nat.reduceEqDiff, reduceCtorEq, Nat.reduceBEq, get_map ht, get_map hu, Tok.pc, hneq]
        refine ⟨false, rfl, by simp; intro h; subst h; rw [ht] at hu; cases hu; rw [(tokEq_iff t t).mpr rfl] at hq; cases hq⟩
    · have t1 : leI (l.length : Nat) (i : Nat) = true := leI_true (by omega)
      simp -implicitDefEqProofs only [↓yP, yT, Nat.reduceAdd, Nat.reduceMul, Nat.reduceSub, Nat.reduceLeDiff, Nat.reduceEqDiff, reduceCtorEq, Nat.reduceBEq, t1]
      refine ⟨true, rfl, by simp; apply List.ext_getElem?; intro j; by_cases hj : j < i; exact hsame j hj; rw [List.getElem?_eq_none (by omega), List.getElem?_eq_none (by omega)]⟩
  · have f1 : eqI (l.length : Nat) (m.length : Nat) = false := eqI_false (by omega)
    simp -implicitDefEqProofs only [↓yP, yT, Nat.reduceAdd, Nat.reduceMul, Nat.reduceSub, Nat.reduceLeDiff, Nat.reduceEqDiff, reduceCtorEq, Nat.reduceBEq, f1]
    refine ⟨false, rfl, by simp; intro h; subst h; exact hlen rfl⟩
theorem sameTok_refl (l : List Tok) (hl : l.length ≤ 1000000) : PCall C1 16 [.c (.p (rT l)), .c (.p (rT l))] fun y => y = yd (.bool true) :=
  (sameTok_spec l l hl).mono fun y ⟨b, h1, h2⟩ => by rw [h1, h2.mpr rfl]

end Go.Vx.Seat
end
/- Two tokens but From: the program's closure. -/
section
open Go Go.Vx Go.Proofs
set_option linter.unusedSimpArgs false
set_option linter.unusedVariables false
set_option maxRecDepth 10000
set_option maxHeartbeats 4000000
namespace Go.Vx.Seat
attribute [local congr] Rg_at Rt_at Ro_at Ri_at Rc_at Rto_at Rtk_at Rtf_at Rti_at
attribute [local irreducible] Rg Rt Ro Ri Rc Rto Rtk Rtf Rti Rw Rl Rd Rcall Rtcall kf
theorem fn37 : nth C1.P.funcs.toList 37 = some Try.f37 := by kernel_rfl
theorem fn38 : nth C1.P.funcs.toList 38 = some Try.f38 := by kernel_rfl
noncomputable def sameB (t u : Tok) : Bool := tokEq { t with start := u.start } u
theorem eql_tok (t u : Tok) : xbin Try.prog C1.eqs .eql 38 (.agg ⟨t.vals⟩) (.agg ⟨u.vals⟩) = some (.bool (tokEq t u)) := by
  have h := neq_tok t u
  simp only [xbin, xbinA, eqsTok, if_true, aggEq, zeroTok] at h ⊢
  split at h <;> simp_all
theorem same1_spec (t u : Tok) : PCall C1 38 [t.yv, u.yv] fun y => y = yd (.bool (sameB t u)) := by
  have he := eql_tok { t with start := u.start } u
  simp only [Tok.vals] at he
  refine Pf (by rfl) (by rfl) fn38 (by rfl) ?_
  simp only [Try.f38, List.length_cons, List.length_nil, List.replicate, List.cons_append, List.nil_append]
  simp only [Tok.yv, Tok.cs, Tok.pc, List.map_cons, List.map_nil]
  simp -implicitDefEqProofs only [↓yP, yT, Nat.reduceAdd, Nat.reduceMul, Nat.reduceSub, Nat.reduceLeDiff, Nat.reduceEqDiff, reduceCtorEq, Nat.reduceBEq, he]
  rfl
end Go.Vx.Seat
end
/- Two rows of tokens but From: the program's Same. -/
section
open Go Go.Vx Go.Proofs
set_option linter.unusedSimpArgs false
set_option linter.unusedVariables false
set_option maxRecDepth 10000
set_option maxHeartbeats 4000000
namespace Go.Vx.Seat
attribute [local congr] Rg_at Rt_at Ro_at Ri_at Rc_at Rto_at Rtk_at Rtf_at Rti_at
attribute [local irreducible] Rg Rt Ro Ri Rc Rto Rtk Rtf Rti Rw Rl Rd Rcall Rtcall kf
theorem fn14 : nth C1.P.funcs.toList 14 = some Try.f14 := by kernel_rfl
abbrev fnY (f : FuncId) : YV := yd (.func (.func f) #[] #[])
/-- Alike place by place. -/
def sameAll (l m : List Tok) : Prop := l.length = m.length ∧ ∀ (i : Nat) (t u : Tok), l[i]? = some t → m[i]? = some u → sameB t u = true
theorem equalF_spec (l m : List Tok) (hl : l.length ≤ 1000000) (hm : m.length ≤ 1000000) : PCall C1 37 [.c (.p (rT l)), .c (.p (rT m)), fnY 38] fun y => ∃ b : Bool, y = yd (.bool b) ∧ (b = true ↔ sameAll l m) := by
  refine Pf (by rfl) (by rfl) fn37 (by rfl) ?_
  simp only [Try.f37, List.length_cons, List.length_nil, List.replicate, List.cons_append, List.nil_append]
  by_cases hlen : l.length = m.length
  · have f1 : eqI (l.length : Nat) (m.length : Nat) = true := by rw [hlen]; exact eqI_true _
    simp -implicitDefEqProofs only [↓yP, yT, Nat.reduceAdd, Nat.reduceMul, Nat.reduceSub, Nat.reduceLeDiff, Nat.reduceEqDiff, reduceCtorEq, Nat.reduceBEq, f1]
    refine Rl_inv (fun d e s => ∃ i : Nat, e = [.c .top, .c (.p (rT m)), fnY 38, .c .top, .c .top, .c .top, .c .top, .c .top, .c .top, .c .top, .c .top, .c .top, .c .top, .c .top, .c .top, .c (.p (rT l)), yd (.int .i64 (l.length : Nat)), yd (.int .i64 i), .c .top, .c .top, .c .top, .c .top, .c .top, .c .top, .c .top, .c .top, .c .top, .c .top, .c .top, .c .top, .c .top, .c .top] ∧ s = [] ∧ i + d = l.length ∧ ∀ j t u, j < i → l[j]? = some t → m[j]? = some u → sameB t u = true) [false, true, true, false, false, false, false, false, false, false, false, false, false, false, false, true, true, true] l.length [] (by decide) (pinned_zero _) ⟨0, by simp only [yE, Nat.reduceEqDiff, Nat.reduceAdd, reduceCtorEq]; rfl, rfl, by omega, fun j t u hj => absurd hj (Nat.not_lt_zero j)⟩ ?_
    rintro d e s ⟨i, rfl, rfl, hd, hsame⟩
    by_cases hi : i < l.length
    · obtain ⟨t, ht⟩ := get_lt hi
      obtain ⟨u, hu⟩ := get_lt (show i < m.length by omega)
      have t1 : leI (l.length : Nat) (i : Nat) = false := leI_false (by omega)
      have w1 : wrapK .i64 ((i : Int) + 1) = ((i + 1 : Nat) : Int) := wrap_succ (by omega)
      simp -implicitDefEqProofs only [↓yP, yT, Nat.reduceAdd, Nat.reduceMul, Nat.reduceSub, Nat.reduceLeDiff, Nat.reduceEqDiff, reduceCtorEq, Nat.reduceBEq, t1, get_map ht, get_map hu, Tok.pc]
      refine Rcall_pure (same1_spec t u) (by rfl) fun y hy => ?_
      subst hy
      cases hq : sameB t u with
      | true =>
        simp -implicitDefEqProofs only [↓yP, yT, Nat.reduceAdd, Nat.reduceMul, Nat.reduceSub, Nat.reduceLeDiff, Nat.reduceEqDiff, reduceCtorEq, Nat.reduceBEq, w1]
        refine ⟨d - 1, [], by omega, by decide, pinned_zero _, i + 1, by (simp only [yE, Nat.reduceEqDiff, Nat.reduceAdd, reduceCtorEq]; try rfl), by (simp only [yE, Nat.reduceEqDiff, Nat.reduceAdd, reduceCtorEq]; try rfl), by omega, fun j t' u' hj h1 h2 => ?_⟩
        by_cases e : j = i
        · subst e; rw [ht] at h1; rw [hu] at h2; cases h1; cases h2; exact hq
        · exact hsame j t' u' (by omega) h1 h2
      | false =>
        simp -implicitDefEqProofs only [↓yP, yT, Nat.reduceAdd, Nat.reduceMul, Nat.reduceSub, Nat.reduceLeDiff, Nat.reduceEqDiff, reduceCtorEq, Nat.reduceBEq]
        refine ⟨false, rfl, by simp; intro h; have := h.2 i t u ht hu; rw [hq] at this; cases this⟩
    · have t1 : leI (l.length : Nat) (i : Nat) = true := leI_true (by omega)
      simp -implicitDefEqProofs only [↓yP, yT, Nat.reduceAdd, Nat.reduceMul, Nat.reduceSub, Nat.reduceLeDiff, Nat.reduceEqDiff, reduceCtorEq, Nat.reduceBEq, t1]
      refine ⟨true, rfl, by simp; exact ⟨hlen, fun j t u h1 h2 => hsame j t u (by have := (List.getElem?_eq_some_iff.mp h1).1; omega) h1 h2⟩⟩
  · have f1 : eqI (l.length : Nat) (m.length : Nat) = false := eqI_false (by omega)
    simp -implicitDefEqProofs only [↓yP, yT, Nat.reduceAdd, Nat.reduceMul, Nat.reduceSub, Nat.reduceLeDiff, Nat.reduceEqDiff, reduceCtorEq, Nat.reduceBEq, f1]
    refine ⟨false, rfl, by simp; intro h; exact absurd h.1 hlen⟩
theorem same_spec (l m : List Tok) (hl : l.length ≤ 1000000) (hm : m.length ≤ 1000000) : PCall C1 14 [.c (.p (rT l)), .c (.p (rT m))] fun y => ∃ b : Bool, y = yd (.bool b) ∧ (b = true ↔ sameAll l m) := by
  refine Pf (by rfl) (by rfl) fn14 (by rfl) ?_
  simp only [Try.f14, List.length_cons, List.length_nil, List.replicate, List.cons_append, List.nil_append]
  simp -implicitDefEqProofs only [↓yP, yT, Nat.reduceAdd, Nat.reduceMul, Nat.reduceSub, Nat.reduceLeDiff, Nat.reduceEqDiff, reduceCtorEq, Nat.reduceBEq]
  refine Rcall_pure (equalF_spec l m hl hm) (by rfl) fun y hy => ?_
  obtain ⟨b, rfl, hb⟩ := hy
  simp -implicitDefEqProofs only [↓yP, yT, Nat.reduceAdd, Nat.reduceMul, Nat.reduceSub, Nat.reduceLeDiff, Nat.reduceEqDiff, reduceCtorEq, Nat.reduceBEq]
  exact ⟨b, rfl, hb⟩
end Go.Vx.Seat
end
/- Two rows of tokens but From: the document's SameCss. -/
section
open Go Go.Vx Go.Proofs
set_option linter.unusedSimpArgs false
set_option linter.unusedVariables false
set_option maxRecDepth 10000
set_option maxHeartbeats 4000000
namespace Go.Vx.Seat
attribute [local congr] Rg_at Rt_at Ro_at Ri_at Rc_at Rto_at Rtk_at Rtf_at Rti_at
attribute [local irreducible] Rg Rt Ro Ri Rc Rto Rtk Rtf Rti Rw Rl Rd Rcall Rtcall kf
theorem fn39 : nth C1.P.funcs.toList 39 = some Try.f39 := by kernel_rfl
theorem fn15 : nth C1.P.funcs.toList 15 = some Try.f15 := by kernel_rfl
def bare (t : Tok) : Tok := { t with start := 0 }
theorem bare_spec (l : List Tok) (hl : l.length ≤ 1000000) : PCall C1 39 [.c (.p (rT l))] fun y => y = .c (.p (rT (l.map bare))) := by
  refine Pf (by rfl) (by rfl) fn39 (by rfl) ?_
  simp only [Try.f39, List.length_cons, List.length_nil, List.replicate, List.cons_append, List.nil_append]
  simp -implicitDefEqProofs only [↓yP, yT, Nat.reduceAdd, Nat.reduceMul, Nat.reduceSub, Nat.reduceLeDiff, Nat.reduceEqDiff, reduceCtorEq, Nat.reduceBEq]
  refine Rl_nil 3 13 (by decide) rfl ?_
  refine Rl_inv (fun d e s => ∃ (i : Nat) (out : List Tok), e = ([.c (.p (rT l)), .c .top, .c .top, .c (.own 0 13 0 out.length), yd (.int .i64 (i : Nat)), .c .top, .c .top, .c .top, .c .top, .c .top, .c .top, .c .top, .c .top, .c .top, .c .top, .c .top, .c .top, .c .top, .c .top, .c .top, .c .top, .c .top]) ∧ s = [.row 13 (out.map Tok.pc)] ∧ i + d = l.length ∧ out = (l.take i).map bare)
    [true, false, false, true, true] l.length [0] (by decide) (pinned_zero _) ⟨0, [], by (simp only [yE, Nat.reduceEqDiff, Nat.reduceAdd, reduceCtorEq]; try rfl), by (simp only [yE, Nat.reduceEqDiff, Nat.reduceAdd, reduceCtorEq]; try rfl), by omega, by simp⟩ ?_
  rintro d e s ⟨i, out, rfl, rfl, hd, hout⟩
  by_cases hi : i < l.length
  · obtain ⟨t, ht⟩ := get_lt hi
    have t1 : leI (l.length : Nat) (i : Nat) = false := leI_false (by omega)
    have w1 : wrapK .i64 ((i : Int) + 1) = ((i + 1 : Nat) : Int) := wrap_succ (by omega)
    have hlen : out.length = i := by rw [hout]; simp; omega
    have b1 : (out.length + 1) * 128 ≤ 70368744177664 := by rw [hlen]; omega
    simp -implicitDefEqProofs only [↓yP, yT, Nat.reduceAdd, Nat.reduceMul, Nat.reduceSub, Nat.reduceLeDiff, Nat.reduceEqDiff, reduceCtorEq, Nat.reduceBEq, t1, get_map ht, Tok.pc, b1, w1]
    refine ⟨d - 1, [3], by omega, by decide, pinned_zero _, i + 1, out ++ [bare t], by (simp only [yE, Nat.reduceEqDiff, Nat.reduceAdd, reduceCtorEq]; try rfl), ?_, by omega, by rw [hout, List.take_add_one, ht]; simp⟩
    simp only [yE, Nat.reduceEqDiff, Nat.reduceAdd, reduceCtorEq, List.map_append]; rfl
  · have t1 : leI (l.length : Nat) (i : Nat) = true := leI_true (by omega)
    have hlen : l.take i = l := List.take_of_length_le (by omega)
    rw [hlen] at hout
    subst hout
    simp -implicitDefEqProofs only [↓yP, yT, Nat.reduceAdd, Nat.reduceMul, Nat.reduceSub, Nat.reduceLeDiff, Nat.reduceEqDiff, reduceCtorEq, Nat.reduceBEq, t1]
    rw [List.take_of_length_le (by simp)]
theorem same_iff (l m : List Tok) : l.map bare = m.map bare ↔ sameAll l m := by
  have key : ∀ t u : Tok, sameB t u = true ↔ bare t = bare u := fun t u => by
    rw [sameB, tokEq_iff]
    cases t; cases u
    simp only [bare, Tok.mk.injEq]
    try simp
  constructor
  · intro h
    have hlen : l.length = m.length := by simpa using congrArg List.length h
    refine ⟨hlen, fun i t u ht hu => (key t u).mpr ?_⟩
    have h1 := congrArg (fun x => x[i]?) h
    simp only [List.getElem?_map, ht, hu, Option.map_some, Option.some.injEq] at h1
    exact h1
  · rintro ⟨hlen, h⟩
    apply List.ext_getElem?
    intro i
    rw [List.getElem?_map, List.getElem?_map]
    by_cases hi : i < l.length
    · obtain ⟨t, ht⟩ := get_lt hi
      obtain ⟨u, hu⟩ := get_lt (show i < m.length by omega)
      rw [ht, hu]
      simp only [Option.map_some, Option.some.injEq]
      exact (key t u).mp (h i t u ht hu)
    · rw [List.getElem?_eq_none (by omega), List.getElem?_eq_none (by omega)]
theorem sameCss_spec (l m : List Tok) (hl : l.length ≤ 1000000) (hm : m.length ≤ 1000000) : PCall C1 15 [.c (.p (rT l)), .c (.p (rT m))] fun y => ∃ b : Bool, y = yd (.bool b) ∧ (b = true ↔ sameAll l m) := by
  refine Pf (by rfl) (by rfl) fn15 (by rfl) ?_
  simp only [Try.f15, List.length_cons, List.length_nil, List.replicate, List.cons_append, List.nil_append]
  simp -implicitDefEqProofs only [↓yP, yT, Nat.reduceAdd, Nat.reduceMul, Nat.reduceSub, Nat.reduceLeDiff, Nat.reduceEqDiff, reduceCtorEq, Nat.reduceBEq]
  refine Rcall_pure (bare_spec l hl) (by rfl) fun y hy => ?_
  subst hy
  simp -implicitDefEqProofs only [↓yP, yT, Nat.reduceAdd, Nat.reduceMul, Nat.reduceSub, Nat.reduceLeDiff, Nat.reduceEqDiff, reduceCtorEq, Nat.reduceBEq]
  refine Rcall_pure (bare_spec m hm) (by rfl) fun y hy => ?_
  subst hy
  simp -implicitDefEqProofs only [↓yP, yT, Nat.reduceAdd, Nat.reduceMul, Nat.reduceSub, Nat.reduceLeDiff, Nat.reduceEqDiff, reduceCtorEq, Nat.reduceBEq]
  refine Rcall_pure (sameTok_spec _ _ (by simpa using hl)) (by rfl) fun y hy => ?_
  obtain ⟨b, rfl, hb⟩ := hy
  simp -implicitDefEqProofs only [↓yP, yT, Nat.reduceAdd, Nat.reduceMul, Nat.reduceSub, Nat.reduceLeDiff, Nat.reduceEqDiff, reduceCtorEq, Nat.reduceBEq]
  exact ⟨b, rfl, by rw [hb, same_iff]⟩
end Go.Vx.Seat
end
/- Few: tokens that are not too many. -/
section
open Go Go.Vx Go.Proofs
set_option linter.unusedSimpArgs false
set_option linter.unusedVariables false
set_option maxRecDepth 10000
set_option maxHeartbeats 8000000
namespace Go.Vx.Seat
attribute [local congr] Rg_at Rt_at Ro_at Ri_at Rc_at Rto_at Rtk_at Rtf_at Rti_at
attribute [local irreducible] Rg Rt Ro Ri Rc Rto Rtk Rtf Rti Rw Rl Rd Rcall Rtcall kf
theorem fn25 : nth C1.P.funcs.toList 25 = some Try.f25 := by kernel_rfl
theorem fn9 : nth C1.P.funcs.toList 9 = some Try.f9 := by kernel_rfl
def maxL : Nat := 70368744177664
theorem wrap_suc {i : Nat} (h : i < 9223372036854775807) : wrapK .i64 (((i : Nat) : Int) + 1) = ((i + 1 : Nat) : Int) := by rw [wrapK_eq, IntKind.wrap_i64]; omega
theorem len_le {n k : Nat} : leI ((n : Nat) : Int) ((k : Nat) : Int) = decide (n ≤ k) := by rw [leI_eq]; congr 1; simp
theorem few16_spec (t : Tok) : PCall C1 25 [t.yv] fun y => ∃ b : Bool, y = yd (.bool b) ∧ (b = true → (strOf t.text).length ≤ 200 ∧ (strOf t.unit).length ≤ 100) := by
  refine Pf (by rfl) (by rfl) fn25 (by rfl) ?_
  simp only [Try.f25, List.length_cons, List.length_nil, List.replicate, List.cons_append, List.nil_append]
  simp only [Tok.yv, Tok.cs, Tok.pc, List.map_cons, List.map_nil]
  by_cases h1 : (strOf t.text).length ≤ 200
  · have f1 : leI ((strOf t.text).length : Nat) 200 = true := leI_true (by omega)
    by_cases h2 : (strOf t.unit).length ≤ 100
    · have f2 : leI ((strOf t.unit).length : Nat) 100 = true := leI_true (by omega)
      by_cases h3 : (strOf t.digits).length ≤ 100
      · have f3 : leI ((strOf t.digits).length : Nat) 100 = true := leI_true (by omega)
        simp -implicitDefEqProofs only [↓yP, yT, Nat.reduceAdd, Nat.reduceMul, Nat.reduceSub, Nat.reduceLeDiff, Nat.reduceEqDiff, reduceCtorEq, Nat.reduceBEq, opLen.eq_1, f1, f2, f3]
        exact ⟨_, rfl, fun _ => ⟨h1, h2⟩⟩
      · have f3 : leI ((strOf t.digits).length : Nat) 100 = false := leI_false (by omega)
        simp -implicitDefEqProofs only [↓yP, yT, Nat.reduceAdd, Nat.reduceMul, Nat.reduceSub, Nat.reduceLeDiff, Nat.reduceEqDiff, reduceCtorEq, Nat.reduceBEq, opLen.eq_1, f1, f2, f3]
        exact ⟨false, rfl, fun h => by cases h⟩
    · have f2 : leI ((strOf t.unit).length : Nat) 100 = false := leI_false (by omega)
      simp -implicitDefEqProofs only [↓yP, yT, Nat.reduceAdd, Nat.reduceMul, Nat.reduceSub, Nat.reduceLeDiff, Nat.reduceEqDiff, reduceCtorEq, Nat.reduceBEq, opLen.eq_1, f1, f2]
      exact ⟨false, rfl, fun h => by cases h⟩
  · have f1 : leI ((strOf t.text).length : Nat) 200 = false := leI_false (by omega)
    simp -implicitDefEqProofs only [↓yP, yT, Nat.reduceAdd, Nat.reduceMul, Nat.reduceSub, Nat.reduceLeDiff, Nat.reduceEqDiff, reduceCtorEq, Nat.reduceBEq, opLen.eq_1, f1]
    exact ⟨false, rfl, fun h => by cases h⟩
theorem few_spec (ts : List Tok) (hl : ts.length ≤ maxL) : PCall C1 9 [.c (.p (rT ts))] fun y => ∃ b : Bool, y = yd (.bool b) ∧ (b = true → ts.length ≤ 600) := by
  unfold maxL at hl
  refine Pf (by rfl) (by rfl) fn9 (by rfl) ?_
  simp only [Try.f9, List.length_cons, List.length_nil, List.replicate, List.cons_append, List.nil_append]
  simp -implicitDefEqProofs only [↓yP, yT, Nat.reduceAdd, Nat.reduceMul, Nat.reduceSub, Nat.reduceLeDiff, Nat.reduceEqDiff, reduceCtorEq, Nat.reduceBEq]
  refine Rl_inv (fun d e s => ∃ i n : Nat, e = [.c (.p (rT ts)), .c .top, .c .top, yd (.int .i64 n), yd (.int .i64 i), .c .top, .c .top, .c .top, .c .top, .c .top, .c .top, .c .top, .c .top, .c .top, .c .top, .c .top, .c .top, .c .top, .c .top, .c .top, .c .top, .c .top, .c .top, .c .top, .c .top, .c .top, .c .top, .c .top, .c .top, .c .top, .c .top, .c .top, .c .top, .c .top, .c .top] ∧ s = [] ∧ i + d = ts.length ∧ i ≤ n ∧ n ≤ 400 * i) [true, false, false, true, true] ts.length [] (by decide) (pinned_zero _) ⟨0, 0, by simp only [yE, Nat.reduceEqDiff, Nat.reduceAdd, reduceCtorEq]; rfl, rfl, by omega, by omega, by omega⟩ ?_
  rintro d e s ⟨i, n, rfl, rfl, hd, hn1, hn2⟩
  by_cases hi : i < ts.length
  · obtain ⟨t, ht⟩ := get_lt hi
    have t1 : leI (ts.length : Nat) (i : Nat) = false := leI_false (by omega)
    have w1 : wrapK .i64 ((i : Int) + 1) = ((i + 1 : Nat) : Int) := wrap_suc (by omega)
    simp -implicitDefEqProofs only [↓yP, yT, Nat.reduceAdd, Nat.reduceMul, Nat.reduceSub, Nat.reduceLeDiff, Nat.reduceEqDiff, reduceCtorEq, Nat.reduceBEq, t1, get_map ht, Tok.pc]
    refine Rcall_pure (few16_spec t) (by rfl) fun y hy => ?_
    obtain ⟨b, rfl, hb⟩ := hy
    cases b with
    | false =>
      simp -implicitDefEqProofs only [↓yP, yT, Nat.reduceAdd, Nat.reduceMul, Nat.reduceSub, Nat.reduceLeDiff, Nat.reduceEqDiff, reduceCtorEq, Nat.reduceBEq]
      exact ⟨false, rfl, fun h => by cases h⟩
    | true =>
      obtain ⟨hb1, hb2⟩ := hb rfl
      have w2 : wrapK .i64 ((n : Int) + 1) = ((n + 1 : Nat) : Int) := wrap_suc (by omega)
      have w3 : wrapK .i64 (((n + 1 : Nat) : Int) + ((strOf t.text).length : Nat)) = ((n + 1 + (strOf t.text).length : Nat) : Int) := by
        rw [show ((n + 1 : Nat) : Int) + ((strOf t.text).length : Nat) = ((n + 1 + (strOf t.text).length : Nat) : Int) by omega]; exact wrap_nat (by omega)
      have w4 : wrapK .i64 (((n + 1 + (strOf t.text).length : Nat) : Int) + ((strOf t.unit).length : Nat)) = ((n + 1 + (strOf t.text).length + (strOf t.unit).length : Nat) : Int) := by
        rw [show ((n + 1 + (strOf t.text).length : Nat) : Int) + ((strOf t.unit).length : Nat) = ((n + 1 + (strOf t.text).length + (strOf t.unit).length : Nat) : Int) by omega]; exact wrap_nat (by omega)
      simp -implicitDefEqProofs only [↓yP, yT, Nat.reduceAdd, Nat.reduceMul, Nat.reduceSub, Nat.reduceLeDiff, Nat.reduceEqDiff, reduceCtorEq, Nat.reduceBEq]
      refine Rd_calm (by rw [C1_P]; kernel_rfl) ?_
      simp -implicitDefEqProofs only [↓yP, yT, Nat.reduceAdd, Nat.reduceMul, Nat.reduceSub, Nat.reduceLeDiff, Nat.reduceEqDiff, reduceCtorEq, Nat.reduceBEq, get_map ht, Tok.pc, opLen.eq_1, w1, w2, w3, w4]
      refine ⟨d - 1, [], by omega, by decide, pinned_zero _, i + 1, n + 1 + (strOf t.text).length + (strOf t.unit).length, ?_, rfl, by omega, by omega, by omega⟩
      simp only [yE, Nat.reduceEqDiff, Nat.reduceAdd, reduceCtorEq]
  · have t1 : leI (ts.length : Nat) (i : Nat) = true := leI_true (by omega)
    simp -implicitDefEqProofs only [↓yP, yT, Nat.reduceAdd, Nat.reduceMul, Nat.reduceSub, Nat.reduceLeDiff, Nat.reduceEqDiff, reduceCtorEq, Nat.reduceBEq, t1]
    refine ⟨_, rfl, fun h => ?_⟩
    rw [leI_eq] at h
    simp at h
    omega
end Go.Vx.Seat
end
/- Few: tokens that are not too many, and short. -/
section
open Go Go.Vx Go.Proofs
set_option linter.unusedSimpArgs false
set_option linter.unusedVariables false
set_option maxRecDepth 10000
set_option maxHeartbeats 8000000
namespace Go.Vx.Seat
attribute [local congr] Rg_at Rt_at Ro_at Ri_at Rc_at Rto_at Rtk_at Rtf_at Rti_at
attribute [local irreducible] Rg Rt Ro Ri Rc Rto Rtk Rtf Rti Rw Rl Rd Rcall Rtcall kf
theorem fewX_spec (ts : List Tok) (hl : ts.length ≤ maxL) : PCall C1 9 [.c (.p (rT ts))] fun y => ∃ b : Bool, y = yd (.bool b) ∧ (b = true → ts.length ≤ 600 ∧ ∀ t, t ∈ ts → (strOf t.text).length ≤ 200) := by
  unfold maxL at hl
  refine Pf (by rfl) (by rfl) fn9 (by rfl) ?_
  simp only [Try.f9, List.length_cons, List.length_nil, List.replicate, List.cons_append, List.nil_append]
  simp -implicitDefEqProofs only [↓yP, yT, Nat.reduceAdd, Nat.reduceMul, Nat.reduceSub, Nat.reduceLeDiff, Nat.reduceEqDiff, reduceCtorEq, Nat.reduceBEq]
  refine Rl_inv (fun d e s => ∃ i n : Nat, e = [.c (.p (rT ts)), .c .top, .c .top, yd (.int .i64 n), yd (.int .i64 i), .c .top, .c .top, .c .top, .c .top, .c .top, .c .top, .c .top, .c .top, .c .top, .c .top, .c .top, .c .top, .c .top, .c .top, .c .top, .c .top, .c .top, .c .top, .c .top, .c .top, .c .top, .c .top, .c .top, .c .top, .c .top, .c .top, .c .top, .c .top, .c .top, .c .top] ∧ s = [] ∧ i + d = ts.length ∧ i ≤ n ∧ n ≤ 400 * i ∧ ∀ (j : Nat) (t : Tok), j < i → ts[j]? = some t → (strOf t.text).length ≤ 200) [true, false, false, true, true] ts.length [] (by decide) (pinned_zero _) ⟨0, 0, by simp only [yE, Nat.reduceEqDiff, Nat.reduceAdd, reduceCtorEq]; rfl, rfl, by omega, by omega, by omega, fun j t hj => absurd hj (Nat.not_lt_zero j)⟩ ?_
  rintro d e s ⟨i, n, rfl, rfl, hd, hn1, hn2, htx⟩
  by_cases hi : i < ts.length
  · obtain ⟨t, ht⟩ := get_lt hi
    have t1 : leI (ts.length : Nat) (i : Nat) = false := leI_false (by omega)
    have w1 : wrapK .i64 ((i : Int) + 1) = ((i + 1 : Nat) : Int) := wrap_suc (by omega)
    simp -implicitDefEqProofs only [↓yP, yT, Nat.reduceAdd, Nat.reduceMul, Nat.reduceSub, Nat.reduceLeDiff, Nat.reduceEqDiff, reduceCtorEq, Nat.reduceBEq, t1, get_map ht, Tok.pc]
    refine Rcall_pure (few16_spec t) (by rfl) fun y hy => ?_
    obtain ⟨b, rfl, hb⟩ := hy
    cases b with
    | false =>
      simp -implicitDefEqProofs only [↓yP, yT, Nat.reduceAdd, Nat.reduceMul, Nat.reduceSub, Nat.reduceLeDiff, Nat.reduceEqDiff, reduceCtorEq, Nat.reduceBEq]
      exact ⟨false, rfl, fun h => by cases h⟩
    | true =>
      obtain ⟨hb1, hb2⟩ := hb rfl
      have w2 : wrapK .i64 ((n : Int) + 1) = ((n + 1 : Nat) : Int) := wrap_suc (by omega)
      have w3 : wrapK .i64 (((n + 1 : Nat) : Int) + ((strOf t.text).length : Nat)) = ((n + 1 + (strOf t.text).length : Nat) : Int) := by
        rw [show ((n + 1 : Nat) : Int) + ((strOf t.text).length : Nat) = ((n + 1 + (strOf t.text).length : Nat) : Int) by omega]; exact wrap_nat (by omega)
      have w4 : wrapK .i64 (((n + 1 + (strOf t.text).length : Nat) : Int) + ((strOf t.unit).length : Nat)) = ((n + 1 + (strOf t.text).length + (strOf t.unit).length : Nat) : Int) := by
        rw [show ((n + 1 + (strOf t.text).length : Nat) : Int) + ((strOf t.unit).length : Nat) = ((n + 1 + (strOf t.text).length + (strOf t.unit).length : Nat) : Int) by omega]; exact wrap_nat (by omega)
      simp -implicitDefEqProofs only [↓yP, yT, Nat.reduceAdd, Nat.reduceMul, Nat.reduceSub, Nat.reduceLeDiff, Nat.reduceEqDiff, reduceCtorEq, Nat.reduceBEq]
      refine Rd_calm (by rw [C1_P]; kernel_rfl) ?_
      simp -implicitDefEqProofs only [↓yP, yT, Nat.reduceAdd, Nat.reduceMul, Nat.reduceSub, Nat.reduceLeDiff, Nat.reduceEqDiff, reduceCtorEq, Nat.reduceBEq, get_map ht, Tok.pc, opLen.eq_1, w1, w2, w3, w4]
      refine ⟨d - 1, [], by omega, by decide, pinned_zero _, i + 1, n + 1 + (strOf t.text).length + (strOf t.unit).length, ?_, rfl, by omega, by omega, by omega, fun j u hj hu => ?_⟩
      · simp only [yE, Nat.reduceEqDiff, Nat.reduceAdd, reduceCtorEq]
      · by_cases e : j = i
        · subst e; rw [ht] at hu; cases hu; exact hb1
        · exact htx j u (by omega) hu
  · have t1 : leI (ts.length : Nat) (i : Nat) = true := leI_true (by omega)
    simp -implicitDefEqProofs only [↓yP, yT, Nat.reduceAdd, Nat.reduceMul, Nat.reduceSub, Nat.reduceLeDiff, Nat.reduceEqDiff, reduceCtorEq, Nat.reduceBEq, t1]
    refine ⟨_, rfl, fun h => ?_⟩
    rw [leI_eq] at h
    simp at h
    exact ⟨by omega, fun t ht => by obtain ⟨j, hj⟩ := List.getElem?_of_mem ht; exact htx j t (by have := (List.getElem?_eq_some_iff.mp hj).1; omega) hj⟩
end Go.Vx.Seat
end
/- Where a blank goes: the document's two questions. -/
section
open Go Go.Vx Go.Proofs
set_option linter.unusedSimpArgs false
set_option linter.unusedVariables false
set_option maxRecDepth 10000
set_option maxHeartbeats 4000000
namespace Go.Vx.Seat
attribute [local congr] Rg_at Rt_at Ro_at Ri_at Rc_at Rto_at Rtk_at Rtf_at Rti_at
attribute [local irreducible] Rg Rt Ro Ri Rc Rto Rtk Rtf Rti Rw Rl Rd Rcall Rtcall kf
theorem fn42 : nth C1.P.funcs.toList 42 = some Try.f42 := by kernel_rfl
theorem fn43 : nth C1.P.funcs.toList 43 = some Try.f43 := by kernel_rfl
def opens7 (k : Int) : Bool := eqI k 19 || (eqI k 20 || (eqI k 21 || (eqI k 2 || (eqI k 23 || (eqI k 18 || eqI k 17)))))
def shuts6 (k : Int) : Bool := eqI k 19 || (eqI k 20 || (eqI k 22 || (eqI k 24 || (eqI k 18 || eqI k 17))))
def befB (l : List Tok) (cs : List Int) (n : Nat) : Bool := match l[n]? with | some t => opens7 t.kind || cs.contains ((n : Nat) : Int) | none => true
def aftB (l : List Tok) (cs : List Int) (n : Nat) : Bool := match l[n]? with | some t => shuts6 t.kind || cs.contains ((n : Nat) : Int) | none => true
theorem beforeX_spec (l : List Tok) (cs : List Int) (n : Nat) (hc : cs.length ≤ 100000000) (h1 : n < l.length) : PCall C1 42 [.c (.p (rT l)), .c (.p (rI cs)), yd (.int .i64 (n : Nat))] fun y => y = yd (.bool (befB l cs n)) := by
  obtain ⟨t, ht⟩ := get_lt (l := l) (i := n) h1
  have t0 : leI 0 (n : Nat) = true := leI_true (by omega)
  have e : befB l cs n = (opens7 t.kind || cs.contains ((n : Nat) : Int)) := by rw [befB, ht]
  rw [e, opens7]
  refine Pf (by rfl) (by rfl) fn42 (by rfl) ?_
  simp only [Try.f42, List.length_cons, List.length_nil, List.replicate, List.cons_append, List.nil_append]
  simp -implicitDefEqProofs only [↓yP, yT, Nat.reduceAdd, Nat.reduceMul, Nat.reduceSub, Nat.reduceLeDiff, Nat.reduceEqDiff, reduceCtorEq, Nat.reduceBEq, t0, get_map ht, Tok.pc, Int.toNat_natCast]
  cases q1 : eqI t.kind 19 <;> cases q2 : eqI t.kind 20 <;> cases q3 : eqI t.kind 21 <;> cases q4 : eqI t.kind 2 <;> cases q5 : eqI t.kind 23 <;> cases q6 : eqI t.kind 18 <;> cases q7 : eqI t.kind 17
  all_goals
    first
    | (simp -implicitDefEqProofs only [↓yP, yT, Nat.reduceAdd, Nat.reduceMul, Nat.reduceSub, Nat.reduceLeDiff, Nat.reduceEqDiff, reduceCtorEq, Nat.reduceBEq, q1, q2, q3, q4, q5, q6, q7]; done)
    | (simp -implicitDefEqProofs only [↓yP, yT, Nat.reduceAdd, Nat.reduceMul, Nat.reduceSub, Nat.reduceLeDiff, Nat.reduceEqDiff, reduceCtorEq, Nat.reduceBEq, q1, q2, q3, q4, q5, q6, q7]
       refine Rcall_pure (in_spec cs _ hc) (by rfl) fun y hy => ?_
       subst hy
       simp -implicitDefEqProofs only [↓yP, yT, Nat.reduceAdd, Nat.reduceMul, Nat.reduceSub, Nat.reduceLeDiff, Nat.reduceEqDiff, reduceCtorEq, Nat.reduceBEq]
       done)
theorem afterX_spec (l : List Tok) (cs : List Int) (n : Nat) (hc : cs.length ≤ 100000000) : PCall C1 43 [.c (.p (rT l)), .c (.p (rI cs)), yd (.int .i64 (n : Nat))] fun y => y = yd (.bool (aftB l cs n)) := by
  by_cases h0 : n < l.length
  · obtain ⟨t, ht⟩ := get_lt h0
    have t0 : leI (l.length : Nat) (n : Nat) = false := leI_false (by omega)
    have e : aftB l cs n = (shuts6 t.kind || cs.contains ((n : Nat) : Int)) := by rw [aftB, ht]
    rw [e, shuts6]
    refine Pf (by rfl) (by rfl) fn43 (by rfl) ?_
    simp only [Try.f43, List.length_cons, List.length_nil, List.replicate, List.cons_append, List.nil_append]
    simp -implicitDefEqProofs only [↓yP, yT, Nat.reduceAdd, Nat.reduceMul, Nat.reduceSub, Nat.reduceLeDiff, Nat.reduceEqDiff, reduceCtorEq, Nat.reduceBEq, t0, get_map ht, Tok.pc, Int.toNat_natCast]
    cases q1 : eqI t.kind 19 <;> cases q2 : eqI t.kind 20 <;> cases q3 : eqI t.kind 22 <;> cases q4 : eqI t.kind 24 <;> cases q5 : eqI t.kind 18 <;> cases q6 : eqI t.kind 17
    all_goals
      first
      | (simp -implicitDefEqProofs only [↓yP, yT, Nat.reduceAdd, Nat.reduceMul, Nat.reduceSub, Nat.reduceLeDiff, Nat.reduceEqDiff, reduceCtorEq, Nat.reduceBEq, q1, q2, q3, q4, q5, q6]; done)
      | (simp -implicitDefEqProofs only [↓yP, yT, Nat.reduceAdd, Nat.reduceMul, Nat.reduceSub, Nat.reduceLeDiff, Nat.reduceEqDiff, reduceCtorEq, Nat.reduceBEq, q1, q2, q3, q4, q5, q6]
         refine Rcall_pure (in_spec cs _ hc) (by rfl) fun y hy => ?_
         subst hy
         simp -implicitDefEqProofs only [↓yP, yT, Nat.reduceAdd, Nat.reduceMul, Nat.reduceSub, Nat.reduceLeDiff, Nat.reduceEqDiff, reduceCtorEq, Nat.reduceBEq]
         done)
  · have t0 : leI (l.length : Nat) (n : Nat) = true := leI_true (by omega)
    have e : aftB l cs n = true := by rw [aftB, List.getElem?_eq_none (by omega)]
    rw [e]
    refine Pf (by rfl) (by rfl) fn43 (by rfl) ?_
    simp only [Try.f43, List.length_cons, List.length_nil, List.replicate, List.cons_append, List.nil_append]
    simp -implicitDefEqProofs only [↓yP, yT, Nat.reduceAdd, Nat.reduceMul, Nat.reduceSub, Nat.reduceLeDiff, Nat.reduceEqDiff, reduceCtorEq, Nat.reduceBEq, t0]
end Go.Vx.Seat
end
/- What tokens come to: the rule, in plain Lean. -/
section
open Go Go.Vx Go.Proofs
set_option linter.unusedSimpArgs false
set_option linter.unusedVariables false
namespace Go.Vx.Seat
/-- A blank. -/
def blankTok (s : ByteArray) (f : Int) : Tok := ⟨13, s, ⟨#[]⟩, false, ⟨#[]⟩, ⟨#[]⟩, false, false, 0, 0, 0, 0, f⟩
/-- A comment that is kept. -/
def kp (t : Tok) : Bool := eqI t.kind 25 && keepB t.text
/-- What is kept of so many tokens. -/
def keptN (ts : List Tok) (i : Nat) : Nat → List Tok
  | 0 => []
  | m + 1 => keptN ts i m ++ (match ts[i + m]? with | some t => (if kp t then [t] else []) | none => [])
/-- The first blank of so many tokens. -/
def spaceN (ts : List Tok) (i : Nat) : Nat → Option Nat
  | 0 => none
  | m + 1 => match spaceN ts i m with
    | some k => some k
    | none => match ts[i + m]? with | some t => (if eqI t.kind 13 then some (i + m) else none) | none => none
def fromAt (ts : List Tok) (n : Nat) : Int := match ts[n]? with | some t => t.start | none => 0
def lineAt (ts : List Tok) : Nat → Bool
  | 0 => false
  | j + 1 => match ts[j]? with | some t => lineB t | none => false
def goBef (ts : List Tok) (cols : List Int) : Nat → Bool
  | 0 => true
  | j + 1 => befB ts cols j
/-- What a run of passed over tokens, from a place up to another, comes to. -/
def runOut (ts : List Tok) (cols : List Int) (i k : Nat) : List Tok :=
  match spaceN ts i (k - i) with
  | none => keptN ts i (k - i)
  | some n => if lineAt ts i then blankTok ⟨#[10]⟩ (fromAt ts n) :: keptN ts i (k - i)
    else if goBef ts cols i || aftB ts cols k then keptN ts i (k - i) else keptN ts i (k - i) ++ [blankTok ⟨#[32]⟩ (fromAt ts n)]
/-- The end of what is passed over. -/
def qend (ts : List Tok) : Nat → Nat → Nat
  | 0, k => k
  | d + 1, k => if quiet (kindAt ts k) then qend ts d (k + 1) else k
theorem qend_ge (ts : List Tok) : ∀ d k, k ≤ qend ts d k ∧ qend ts d k ≤ k + d
  | 0, k => by simp [qend]
  | d + 1, k => by
    have := qend_ge ts d (k + 1)
    unfold qend
    split <;> omega
/-- What the tokens from a place on come to. -/
def valF (ts : List Tok) (cols : List Int) (i : Nat) : List Tok :=
  if h : i < ts.length then
    (if quiet (kindAt ts i) then runOut ts cols i (qend ts (ts.length - (i + 1)) (i + 1)) ++ valF ts cols (qend ts (ts.length - (i + 1)) (i + 1)) else ts[i] :: valF ts cols (i + 1))
  else []
termination_by ts.length - i
decreasing_by
  all_goals first | (have := qend_ge ts (ts.length - (i + 1)) (i + 1); omega) | omega
theorem valF_end {ts : List Tok} {cols : List Int} {i : Nat} (h : ts.length ≤ i) : valF ts cols i = [] := by rw [valF, dif_neg (by omega)]
theorem valF_one {ts : List Tok} {cols : List Int} {i : Nat} {t : Tok} (h : ts[i]? = some t) (hq : quiet t.kind = false) : valF ts cols i = t :: valF ts cols (i + 1) := by
  obtain ⟨hl, he⟩ := List.getElem?_eq_some_iff.mp h
  rw [valF, dif_pos hl, if_neg (by rw [kindAt_some h, hq]; simp), he]
theorem qend_eq {ts : List Tok} : ∀ {d k n : Nat}, (∀ j, k ≤ j → j < n → quiet (kindAt ts j) = true) → k ≤ n → n ≤ k + d → (n = k + d ∨ quiet (kindAt ts n) = false) → qend ts d k = n
  | 0, k, n, _, h1, h2, _ => by simp [qend]; omega
  | d + 1, k, n, hq, h1, h2, h3 => by
    unfold qend
    by_cases e : k = n
    · subst e
      rcases h3 with h3 | h3
      · omega
      · rw [if_neg (by rw [h3]; simp)]
    · rw [if_pos (hq k (Nat.le_refl _) (by omega))]
      exact qend_eq (fun j hj => hq j (by omega)) (by omega) (by omega) (by rcases h3 with h3 | h3; exact .inl (by omega); exact .inr h3)
theorem valF_run {ts : List Tok} {cols : List Int} {i m : Nat} (hm : 0 < m) (hl : i + m ≤ ts.length) (hq : ∀ j, j < m → quiet (kindAt ts (i + j)) = true) (he : i + m = ts.length ∨ quiet (kindAt ts (i + m)) = false) :
    valF ts cols i = runOut ts cols i (i + m) ++ valF ts cols (i + m) := by
  have h1 : qend ts (ts.length - (i + 1)) (i + 1) = i + m := qend_eq (fun j h1 h2 => by have := hq (j - i) (by omega); rwa [show i + (j - i) = j by omega] at this) (by omega) (by omega) (by rcases he with he | he; exact .inl (by omega); exact .inr he)
  rw [valF, dif_pos (by omega), if_pos (by have := hq 0 hm; simpa using this), h1]
theorem kept_length (ts : List Tok) (i : Nat) : ∀ m, (keptN ts i m).length + (match spaceN ts i m with | some _ => 1 | none => 0) ≤ m
  | 0 => by simp [keptN, spaceN]
  | m + 1 => by
    have ih := kept_length ts i m
    simp only [keptN, spaceN, List.length_append]
    cases h : ts[i + m]? with
    | none =>
      simp only [List.length_nil]
      cases hs : spaceN ts i m with
      | none => rw [hs] at ih; simp only at ih ⊢; omega
      | some k => rw [hs] at ih; simp only at ih ⊢; omega
    | some t =>
      simp only
      by_cases k1 : kp t
      · have h25 : eqI t.kind 13 = false := by
          simp only [kp, Bool.and_eq_true] at k1
          have h1 := k1.1
          rw [eqI_eq, decide_eq_true_eq] at h1
          exact eqI_false (by omega)
        rw [if_pos k1, h25]
        simp only [List.length_singleton]
        cases hs : spaceN ts i m with
        | none => rw [hs] at ih; simp at ih ⊢; omega
        | some k => rw [hs] at ih; simp only at ih ⊢; omega
      · rw [if_neg k1]
        simp only [List.length_nil]
        cases hs : spaceN ts i m with
        | none => rw [hs] at ih; simp only at ih ⊢; split <;> first | omega | (simp_all; omega) | simp_all
        | some k => rw [hs] at ih; simp only at ih ⊢; omega
theorem kept_le (ts : List Tok) (i m : Nat) : (keptN ts i m).length ≤ m := by have := kept_length ts i m; omega
theorem bytes_le (a b : Nat) (ha : a ≤ 2000000) (hb : b ≤ 2000000) : (a + b) * 128 ≤ 70368744177664 := by omega
theorem space_lt {ts : List Tok} {i : Nat} : ∀ {m n : Nat}, spaceN ts i m = some n → i ≤ n ∧ n < i + m ∧ n < ts.length ∧ kindAt ts n = 13
  | 0, n, h => by cases h
  | m + 1, n, h => by
    unfold spaceN at h
    split at h
    · rename_i k hk
      cases h
      have := space_lt hk
      exact ⟨by omega, by omega, this.2.2⟩
    · split at h
      · rename_i t ht
        split at h
        · rename_i hq
          cases h
          have := (List.getElem?_eq_some_iff.mp ht).1
          rw [eqI_eq, decide_eq_true_eq] at hq
          exact ⟨by omega, by omega, this, by rw [kindAt_some ht, hq]⟩
        · cases h
      · cases h
def encS : Option Nat → Int
  | none => -1
  | some n => (n : Nat)
end Go.Vx.Seat
end
/- Is a number among some? Go's slices.Index and slices.Contains. -/
section
open Go Go.Vx Go.Proofs
set_option linter.unusedSimpArgs false
set_option linter.unusedVariables false
set_option maxRecDepth 10000
set_option maxHeartbeats 4000000
namespace Go.Vx.Seat
attribute [local congr] Rg_at Rt_at Ro_at Ri_at Rc_at Rto_at Rtk_at Rtf_at Rti_at
attribute [local irreducible] Rg Rt Ro Ri Rc Rto Rtk Rtf Rti Rw Rl Rd Rcall Rtcall kf
theorem fn90 : nth C1.P.funcs.toList 90 = some Try.f90 := by kernel_rfl
theorem fn112 : nth C1.P.funcs.toList 112 = some Try.f112 := by kernel_rfl
theorem sIndex_spec (l : List Int) (n : Int) (hl : l.length ≤ 1000000) : PCall C1 112 [.c (.p (rI l)), yd (.int .i64 n)] fun y => ∃ v : Int, y = yd (.int .i64 v) ∧ (leI 0 v = l.contains n) := by
  refine Pf (by rfl) (by rfl) fn112 (by rfl) ?_
  simp only [Try.f112, List.length_cons, List.length_nil, List.replicate, List.cons_append, List.nil_append]
  simp -implicitDefEqProofs only [↓yP, yT, Nat.reduceAdd, Nat.reduceMul, Nat.reduceSub, Nat.reduceLeDiff, Nat.reduceEqDiff, reduceCtorEq, Nat.reduceBEq]
  refine Rl_inv (fun d e s => ∃ i : Nat, e = [.c (.p (rI l)), yd (.int .i64 n), .c .top, .c .top, .c .top, .c .top, .c .top, yd (.int .i64 (l.length : Nat)), yd (.int .i64 i), .c .top, .c .top, .c .top, .c .top, .c .top, .c .top, .c .top, .c .top, .c .top, .c .top] ∧ s = [] ∧ i + d = l.length ∧ ∀ (j : Nat) (a : Int), j < i → l[j]? = some a → a ≠ n) [true, true, false, false, false, false, false, true, true] l.length [] (by decide) (pinned_zero _) ⟨0, by simp only [yE, Nat.reduceEqDiff, Nat.reduceAdd, reduceCtorEq]; rfl, rfl, by omega, fun j a hj => absurd hj (Nat.not_lt_zero j)⟩ ?_
  rintro d e s ⟨i, rfl, rfl, hd, hno⟩
  by_cases hi : i < l.length
  · obtain ⟨a, ha⟩ := get_lt hi
    have t1 : leI (l.length : Nat) (i : Nat) = false := leI_false (by omega)
    have w1 : wrapK .i64 ((i : Int) + 1) = ((i + 1 : Nat) : Int) := wrap_succ (by omega)
    by_cases he : n = a
    · subst he
      simp -implicitDefEqProofs only [↓yP, yT, Nat.reduceAdd, Nat.reduceMul, Nat.reduceSub, Nat.reduceLeDiff, Nat.reduceEqDiff, reduceCtorEq, Nat.reduceBEq, t1, get_map ha, ei, eqI_true]
      refine ⟨_, rfl, ?_⟩
      rw [leI_true (by omega)]
      exact (List.contains_iff_mem.mpr (List.mem_of_getElem? ha)).symm
    · simp -implicitDefEqProofs only [↓yP, yT, Nat.reduceAdd, Nat.reduceMul, Nat.reduceSub, Nat.reduceLeDiff, Nat.reduceEqDiff, reduceCtorEq, Nat.reduceBEq, t1, get_map ha, ei, eqI_false he, w1]
      refine ⟨d - 1, [], by omega, by decide, pinned_zero _, i + 1, by (simp only [yE, Nat.reduceEqDiff, Nat.reduceAdd, reduceCtorEq]; try rfl), by (simp only [yE, Nat.reduceEqDiff, Nat.reduceAdd, reduceCtorEq]; try rfl), by omega, fun j b hj hb => ?_⟩
      by_cases e : j = i
      · subst e; rw [ha] at hb; cases hb; exact fun h => he h.symm
      · exact hno j b (by omega) hb
  · have t1 : leI (l.length : Nat) (i : Nat) = true := leI_true (by omega)
    simp -implicitDefEqProofs only [↓yP, yT, Nat.reduceAdd, Nat.reduceMul, Nat.reduceSub, Nat.reduceLeDiff, Nat.reduceEqDiff, reduceCtorEq, Nat.reduceBEq, t1]
    refine ⟨_, rfl, ?_⟩
    rw [leI_false (by omega)]
    symm
    rw [Bool.eq_false_iff]
    intro h
    obtain ⟨j, hj⟩ := List.getElem?_of_mem (List.contains_iff_mem.mp h)
    exact hno j n (by have := (List.getElem?_eq_some_iff.mp hj).1; omega) hj rfl
theorem sContains_spec (l : List Int) (n : Int) (hl : l.length ≤ 1000000) : PCall C1 90 [.c (.p (rI l)), yd (.int .i64 n)] fun y => y = yd (.bool (l.contains n)) := by
  refine Pf (by rfl) (by rfl) fn90 (by rfl) ?_
  simp only [Try.f90, List.length_cons, List.length_nil, List.replicate, List.cons_append, List.nil_append]
  simp -implicitDefEqProofs only [↓yP, yT, Nat.reduceAdd, Nat.reduceMul, Nat.reduceSub, Nat.reduceLeDiff, Nat.reduceEqDiff, reduceCtorEq, Nat.reduceBEq]
  refine Rcall_pure (sIndex_spec l n hl) (by rfl) fun y hy => ?_
  obtain ⟨v, rfl, hv⟩ := hy
  simp -implicitDefEqProofs only [↓yP, yT, Nat.reduceAdd, Nat.reduceMul, Nat.reduceSub, Nat.reduceLeDiff, Nat.reduceEqDiff, reduceCtorEq, Nat.reduceBEq, hv]
end Go.Vx.Seat
end
