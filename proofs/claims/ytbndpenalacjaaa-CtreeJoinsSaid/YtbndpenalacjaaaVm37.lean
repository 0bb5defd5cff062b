/- Texts joined: VxEq VxAlive VyTy21 VyPack VyC1 VyL1 VyL2 VyL3 VyL4 VyL5 VyM0 VyL6 VyL7 VyM5 VyM1 VyL8 VyM2 VyTS. -/
import Derived.Test.YtbndpenalacjaaaVxTold
import Derived.KernelRfl
import Derived.Test.YtbndpenalacjaaaProg
import Derived.Test.YtbndpenalacjaaaVyRun
import Derived.Test.YtbndpenalacjaaaVyOwn
import Derived.Test.YtbndpenalacjaaaVyShift5
set_option linter.unusedSimpArgs false
set_option linter.unusedVariables false
section
namespace Go.Vx.Seat
open Go.Proofs
theorem eq_int (d : Nat) (a b : Int) (w : World) : (Op.equalIn (d + 1) 3 (.int .i64 a) (.int .i64 b)).run Try.prog w = .ok (a == b) w := by
  simp [Op.equalIn, run_underlying Try.underlying3]
theorem eq_str (d : Nat) (a b : ByteArray) (w : World) : (Op.equalIn (d + 1) 9 (.string a) (.string b)).run Try.prog w = .ok (a == b) w := by
  simp [Op.equalIn, run_underlying Try.underlying9]
theorem eq_bool (d : Nat) (a b : Bool) (w : World) : (Op.equalIn (d + 1) 4 (.bool a) (.bool b)).run Try.prog w = .ok (a == b) w := by
  simp [Op.equalIn, run_underlying Try.underlying4]
theorem ite_ok (b c : Bool) (w : World) : (if b = false then Result.ok false w else Result.ok c w) = Result.ok (b && c) w := by cases b <;> rfl
theorem heldN : Try.prog.stoodInHeld 41 = false := by kernel_rfl
theorem heldT : Try.prog.stoodInHeld 44 = false := by kernel_rfl
theorem ag3 : tyAgg Try.prog 3 = some false := by kernel_rfl
theorem ag9 : tyAgg Try.prog 9 = some false := by kernel_rfl
theorem ag4 : tyAgg Try.prog 4 = some false := by kernel_rfl
theorem agN : tyAgg Try.prog 41 = some true := by kernel_rfl
theorem agC : tyAgg Try.prog 42 = some true := by kernel_rfl
theorem szN : tySz Try.prog 41 = 3 := by kernel_rfl
theorem szC : tySz Try.prog 42 = 4 := by kernel_rfl
theorem sz3 : tySz Try.prog 3 = 1 := by kernel_rfl
theorem part_cell {t : TypeId} (h : tyAgg Try.prog t = some false) (cs : Array Value) (off : Nat) (w : World) : (part t cs off).run Try.prog w = match cs[off]? with | some v => .ok v w | none => .halt (.stuck "part: no such cell") w := by
  simp only [part, Sem.run_bind, run_isAgg h, Result.andThen]
  cases cs[off]? <;> simp
theorem part_agg {t n : TypeId} (h : tyAgg Try.prog t = some true) (hz : tySz Try.prog t = n) (cs : Array Value) (off : Nat) (w : World) : (part t cs off).run Try.prog w = .ok (.agg (cs.extract off (off + n))) w := by
  simp [part, run_isAgg h, run_sizeOf (tyAgg_info h), hz]
theorem eq_num (d : Nat) (a b : Bool) (a1 b1 a2 b2 : ByteArray) (w : World) : (Op.equalIn (d + 1 + 1) 41 (.agg #[.bool a, .string a1, .string a2]) (.agg #[.bool b, .string b1, .string b2])).run Try.prog w = .ok ((a == b) && ((a1 == b1) && (a2 == b2))) w := by
  rw [Op.equalIn]
  simp only [Sem.run_bind, run_underlying Try.underlying41, Result.andThen, run_program, heldN]
  simp only [forIn]
  simp [part_cell ag4, part_cell ag9, eq_bool, eq_str]
  simp only [ite_ok]
  cases h1 : a == b <;> cases h2 : a1 == b1 <;> cases h3 : a2 == b2 <;> simp_all
theorem eq_col (d : Nat) (a0 a1 a2 a3 b0 b1 b2 b3 : Int) (w : World) : (Op.equalIn (d + 1 + 1) 42 (.agg #[.int .i64 a0, .int .i64 a1, .int .i64 a2, .int .i64 a3]) (.agg #[.int .i64 b0, .int .i64 b1, .int .i64 b2, .int .i64 b3])).run Try.prog w =
    .ok ((a0 == b0) && ((a1 == b1) && ((a2 == b2) && (a3 == b3)))) w := by
  rw [Op.equalIn]
  simp only [Sem.run_bind, run_underlying Try.underlying42, Result.andThen, run_sizeOf (tyAgg_info ag3), sz3]
  simp [Std.Legacy.Range.forIn_eq_forIn_range', Std.Legacy.Range.size, List.range'_succ, part_cell ag3, eq_int]
  by_cases h1 : a0 = b0 <;> by_cases h2 : a1 = b1 <;> by_cases h3 : a2 = b2 <;> by_cases h4 : a3 = b3 <;> simp_all
theorem eq_tok (d : Nat) (a0 a8 a9 a10 a11 a12 b0 b8 b9 b10 b11 b12 : Int) (a1 a2 a4 a5 b1 b2 b4 b5 : ByteArray) (p3 p6 p7 q3 q6 q7 : Bool) (w : World) :
    (Op.equalIn (d + 1 + 1 + 1) 44 (.agg #[.int .i64 a0, .string a1, .string a2, .bool p3, .string a4, .string a5, .bool p6, .bool p7, .int .i64 a8, .int .i64 a9, .int .i64 a10, .int .i64 a11, .int .i64 a12])
      (.agg #[.int .i64 b0, .string b1, .string b2, .bool q3, .string b4, .string b5, .bool q6, .bool q7, .int .i64 b8, .int .i64 b9, .int .i64 b10, .int .i64 b11, .int .i64 b12])).run Try.prog w =
    .ok ((a0 == b0) && ((a1 == b1) && ((a2 == b2) && (((p3 == q3) && ((a4 == b4) && (a5 == b5))) && ((p6 == q6) && ((p7 == q7) && (((a8 == b8) && ((a9 == b9) && ((a10 == b10) && (a11 == b11)))) && (a12 == b12)))))))) w := by
  rw [Op.equalIn]
  simp only [Sem.run_bind, run_underlying Try.underlying44, Result.andThen, run_program, heldT]
  simp only [forIn]
  simp [part_cell ag4, part_cell ag9, part_cell ag3, part_agg agN szN, part_agg agC szC, eq_bool, eq_str, eq_int, eq_num, eq_col]
  by_cases h0 : ¬ a0 = b0
  · simp [h0]
  have h0 : a0 = b0 := Classical.not_not.1 h0
  cases h1 : a1 == b1
  · simp
  cases h2 : a2 == b2
  · simp
  by_cases h3 : ¬ p3 = q3
  · simp [h3]
  have h3 : p3 = q3 := Classical.not_not.1 h3
  cases h4 : a4 == b4
  · simp
  cases h5 : a5 == b5
  · simp [h3]
  by_cases h6 : ¬ p6 = q6
  · simp [h0, h3, h6]
  have h6 : p6 = q6 := Classical.not_not.1 h6
  by_cases h7 : ¬ p7 = q7
  · simp [h0, h3, h6, h7]
  have h7 : p7 = q7 := Classical.not_not.1 h7
  by_cases h8 : ¬ a8 = b8
  · simp [h0, h3, h6, h7, h8]
  have h8 : a8 = b8 := Classical.not_not.1 h8
  by_cases h9 : ¬ a9 = b9
  · simp [h0, h3, h6, h7, h8, h9]
  have h9 : a9 = b9 := Classical.not_not.1 h9
  by_cases h10 : ¬ a10 = b10
  · simp [h0, h3, h6, h7, h8, h9, h10]
  have h10 : a10 = b10 := Classical.not_not.1 h10
  by_cases h11 : ¬ a11 = b11
  · simp [h0, h3, h6, h7, h8, h9, h10, h11]
  have h11 : a11 = b11 := Classical.not_not.1 h11
  by_cases h12 : a12 = b12 <;> simp [h0, h3, h6, h7, h8, h9, h10, h11, h12]
theorem likes_int {k : IntKind} {z : Int} {zs xs : List Value} (h : likes (.int k z :: zs) xs = true) : ∃ n xs', xs = .int k n :: xs' ∧ likes zs xs' = true := by
  cases xs with
  | nil => simp [likes] at h
  | cons x xs =>
    cases x <;> simp [likes] at h
    obtain ⟨rfl, h⟩ := h
    exact ⟨_, xs, rfl, h⟩
theorem likes_str {z : ByteArray} {zs xs : List Value} (h : likes (.string z :: zs) xs = true) : ∃ n xs', xs = .string n :: xs' ∧ likes zs xs' = true := by
  cases xs with
  | nil => simp [likes] at h
  | cons x xs => cases x <;> simp [likes] at h; exact ⟨_, xs, rfl, h⟩
theorem likes_bool {z : Bool} {zs xs : List Value} (h : likes (.bool z :: zs) xs = true) : ∃ n xs', xs = .bool n :: xs' ∧ likes zs xs' = true := by
  cases xs with
  | nil => simp [likes] at h
  | cons x xs => cases x <;> simp [likes] at h; exact ⟨_, xs, rfl, h⟩
theorem likes_nil {xs : List Value} (h : likes [] xs = true) : xs = [] := by
  cases xs with
  | nil => rfl
  | cons x xs => simp [likes] at h
abbrev noStr : ByteArray := ⟨#[]⟩
theorem zeroT : tyZero Try.prog 44 = some (.agg #[.int .i64 0, .string noStr, .string noStr, .bool false, .string noStr, .string noStr, .bool false, .bool false, .int .i64 0, .int .i64 0, .int .i64 0, .int .i64 0, .int .i64 0]) := by kernel_rfl
theorem zeroN : tyZero Try.prog 41 = some (.agg #[.bool false, .string noStr, .string noStr]) := by kernel_rfl
theorem zeroC : tyZero Try.prog 42 = some (.agg #[.int .i64 0, .int .i64 0, .int .i64 0, .int .i64 0]) := by kernel_rfl
theorem likesN {xs : List Value} (h : likes [.bool false, .string noStr, .string noStr] xs = true) : ∃ a b c, xs = [.bool a, .string b, .string c] := by
  obtain ⟨a, x1, rfl, g1⟩ := likes_bool h
  obtain ⟨b, x2, rfl, g2⟩ := likes_str g1
  obtain ⟨c, x3, rfl, g3⟩ := likes_str g2
  cases likes_nil g3
  exact ⟨a, b, c, rfl⟩
theorem likesC {xs : List Value} (h : likes [.int .i64 0, .int .i64 0, .int .i64 0, .int .i64 0] xs = true) : ∃ a b c d, xs = [.int .i64 a, .int .i64 b, .int .i64 c, .int .i64 d] := by
  obtain ⟨a, x1, rfl, g1⟩ := likes_int h
  obtain ⟨b, x2, rfl, g2⟩ := likes_int g1
  obtain ⟨c, x3, rfl, g3⟩ := likes_int g2
  obtain ⟨d, x4, rfl, g4⟩ := likes_int g3
  cases likes_nil g4
  exact ⟨a, b, c, d, rfl⟩
theorem likesT {xs : List Value} (h : likes [.int .i64 0, .string noStr, .string noStr, .bool false, .string noStr, .string noStr, .bool false, .bool false, .int .i64 0, .int .i64 0, .int .i64 0, .int .i64 0, .int .i64 0] xs = true) :
    ∃ a0 a1 a2 a3 a4 a5 a6 a7 a8 a9 a10 a11 a12, xs = [.int .i64 a0, .string a1, .string a2, .bool a3, .string a4, .string a5, .bool a6, .bool a7, .int .i64 a8, .int .i64 a9, .int .i64 a10, .int .i64 a11, .int .i64 a12] := by
  obtain ⟨a0, x0, rfl, g1⟩ := likes_int h
  obtain ⟨a1, x1, rfl, g2⟩ := likes_str g1
  obtain ⟨a2, x2, rfl, g3⟩ := likes_str g2
  obtain ⟨a3, x3, rfl, g4⟩ := likes_bool g3
  obtain ⟨a4, x4, rfl, g5⟩ := likes_str g4
  obtain ⟨a5, x5, rfl, g6⟩ := likes_str g5
  obtain ⟨a6, x6, rfl, g7⟩ := likes_bool g6
  obtain ⟨a7, x7, rfl, g8⟩ := likes_bool g7
  obtain ⟨a8, x8, rfl, g9⟩ := likes_int g8
  obtain ⟨a9, x9, rfl, g10⟩ := likes_int g9
  obtain ⟨a10, x10, rfl, g11⟩ := likes_int g10
  obtain ⟨a11, x11, rfl, g12⟩ := likes_int g11
  obtain ⟨a12, x12, rfl, g13⟩ := likes_int g12
  cases likes_nil g13
  exact ⟨_, _, _, _, _, _, _, _, _, _, _, _, _, rfl⟩
theorem guard_none {t : TypeId} (h : Try.prog.eqGuardType Try.prog.depth t = false) (op : BinOp) (xo yo : Operand) (a b : Array Value) (w : World) : (eqGuard op t xo yo (.agg a) (.agg b)).run Try.prog w = .ok () w := by
  unfold eqGuard
  cases op <;> simp [h]
theorem guardT : Try.prog.eqGuardType Try.prog.depth 44 = false := by kernel_rfl
theorem guardN : Try.prog.eqGuardType Try.prog.depth 41 = false := by kernel_rfl
theorem guardC : Try.prog.eqGuardType Try.prog.depth 42 = false := by kernel_rfl
theorem arr_of {xs : Array Value} {l : List Value} (h : xs.toList = l) : xs = l.toArray := by subst h; simp
theorem eq_of_deep {t : TypeId} {x y : Value} {b : Bool} {w : World} (h : ∀ d, (Op.equalIn (d + 1 + 1 + 1) t x y).run Try.prog w = .ok b w) : (Op.equal t x y).run Try.prog w = .ok b w := by
  unfold Op.equal
  have : Op.maxDepth = 9997 + 1 + 1 + 1 := by unfold Op.maxDepth; omega
  rw [this]
  exact h 9997
theorem eqsOk : EqsOk Try.prog [44, 41, 42] := by
  intro t ht xs ys b hab xo yo w
  simp only [List.mem_cons, List.not_mem_nil, or_false] at ht
  rcases ht with rfl | rfl | rfl
  · refine ⟨guard_none guardT _ _ _ _ _ _, guard_none guardT _ _ _ _ _ _, ?_⟩
    unfold aggEq at hab
    rw [zeroT] at hab
    simp only at hab
    split at hab
    · rename_i hl
      simp only [Bool.and_eq_true] at hl
      obtain ⟨a0, a1, a2, a3, a4, a5, a6, a7, a8, a9, a10, a11, a12, hx⟩ := likesT hl.1
      obtain ⟨b0, b1, b2, b3, b4, b5, b6, b7, b8, b9, b10, b11, b12, hy⟩ := likesT hl.2
      rw [hx, hy] at hab
      simp only [cellsEq, cellEq, if_true] at hab
      cases hab
      rw [arr_of hx, arr_of hy]
      refine eq_of_deep fun d => ?_
      have := eq_tok d a0 a8 a9 a10 a11 a12 b0 b8 b9 b10 b11 b12 a1 a2 a4 a5 b1 b2 b4 b5 a3 a6 a7 b3 b6 b7 w
      rw [this]
      refine congrArg (fun q => Result.ok q w) ?_
      simp only [beq_str, Bool.and_assoc, Bool.and_true]
      rfl
    · cases hab
  · refine ⟨guard_none guardN _ _ _ _ _ _, guard_none guardN _ _ _ _ _ _, ?_⟩
    unfold aggEq at hab
    rw [zeroN] at hab
    simp only at hab
    split at hab
    · rename_i hl
      simp only [Bool.and_eq_true] at hl
      obtain ⟨a0, a1, a2, hx⟩ := likesN hl.1
      obtain ⟨b0, b1, b2, hy⟩ := likesN hl.2
      rw [hx, hy] at hab
      simp only [cellsEq, cellEq] at hab
      cases hab
      rw [arr_of hx, arr_of hy]
      refine eq_of_deep fun d => ?_
      have := eq_num (d + 1) a0 b0 a1 b1 a2 b2 w
      rw [this]
      refine congrArg (fun q => Result.ok q w) ?_
      simp only [beq_str, Bool.and_true]
    · cases hab
  · refine ⟨guard_none guardC _ _ _ _ _ _, guard_none guardC _ _ _ _ _ _, ?_⟩
    unfold aggEq at hab
    rw [zeroC] at hab
    simp only at hab
    split at hab
    · rename_i hl
      simp only [Bool.and_eq_true] at hl
      obtain ⟨a0, a1, a2, a3, hx⟩ := likesC hl.1
      obtain ⟨b0, b1, b2, b3, hy⟩ := likesC hl.2
      rw [hx, hy] at hab
      simp only [cellsEq, cellEq, if_true] at hab
      cases hab
      rw [arr_of hx, arr_of hy]
      refine eq_of_deep fun d => ?_
      have := eq_col (d + 1) a0 a1 a2 a3 b0 b1 b2 b3 w
      rw [this]
      refine congrArg (fun q => Result.ok q w) ?_
      simp only [Bool.and_true]
      rfl
    · cases hab
def zerosB (P : Program) : Bool := P.types.toList.all fun i => match i.zero with | some z => isTup z || dryV z | none => true
theorem zerosOk_of {P : Program} (h : zerosB P = true) : ZerosOk P := by
  intro t z hz
  obtain ⟨i, hi, hiz, ht⟩ := tyZero_types hz
  unfold zerosB at h
  simp only [List.all_eq_true] at h
  have hm : i ∈ P.types.toList := by
    rw [Array.getElem?_eq_some_iff] at hi
    obtain ⟨hlt, rfl⟩ := hi
    simp
  have := h i hm
  rw [hiz] at this
  simp only [ht, Bool.false_or] at this
  exact this
theorem zerosOk : ZerosOk Try.prog := zerosOk_of (by kernel_rfl)
theorem mixed : Try.prog.follows .mixedOrders = true := by kernel_rfl
noncomputable def C0 : Cx := { P := Try.prog, eqs := [44, 41, 42], told := fun f => if f = 0 then some (fun _ _ _ => none) else none, top := 101, low := fun _ _ => True }
def fnsB (P : Program) : Nat → Bool
  | 0 => true
  | f + 1 => fnsB P f && (f == 0 || (match P.funcs.toList[f]? with | some fn => okFn P fn | none => true))
theorem fnsB_all {P : Program} : ∀ {n : Nat}, fnsB P n = true → ∀ f fn, f < n → f ≠ 0 → P.funcs[f]? = some fn → okFn P fn = true
  | 0, _, f, fn, hf, _, _ => by omega
  | n + 1, h, f, fn, hf, hs, hfn => by
    simp only [fnsB, Bool.and_eq_true] at h
    by_cases e : f = n
    · subst e
      have : P.funcs.toList[f]? = some fn := by simpa using hfn
      have h2 := h.2
      rw [this] at h2
      simpa [hs] using h2
    · exact fnsB_all h.1 f fn (by omega) hs hfn
theorem fns0 : fnsB Try.prog 101 = true := by kernel_rfl
theorem told0 (f : FuncId) : C0.told f = if f = 0 then some (fun _ _ _ => none) else none := rfl
theorem good0 : Good C0 := by
  refine ⟨mixed, eqsOk, zerosOk, fun _ _ _ h _ => h, fun f fn hf ht hfn => ?_, fun f g h lo args h1 v h' hx => ?_, fun base f g h lo f' args h1 v h' hx => ?_⟩
  · refine fnsB_all fns0 f fn hf (fun e => ?_) hfn
    rw [told0, if_pos e] at ht; cases ht
  · rw [told0] at h
    split at h <;> cases h
    cases hx
  · rw [told0] at h
    split at h <;> cases h
    simp at hx
end Go.Vx.Seat
end
section
namespace Go.Vx.Seat
open Go.Proofs
def isTrue : Option (Value × H) → Bool | some (.bool true, _) => true | _ => false
theorem isTrue_some {r : Option (Value × H)} (h : isTrue r = true) : ∃ h', r = some (.bool true, h') := by
  unfold isTrue at h
  split at h
  · exact ⟨_, rfl⟩
  · cases h
theorem alive0 : isTrue (xfun C0 3000 0 8 [] ⟨0, []⟩) = true := by kernel_rfl
noncomputable def C1 : Cx := C0.tell 8 (tell0 (.bool true))
theorem good1 : Good C1 := by
  obtain ⟨h', h⟩ := isTrue_some alive0
  exact good_tell0 good0 h rfl
end Go.Vx.Seat
end
section
open Go Go.Vx Go.Proofs
namespace Go.Vx.Seat
theorem tyA0 : tySz Try.prog 2 = 1 ∧
  tyBytes Try.prog 2 = 8 ∧
  tyAgg Try.prog 2 = some false ∧
  tyIntOrNone Try.prog 2 = true ∧
  tyIsStr Try.prog 2 = false ∧
  tyInt Try.prog 2 = some .i64 ∧
  tySz Try.prog 3 = 1 ∧
  tyBytes Try.prog 3 = 8 ∧
  tyAgg Try.prog 3 = some false ∧
  tyIntOrNone Try.prog 3 = true ∧
  tyIsStr Try.prog 3 = false ∧
  tyInt Try.prog 3 = some .i64 ∧
  tySz Try.prog 4 = 1 ∧
  tyBytes Try.prog 4 = 1 ∧
  tyAgg Try.prog 4 = some false ∧
  tyIntOrNone Try.prog 4 = false ∧
  tyIsStr Try.prog 4 = false ∧
  tySz Try.prog 5 = 1 ∧
  tyBytes Try.prog 5 = 1 ∧
  tyAgg Try.prog 5 = some false ∧
  tyIntOrNone Try.prog 5 = true ∧
  tyIsStr Try.prog 5 = false ∧
  tyInt Try.prog 5 = some .u8 ∧
  tySz Try.prog 9 = 1 ∧
  tyBytes Try.prog 9 = 16 ∧
  tyAgg Try.prog 9 = some false ∧
  tyIntOrNone Try.prog 9 = false ∧
  tyIsStr Try.prog 9 = true ∧
  tySz Try.prog 21 = 1 ∧
  tyBytes Try.prog 21 = 4 ∧
  tyAgg Try.prog 21 = some false ∧
  tyIntOrNone Try.prog 21 = true ∧
  tyIsStr Try.prog 21 = false ∧
  tyInt Try.prog 21 = some .i32 ∧
  tySz Try.prog 22 = 1 ∧
  tyBytes Try.prog 22 = 24 ∧
  tyAgg Try.prog 22 = some false ∧
  tyIntOrNone Try.prog 22 = false ∧
  tyIsStr Try.prog 22 = false ∧
  tyElem Try.prog 22 = some 44 ∧
  tySz Try.prog 23 = 1 ∧
  tyBytes Try.prog 23 = 24 ∧
  tyAgg Try.prog 23 = some false ∧
  tyIntOrNone Try.prog 23 = false ∧
  tyIsStr Try.prog 23 = false ∧
  tyElem Try.prog 23 = some 47 ∧
  tySz Try.prog 32 = 1 ∧
  tyBytes Try.prog 32 = 24 ∧
  tyAgg Try.prog 32 = some false ∧
  tyIntOrNone Try.prog 32 = false ∧
  tyIsStr Try.prog 32 = false ∧
  tyElem Try.prog 32 = some 5 ∧
  tySz Try.prog 37 = 1 ∧
  tyBytes Try.prog 37 = 24 ∧
  tyAgg Try.prog 37 = some false ∧
  tyIntOrNone Try.prog 37 = false ∧
  tyIsStr Try.prog 37 = false ∧
  tyElem Try.prog 37 = some 39 ∧
  tySz Try.prog 39 = 1 ∧
  tyBytes Try.prog 39 = 24 :=
  ⟨by kernel_rfl, by kernel_rfl, by kernel_rfl, by kernel_rfl, by kernel_rfl, by kernel_rfl, by kernel_rfl, by kernel_rfl, by kernel_rfl, by kernel_rfl, by kernel_rfl, by kernel_rfl, by kernel_rfl, by kernel_rfl, by kernel_rfl, by kernel_rfl, by kernel_rfl, by kernel_rfl, by kernel_rfl, by kernel_rfl, by kernel_rfl, by kernel_rfl, by kernel_rfl, by kernel_rfl, by kernel_rfl, by kernel_rfl, by kernel_rfl, by kernel_rfl, by kernel_rfl, by kernel_rfl, by kernel_rfl, by kernel_rfl, by kernel_rfl, by kernel_rfl, by kernel_rfl, by kernel_rfl, by kernel_rfl, by kernel_rfl, by kernel_rfl, by kernel_rfl, by kernel_rfl, by kernel_rfl, by kernel_rfl, by kernel_rfl, by kernel_rfl, by kernel_rfl, by kernel_rfl, by kernel_rfl, by kernel_rfl, by kernel_rfl, by kernel_rfl, by kernel_rfl, by kernel_rfl, by kernel_rfl, by kernel_rfl, by kernel_rfl, by kernel_rfl, by kernel_rfl, by kernel_rfl, by kernel_rfl⟩
theorem tyA1 : tyAgg Try.prog 39 = some false ∧
  tyIntOrNone Try.prog 39 = false ∧
  tyIsStr Try.prog 39 = false ∧
  tyElem Try.prog 39 = some 3 ∧
  tySz Try.prog 40 = 3 ∧
  tyBytes Try.prog 40 = 40 ∧
  tyAgg Try.prog 40 = some true ∧
  tyIntOrNone Try.prog 40 = false ∧
  tyIsStr Try.prog 40 = false ∧
  tySz Try.prog 41 = 3 ∧
  tyBytes Try.prog 41 = 40 ∧
  tyAgg Try.prog 41 = some true ∧
  tyIntOrNone Try.prog 41 = false ∧
  tyIsStr Try.prog 41 = false ∧
  tySz Try.prog 42 = 4 ∧
  tyBytes Try.prog 42 = 32 ∧
  tyAgg Try.prog 42 = some true ∧
  tyIntOrNone Try.prog 42 = false ∧
  tyIsStr Try.prog 42 = false ∧
  tySz Try.prog 43 = 13 ∧
  tyBytes Try.prog 43 = 128 ∧
  tyAgg Try.prog 43 = some true ∧
  tyIntOrNone Try.prog 43 = false ∧
  tyIsStr Try.prog 43 = false ∧
  tySz Try.prog 44 = 13 ∧
  tyBytes Try.prog 44 = 128 ∧
  tyAgg Try.prog 44 = some true ∧
  tyIntOrNone Try.prog 44 = false ∧
  tyIsStr Try.prog 44 = false ∧
  tySz Try.prog 46 = 9 ∧
  tyBytes Try.prog 46 = 104 ∧
  tyAgg Try.prog 46 = some true ∧
  tyIntOrNone Try.prog 46 = false ∧
  tyIsStr Try.prog 46 = false ∧
  tySz Try.prog 47 = 9 ∧
  tyBytes Try.prog 47 = 104 ∧
  tyAgg Try.prog 47 = some true ∧
  tyIntOrNone Try.prog 47 = false ∧
  tyIsStr Try.prog 47 = false ∧
  tySz Try.prog 52 = 1 ∧
  tyBytes Try.prog 52 = 8 ∧
  tyAgg Try.prog 52 = some false ∧
  tyIntOrNone Try.prog 52 = false ∧
  tyIsStr Try.prog 52 = false ∧
  tySz Try.prog 53 = 1 ∧
  tyBytes Try.prog 53 = 24 ∧
  tyAgg Try.prog 53 = some false ∧
  tyIntOrNone Try.prog 53 = false ∧
  tyIsStr Try.prog 53 = false ∧
  tyElem Try.prog 53 = some 70 ∧
  tySz Try.prog 55 = 4 ∧
  tyBytes Try.prog 55 = 80 ∧
  tyAgg Try.prog 55 = some true ∧
  tyIntOrNone Try.prog 55 = false ∧
  tyIsStr Try.prog 55 = false ∧
  tySz Try.prog 56 = 4 ∧
  tyBytes Try.prog 56 = 80 ∧
  tyAgg Try.prog 56 = some true ∧
  tyIntOrNone Try.prog 56 = false ∧
  tyIsStr Try.prog 56 = false :=
  ⟨by kernel_rfl, by kernel_rfl, by kernel_rfl, by kernel_rfl, by kernel_rfl, by kernel_rfl, by kernel_rfl, by kernel_rfl, by kernel_rfl, by kernel_rfl, by kernel_rfl, by kernel_rfl, by kernel_rfl, by kernel_rfl, by kernel_rfl, by kernel_rfl, by kernel_rfl, by kernel_rfl, by kernel_rfl, by kernel_rfl, by kernel_rfl, by kernel_rfl, by kernel_rfl, by kernel_rfl, by kernel_rfl, by kernel_rfl, by kernel_rfl, by kernel_rfl, by kernel_rfl, by kernel_rfl, by kernel_rfl, by kernel_rfl, by kernel_rfl, by kernel_rfl, by kernel_rfl, by kernel_rfl, by kernel_rfl, by kernel_rfl, by kernel_rfl, by kernel_rfl, by kernel_rfl, by kernel_rfl, by kernel_rfl, by kernel_rfl, by kernel_rfl, by kernel_rfl, by kernel_rfl, by kernel_rfl, by kernel_rfl, by kernel_rfl, by kernel_rfl, by kernel_rfl, by kernel_rfl, by kernel_rfl, by kernel_rfl, by kernel_rfl, by kernel_rfl, by kernel_rfl, by kernel_rfl, by kernel_rfl⟩
theorem tyA2 : tySz Try.prog 58 = 1 ∧
  tyBytes Try.prog 58 = 8 ∧
  tyAgg Try.prog 58 = some false ∧
  tyIntOrNone Try.prog 58 = false ∧
  tyIsStr Try.prog 58 = false ∧
  tySz Try.prog 59 = 4 ∧
  tyBytes Try.prog 59 = 80 ∧
  tyAgg Try.prog 59 = some true ∧
  tyIntOrNone Try.prog 59 = false ∧
  tyIsStr Try.prog 59 = false ∧
  tySz Try.prog 60 = 4 ∧
  tyBytes Try.prog 60 = 80 ∧
  tyAgg Try.prog 60 = some true ∧
  tyIntOrNone Try.prog 60 = false ∧
  tyIsStr Try.prog 60 = false ∧
  tySz Try.prog 64 = 1 ∧
  tyBytes Try.prog 64 = 24 ∧
  tyAgg Try.prog 64 = some false ∧
  tyIntOrNone Try.prog 64 = false ∧
  tyIsStr Try.prog 64 = false ∧
  tyElem Try.prog 64 = some 81 ∧
  tySz Try.prog 69 = 3 ∧
  tyBytes Try.prog 69 = 16 ∧
  tyAgg Try.prog 69 = some true ∧
  tyIntOrNone Try.prog 69 = false ∧
  tyIsStr Try.prog 69 = false ∧
  tySz Try.prog 70 = 3 ∧
  tyBytes Try.prog 70 = 16 ∧
  tyAgg Try.prog 70 = some true ∧
  tyIntOrNone Try.prog 70 = false ∧
  tyIsStr Try.prog 70 = false ∧
  tySz Try.prog 80 = 2 ∧
  tyBytes Try.prog 80 = 16 ∧
  tyAgg Try.prog 80 = some true ∧
  tyIntOrNone Try.prog 80 = false ∧
  tyIsStr Try.prog 80 = false ∧
  tySz Try.prog 81 = 2 ∧
  tyBytes Try.prog 81 = 16 ∧
  tyAgg Try.prog 81 = some true ∧
  tyIntOrNone Try.prog 81 = false ∧
  tyIsStr Try.prog 81 = false ∧
  tySz Try.prog 88 = 1 ∧
  tyBytes Try.prog 88 = 24 ∧
  tyAgg Try.prog 88 = some false ∧
  tyIntOrNone Try.prog 88 = false ∧
  tyIsStr Try.prog 88 = false ∧
  tyElem Try.prog 88 = some 9 ∧
  tySz Try.prog 100 = 1 ∧
  tyBytes Try.prog 100 = 8 ∧
  tyAgg Try.prog 100 = some false ∧
  tyIntOrNone Try.prog 100 = true ∧
  tyIsStr Try.prog 100 = false ∧
  tyInt Try.prog 100 = some .u64 ∧
  tySz Try.prog 126 = 1 ∧
  tyBytes Try.prog 126 = 4 ∧
  tyAgg Try.prog 126 = some false ∧
  tyIntOrNone Try.prog 126 = true ∧
  tyIsStr Try.prog 126 = false ∧
  tyInt Try.prog 126 = some .u32 ∧
  tySz Try.prog 130 = 1 :=
  ⟨by kernel_rfl, by kernel_rfl, by kernel_rfl, by kernel_rfl, by kernel_rfl, by kernel_rfl, by kernel_rfl, by kernel_rfl, by kernel_rfl, by kernel_rfl, by kernel_rfl, by kernel_rfl, by kernel_rfl, by kernel_rfl, by kernel_rfl, by kernel_rfl, by kernel_rfl, by kernel_rfl, by kernel_rfl, by kernel_rfl, by kernel_rfl, by kernel_rfl, by kernel_rfl, by kernel_rfl, by kernel_rfl, by kernel_rfl, by kernel_rfl, by kernel_rfl, by kernel_rfl, by kernel_rfl, by kernel_rfl, by kernel_rfl, by kernel_rfl, by kernel_rfl, by kernel_rfl, by kernel_rfl, by kernel_rfl, by kernel_rfl, by kernel_rfl, by kernel_rfl, by kernel_rfl, by kernel_rfl, by kernel_rfl, by kernel_rfl, by kernel_rfl, by kernel_rfl, by kernel_rfl, by kernel_rfl, by kernel_rfl, by kernel_rfl, by kernel_rfl, by kernel_rfl, by kernel_rfl, by kernel_rfl, by kernel_rfl, by kernel_rfl, by kernel_rfl, by kernel_rfl, by kernel_rfl, by kernel_rfl⟩
theorem tyA3 : tyBytes Try.prog 130 = 8 ∧
  tyAgg Try.prog 130 = some false ∧
  tyIntOrNone Try.prog 130 = false ∧
  tyIsStr Try.prog 130 = false ∧
  tySz Try.prog 135 = 1 ∧
  tyBytes Try.prog 135 = 8 ∧
  tyAgg Try.prog 135 = some false ∧
  tyIntOrNone Try.prog 135 = false ∧
  tyIsStr Try.prog 135 = false :=
  ⟨by kernel_rfl, by kernel_rfl, by kernel_rfl, by kernel_rfl, by kernel_rfl, by kernel_rfl, by kernel_rfl, by kernel_rfl, by kernel_rfl⟩
theorem tyU0 : Try.prog.underlying 2 = some (.int .i64) ∧
  Try.prog.underlying 3 = some (.int .i64) ∧
  Try.prog.underlying 4 = some (.bool) ∧
  Try.prog.underlying 5 = some (.int .u8) ∧
  Try.prog.underlying 9 = some (.string) ∧
  Try.prog.underlying 21 = some (.int .i32) ∧
  Try.prog.underlying 22 = some (.slice 44) ∧
  Try.prog.underlying 23 = some (.slice 47) ∧
  Try.prog.underlying 32 = some (.slice 5) ∧
  Try.prog.underlying 37 = some (.slice 39) ∧
  Try.prog.underlying 39 = some (.slice 3) ∧
  Try.prog.underlying 42 = some (.array 4 3) ∧
  Try.prog.underlying 52 = some (.pointer 56) ∧
  Try.prog.underlying 53 = some (.slice 70) ∧
  Try.prog.underlying 58 = some (.pointer 60) ∧
  Try.prog.underlying 64 = some (.slice 81) ∧
  Try.prog.underlying 88 = some (.slice 9) ∧
  Try.prog.underlying 100 = some (.int .u64) ∧
  Try.prog.underlying 126 = some (.int .u32) ∧
  Try.prog.underlying 130 = some (.pointer 5) ∧
  Try.prog.underlying 135 = some (.unsafePointer) :=
  ⟨by kernel_rfl, by kernel_rfl, by kernel_rfl, by kernel_rfl, by kernel_rfl, by kernel_rfl, by kernel_rfl, by kernel_rfl, by kernel_rfl, by kernel_rfl, by kernel_rfl, by kernel_rfl, by kernel_rfl, by kernel_rfl, by kernel_rfl, by kernel_rfl, by kernel_rfl, by kernel_rfl, by kernel_rfl, by kernel_rfl, by kernel_rfl⟩
theorem tyF0 : tyField Try.prog 40 0 = some (0, 4) ∧
  tyField Try.prog 40 1 = some (1, 9) ∧
  tyField Try.prog 40 2 = some (2, 9) ∧
  tyFields Try.prog 40 = some [(0, 1), (1, 1), (2, 1)] ∧
  tyField Try.prog 41 0 = some (0, 4) ∧
  tyField Try.prog 41 1 = some (1, 9) ∧
  tyField Try.prog 41 2 = some (2, 9) ∧
  tyFields Try.prog 41 = some [(0, 1), (1, 1), (2, 1)] ∧
  tyArr Try.prog 42 = some (4, 3) ∧
  tyFields Try.prog 42 = none ∧
  tyField Try.prog 43 0 = some (0, 3) ∧
  tyField Try.prog 43 1 = some (1, 9) ∧
  tyField Try.prog 43 2 = some (2, 9) ∧
  tyField Try.prog 43 3 = some (3, 41) ∧
  tyField Try.prog 43 4 = some (6, 4) ∧
  tyField Try.prog 43 5 = some (7, 4) ∧
  tyField Try.prog 43 6 = some (8, 42) ∧
  tyField Try.prog 43 7 = some (12, 3) ∧
  tyFields Try.prog 43 = some [(0, 1), (1, 1), (2, 1), (3, 3), (6, 1), (7, 1), (8, 4), (12, 1)] ∧
  tyField Try.prog 44 0 = some (0, 3) ∧
  tyField Try.prog 44 1 = some (1, 9) ∧
  tyField Try.prog 44 2 = some (2, 9) ∧
  tyField Try.prog 44 3 = some (3, 41) ∧
  tyField Try.prog 44 4 = some (6, 4) ∧
  tyField Try.prog 44 5 = some (7, 4) ∧
  tyField Try.prog 44 6 = some (8, 42) ∧
  tyField Try.prog 44 7 = some (12, 3) ∧
  tyFields Try.prog 44 = some [(0, 1), (1, 1), (2, 1), (3, 3), (6, 1), (7, 1), (8, 4), (12, 1)] ∧
  tyField Try.prog 46 0 = some (0, 3) ∧
  tyField Try.prog 46 1 = some (1, 22) ∧
  tyField Try.prog 46 2 = some (2, 22) ∧
  tyField Try.prog 46 3 = some (3, 23) ∧
  tyField Try.prog 46 4 = some (4, 4) ∧
  tyField Try.prog 46 5 = some (5, 4) ∧
  tyField Try.prog 46 6 = some (6, 4) ∧
  tyField Try.prog 46 7 = some (7, 3) ∧
  tyField Try.prog 46 8 = some (8, 3) ∧
  tyFields Try.prog 46 = some [(0, 1), (1, 1), (2, 1), (3, 1), (4, 1), (5, 1), (6, 1), (7, 1), (8, 1)] ∧
  tyField Try.prog 47 0 = some (0, 3) ∧
  tyField Try.prog 47 1 = some (1, 22) ∧
  tyField Try.prog 47 2 = some (2, 22) ∧
  tyField Try.prog 47 3 = some (3, 23) ∧
  tyField Try.prog 47 4 = some (4, 4) ∧
  tyField Try.prog 47 5 = some (5, 4) ∧
  tyField Try.prog 47 6 = some (6, 4) ∧
  tyField Try.prog 47 7 = some (7, 3) ∧
  tyField Try.prog 47 8 = some (8, 3) ∧
  tyFields Try.prog 47 = some [(0, 1), (1, 1), (2, 1), (3, 1), (4, 1), (5, 1), (6, 1), (7, 1), (8, 1)] ∧
  tyField Try.prog 55 0 = some (0, 22) ∧
  tyField Try.prog 55 1 = some (1, 53) ∧
  tyField Try.prog 55 2 = some (2, 39) ∧
  tyField Try.prog 55 3 = some (3, 3) ∧
  tyFields Try.prog 55 = some [(0, 1), (1, 1), (2, 1), (3, 1)] ∧
  tyField Try.prog 56 0 = some (0, 22) ∧
  tyField Try.prog 56 1 = some (1, 53) ∧
  tyField Try.prog 56 2 = some (2, 39) ∧
  tyField Try.prog 56 3 = some (3, 3) ∧
  tyFields Try.prog 56 = some [(0, 1), (1, 1), (2, 1), (3, 1)] ∧
  tyField Try.prog 59 0 = some (0, 22) ∧
  tyField Try.prog 59 1 = some (1, 37) :=
  ⟨by kernel_rfl, by kernel_rfl, by kernel_rfl, by kernel_rfl, by kernel_rfl, by kernel_rfl, by kernel_rfl, by kernel_rfl, by kernel_rfl, by kernel_rfl, by kernel_rfl, by kernel_rfl, by kernel_rfl, by kernel_rfl, by kernel_rfl, by kernel_rfl, by kernel_rfl, by kernel_rfl, by kernel_rfl, by kernel_rfl, by kernel_rfl, by kernel_rfl, by kernel_rfl, by kernel_rfl, by kernel_rfl, by kernel_rfl, by kernel_rfl, by kernel_rfl, by kernel_rfl, by kernel_rfl, by kernel_rfl, by kernel_rfl, by kernel_rfl, by kernel_rfl, by kernel_rfl, by kernel_rfl, by kernel_rfl, by kernel_rfl, by kernel_rfl, by kernel_rfl, by kernel_rfl, by kernel_rfl, by kernel_rfl, by kernel_rfl, by kernel_rfl, by kernel_rfl, by kernel_rfl, by kernel_rfl, by kernel_rfl, by kernel_rfl, by kernel_rfl, by kernel_rfl, by kernel_rfl, by kernel_rfl, by kernel_rfl, by kernel_rfl, by kernel_rfl, by kernel_rfl, by kernel_rfl, by kernel_rfl⟩
theorem tyF1 : tyField Try.prog 59 2 = some (2, 39) ∧
  tyField Try.prog 59 3 = some (3, 3) ∧
  tyFields Try.prog 59 = some [(0, 1), (1, 1), (2, 1), (3, 1)] ∧
  tyField Try.prog 60 0 = some (0, 22) ∧
  tyField Try.prog 60 1 = some (1, 37) ∧
  tyField Try.prog 60 2 = some (2, 39) ∧
  tyField Try.prog 60 3 = some (3, 3) ∧
  tyFields Try.prog 60 = some [(0, 1), (1, 1), (2, 1), (3, 1)] ∧
  tyField Try.prog 69 0 = some (0, 3) ∧
  tyField Try.prog 69 1 = some (1, 4) ∧
  tyField Try.prog 69 2 = some (2, 4) ∧
  tyFields Try.prog 69 = some [(0, 1), (1, 1), (2, 1)] ∧
  tyField Try.prog 70 0 = some (0, 3) ∧
  tyField Try.prog 70 1 = some (1, 4) ∧
  tyField Try.prog 70 2 = some (2, 4) ∧
  tyFields Try.prog 70 = some [(0, 1), (1, 1), (2, 1)] ∧
  tyField Try.prog 80 0 = some (0, 3) ∧
  tyField Try.prog 80 1 = some (1, 3) ∧
  tyFields Try.prog 80 = some [(0, 1), (1, 1)] ∧
  tyField Try.prog 81 0 = some (0, 3) ∧
  tyField Try.prog 81 1 = some (1, 3) ∧
  tyFields Try.prog 81 = some [(0, 1), (1, 1)] :=
  ⟨by kernel_rfl, by kernel_rfl, by kernel_rfl, by kernel_rfl, by kernel_rfl, by kernel_rfl, by kernel_rfl, by kernel_rfl, by kernel_rfl, by kernel_rfl, by kernel_rfl, by kernel_rfl, by kernel_rfl, by kernel_rfl, by kernel_rfl, by kernel_rfl, by kernel_rfl, by kernel_rfl, by kernel_rfl, by kernel_rfl, by kernel_rfl, by kernel_rfl⟩
theorem tyZ0 : yzero Try.prog 2 = some [.int .i64 0] ∧
  yzero Try.prog 3 = some [.int .i64 0] ∧
  yzero Try.prog 4 = some [.bool false] ∧
  yzero Try.prog 5 = some [.int .u8 0] ∧
  yzero Try.prog 9 = some [.string ⟨#[]⟩] ∧
  yzero Try.prog 21 = some [.int .i32 0] ∧
  yzero Try.prog 22 = some [.slice none 0 0] ∧
  yzero Try.prog 23 = some [.slice none 0 0] ∧
  yzero Try.prog 32 = some [.slice none 0 0] ∧
  yzero Try.prog 37 = some [.slice none 0 0] ∧
  yzero Try.prog 39 = some [.slice none 0 0] ∧
  yzero Try.prog 40 = some [.bool false, .string ⟨#[]⟩, .string ⟨#[]⟩] ∧
  yzero Try.prog 41 = some [.bool false, .string ⟨#[]⟩, .string ⟨#[]⟩] ∧
  yzero Try.prog 42 = some [.int .i64 0, .int .i64 0, .int .i64 0, .int .i64 0] ∧
  yzero Try.prog 43 = some [.int .i64 0, .string ⟨#[]⟩, .string ⟨#[]⟩, .bool false, .string ⟨#[]⟩, .string ⟨#[]⟩, .bool false, .bool false, .int .i64 0, .int .i64 0, .int .i64 0, .int .i64 0, .int .i64 0] ∧
  yzero Try.prog 44 = some [.int .i64 0, .string ⟨#[]⟩, .string ⟨#[]⟩, .bool false, .string ⟨#[]⟩, .string ⟨#[]⟩, .bool false, .bool false, .int .i64 0, .int .i64 0, .int .i64 0, .int .i64 0, .int .i64 0] ∧
  yzero Try.prog 46 = some [.int .i64 0, .slice none 0 0, .slice none 0 0, .slice none 0 0, .bool false, .bool false, .bool false, .int .i64 0, .int .i64 0] ∧
  yzero Try.prog 47 = some [.int .i64 0, .slice none 0 0, .slice none 0 0, .slice none 0 0, .bool false, .bool false, .bool false, .int .i64 0, .int .i64 0] ∧
  yzero Try.prog 52 = some [.pointer none] ∧
  yzero Try.prog 53 = some [.slice none 0 0] ∧
  yzero Try.prog 55 = some [.slice none 0 0, .slice none 0 0, .slice none 0 0, .int .i64 0] ∧
  yzero Try.prog 56 = some [.slice none 0 0, .slice none 0 0, .slice none 0 0, .int .i64 0] ∧
  yzero Try.prog 58 = some [.pointer none] ∧
  yzero Try.prog 59 = some [.slice none 0 0, .slice none 0 0, .slice none 0 0, .int .i64 0] ∧
  yzero Try.prog 60 = some [.slice none 0 0, .slice none 0 0, .slice none 0 0, .int .i64 0] ∧
  yzero Try.prog 64 = some [.slice none 0 0] ∧
  yzero Try.prog 69 = some [.int .i64 0, .bool false, .bool false] ∧
  yzero Try.prog 70 = some [.int .i64 0, .bool false, .bool false] ∧
  yzero Try.prog 80 = some [.int .i64 0, .int .i64 0] ∧
  yzero Try.prog 81 = some [.int .i64 0, .int .i64 0] ∧
  yzero Try.prog 88 = some [.slice none 0 0] ∧
  yzero Try.prog 100 = some [.int .u64 0] ∧
  yzero Try.prog 126 = some [.int .u32 0] ∧
  yzero Try.prog 130 = some [.pointer none] ∧
  yzero Try.prog 135 = some [.pointer none] :=
  ⟨by kernel_rfl, by kernel_rfl, by kernel_rfl, by kernel_rfl, by kernel_rfl, by kernel_rfl, by kernel_rfl, by kernel_rfl, by kernel_rfl, by kernel_rfl, by kernel_rfl, by kernel_rfl, by kernel_rfl, by kernel_rfl, by kernel_rfl, by kernel_rfl, by kernel_rfl, by kernel_rfl, by kernel_rfl, by kernel_rfl, by kernel_rfl, by kernel_rfl, by kernel_rfl, by kernel_rfl, by kernel_rfl, by kernel_rfl, by kernel_rfl, by kernel_rfl, by kernel_rfl, by kernel_rfl, by kernel_rfl, by kernel_rfl, by kernel_rfl, by kernel_rfl, by kernel_rfl⟩
end Go.Vx.Seat
end
section
open Go Go.Vx Go.Proofs
namespace Go.Vx.Seat
abbrev Tp : YV := .c .top
theorem C1_P : C1.P = Try.prog := rfl
theorem yP : type_of% (And.intro (And.intro (And.intro (And.intro (@Rw_skip) (And.intro (@Rw_ret) (@Rw_exit))) (And.intro (@Rw_seq) (And.intro (@Rw_block) (@Rw_cond)))) (And.intro (And.intro (@Rw_region) (And.intro (@Rw_drawn) (@Rw_loop))) (And.intro (@Rc_true) (And.intro (@Rc_false) (@kf_nil))))) (And.intro (And.intro (And.intro (@kf_seq) (And.intro (@kf_seq_exit) (@kf_seq_ret))) (And.intro (@kf_blk) (And.intro (@kf_blk_ret) (@kf_blk_self)))) (And.intro (And.intro (@kf_blk_exit) (And.intro (@ythen_next) (@ythen_ret))) (And.intro (@ythen_exit) (And.intro (@gsOf_nil) (@gsOf_cons)))))) := And.intro (And.intro (And.intro (And.intro (@Rw_skip) (And.intro (@Rw_ret) (@Rw_exit))) (And.intro (@Rw_seq) (And.intro (@Rw_block) (@Rw_cond)))) (And.intro (And.intro (@Rw_region) (And.intro (@Rw_drawn) (@Rw_loop))) (And.intro (@Rc_true) (And.intro (@Rc_false) (@kf_nil))))) (And.intro (And.intro (And.intro (@kf_seq) (And.intro (@kf_seq_exit) (@kf_seq_ret))) (And.intro (@kf_blk) (And.intro (@kf_blk_ret) (@kf_blk_self)))) (And.intro (And.intro (@kf_blk_exit) (And.intro (@ythen_next) (@ythen_ret))) (And.intro (@ythen_exit) (And.intro (@gsOf_nil) (@gsOf_cons)))))
theorem yT : type_of% (And.intro (And.intro (And.intro (And.intro (And.intro (And.intro (And.intro (And.intro (@Rg_nil) (@Rg_none)) (And.intro (@Rg_some) (@Rt_nil))) (And.intro (And.intro (@Rt_none) (@Rt_some)) (And.intro (@mk_eq) (And.intro (@Rc_true) (@Rc_false))))) (And.intro (And.intro (And.intro (@Ri_true) (@Ri_false)) (And.intro (@Ro_val) (@Ro_call))) (And.intro (And.intro (@Rti_true) (@Rti_false)) (And.intro (@Rtf_true) (And.intro (@Rtk_some) (@Rto_val)))))) (And.intro (And.intro (And.intro (And.intro (@Rto_call) (@yput_some)) (And.intro (@yput_none) (@yv_tmp))) (And.intro (And.intro (@yv_const) (@yv_func)) (And.intro (@ofc_int) (And.intro (@ofc_bool) (@ofc_str))))) (And.intro (And.intro (And.intro (@ofc_nil) (@ofc_np)) (And.intro (@ydry_int) (And.intro (@ydry_bool) (@ydry_str)))) (And.intro (And.intro (@ydry_nil) (@yRes_some)) (And.intro (@yNew_eq) (And.intro (@ygd_some) (@ygb_bool))))))) (And.intro (And.intro (And.intro (And.intro (And.intro (@ygb_skip) (@nth_zero)) (And.intro (@nth_succ) (@nthD_zero))) (And.intro (And.intro (@nthD_succ) (@List.set_cons_zero.{0})) (And.intro (@List.set_cons_succ.{0}) (And.intro (@List.map_cons.{0, 0}) (@List.map_nil.{0, 0}))))) (And.intro (And.intro (And.intro (@List.length_cons.{0}) (@List.length_nil.{0})) (And.intro (@List.cons_append.{0}) (@List.nil_append.{0}))) (And.intro (And.intro (@List.append_nil.{0}) (@Nat.zero_add)) (And.intro (@Nat.add_zero) (And.intro (@List.drop_zero.{0}) (@List.drop_succ_cons.{0})))))) (And.intro (And.intro (And.intro (And.intro (@List.take_succ_cons.{0}) (@List.take_zero.{0})) (And.intro (@bb_tt) (@bb_tf))) (And.intro (And.intro (@bb_ft) (@bb_ff)) (And.intro (@Bool.not_true) (And.intro (@Bool.not_false) (@if_true.{1}))))) (And.intro (And.intro (And.intro (@if_false.{1}) (@Bool.false_eq_true)) (And.intro (@yPick_true) (And.intro (@yPick_false) (@List.isEmpty_nil.{0})))) (And.intro (And.intro (@Bool.and_self) (@C1_P)) (And.intro (@tyA0) (And.intro (@tyA1) (@tyA2)))))))) (And.intro (And.intro (And.intro (And.intro (And.intro (And.intro (@tyA3) (@tyU0)) (And.intro (@tyF0) (@tyF1))) (And.intro (And.intro (@tyZ0) (@yres1)) (And.intro (@ynt_p) (And.intro (@yone_one) (@Option.some.injEq.{0}))))) (And.intro (And.intro (And.intro (@exists_eq_left'.{1}) (@Bool.or_false)) (And.intro (@Bool.or_true) (@true_and))) (And.intro (And.intro (@and_true) (@ne_eq.{1})) (And.intro (@not_false_eq_true) (And.intro (@and_self) (@Nat.one_ne_zero)))))) (And.intro (And.intro (And.intro (And.intro (@ret_ok) (@or_true)) (And.intro (@false_or) (@ychk.eq_1))) (And.intro (And.intro (@ychk.eq_2) (@ychk.eq_3)) (And.intro (@ychk.eq_4) (And.intro (@ychk.eq_5) (@yskip.eq_1))))) (And.intro (And.intro (And.intro (@yskip.eq_2) (@yskip.eq_3)) (And.intro (@yskip.eq_5) (And.intro (@yidle.eq_1) (@yidle.eq_2)))) (And.intro (And.intro (@Nat.le_refl) (@List.length_map.{0, 0})) (And.intro (@take_map_len) (And.intro (@imp_self) (@implies_true.{1}))))))) (And.intro (And.intro (And.intro (And.intro (And.intro (@implies_true.{0}) (@not_true_eq_false)) (And.intro (@List.replicate_succ.{0}) (@List.replicate_zero.{0}))) (And.intro (And.intro (@Nat.zero_le) (@Nat.zero_lt_succ)) (And.intro (@List.contains_cons.{0}) (And.intro (@List.contains_nil.{0}) (@Bool.false_or))))) (And.intro (And.intro (And.intro (@Bool.true_or) (@List.any_cons.{0})) (And.intro (@List.any_nil.{0}) (@Option.isNone_some.{0}))) (And.intro (And.intro (@Option.isNone_none.{0}) (@ynt_own)) (And.intro (@ynt_agg) (And.intro (@renV.eq_1) (@renV.eq_2)))))) (And.intro (And.intro (And.intro (And.intro (@renV.eq_3) (@renC.eq_1)) (And.intro (@renC.eq_2) (@renC.eq_3))) (And.intro (And.intro (@renC.eq_4) (@renC.eq_5)) (And.intro (@slotIx_nil) (And.intro (@slotIx_cons) (@take_map_snoc))))) (And.intro (And.intro (And.intro (@snoc_len) (@Option.map_some.{0, 0})) (And.intro (@Option.map_none.{0, 0}) (And.intro (@Int.toNat_natCast) (@Int.toNat_zero)))) (And.intro (And.intro (@Nat.sub_zero) (@Int.le_refl)) (And.intro (@nn) (And.intro (@yone_two) (@List.set_set.{0}))))))))) (And.intro (And.intro (And.intro (And.intro (And.intro (And.intro (And.intro (@List.length_set.{0}) (@List.getElem?_cons_zero.{0})) (And.intro (@List.getElem?_cons_succ.{0}) (@yresults.eq_2))) (And.intro (And.intro (@yresults.eq_1) (@yresult.eq_1)) (And.intro (@yresult.eq_2) (And.intro (@yop.eq_1) (@yop.eq_2))))) (And.intro (And.intro (And.intro (@yop.eq_3) (@yop.eq_4)) (And.intro (@yop.eq_5) (@yop.eq_6))) (And.intro (And.intro (@yop.eq_7) (@yop.eq_8)) (And.intro (@yop.eq_9) (And.intro (@yop.eq_10) (@yop.eq_11)))))) (And.intro (And.intro (And.intro (And.intro (@yop.eq_12) (@yop.eq_13)) (And.intro (@yop.eq_14) (@yop.eq_15))) (And.intro (And.intro (@yop.eq_16) (@yop.eq_17)) (And.intro (@yop.eq_18) (And.intro (@yop.eq_19) (@yop.eq_20))))) (And.intro (And.intro (And.intro (@yop.eq_21) (@yop.eq_22)) (And.intro (@yop.eq_23) (And.intro (@yop.eq_24) (@yAlloc.eq_1)))) (And.intro (And.intro (@yBox.eq_1) (@ycl.eq_1)) (And.intro (@ycl.eq_2) (And.intro (@ycl.eq_3) (@ycl.eq_4))))))) (And.intro (And.intro (And.intro (And.intro (And.intro (@yLoad.eq_1) (@ycells.eq_1)) (And.intro (@ycells.eq_2) (@ycells.eq_3))) (And.intro (And.intro (@yNil.eq_1) (@yNil.eq_2)) (And.intro (@yNil.eq_3) (And.intro (@yBin.eq_1) (@yUn.eq_1))))) (And.intro (And.intro (And.intro (@dvA.eq_1) (@dvA.eq_2)) (And.intro (@dvA.eq_3) (@dvs.eq_1))) (And.intro (And.intro (@dvs.eq_2) (@dvs.eq_3)) (And.intro (@dv.eq_1) (And.intro (@dv.eq_2) (@yFieldAddr.eq_1)))))) (And.intro (And.intro (And.intro (And.intro (@yField.eq_1) (@yField.eq_2)) (And.intro (@yPart.eq_1) (@yIndexAddr.eq_1))) (And.intro (And.intro (@yIndex.eq_1) (@yExtract.eq_1)) (And.intro (@yExtract.eq_2) (And.intro (@yLen.eq_1) (@yLen.eq_2))))) (And.intro (And.intro (And.intro (@yLen.eq_3) (@yLen.eq_4)) (And.intro (@yCall.eq_1) (And.intro (@xbin.eq_1) (@xbin.eq_2)))) (And.intro (And.intro (@xbin.eq_3) (@xbin.eq_4)) (And.intro (@xbin.eq_5) (And.intro (@xbin.eq_6) (@xbin.eq_7)))))))) (And.intro (And.intro (And.intro (And.intro (And.intro (And.intro (@xbin.eq_8) (@xbin.eq_9)) (And.intro (@xbinI.eq_1) (@xbinI.eq_2))) (And.intro (And.intro (@xbinI.eq_3) (@xint.eq_1)) (And.intro (@xint.eq_2) (And.intro (@xint.eq_3) (@xint.eq_4))))) (And.intro (And.intro (And.intro (@xint.eq_5) (@xint.eq_6)) (And.intro (@xint.eq_7) (@xint.eq_8))) (And.intro (And.intro (@xint.eq_9) (@xint.eq_10)) (And.intro (@xint.eq_11) (And.intro (@xint.eq_12) (@xint.eq_13)))))) (And.intro (And.intro (And.intro (And.intro (@xint.eq_14) (@xint.eq_15)) (And.intro (@xun.eq_1) (@xun.eq_2))) (And.intro (And.intro (@xun.eq_3) (@xbinB.eq_1)) (And.intro (@xbinB.eq_2) (And.intro (@xbinB.eq_3) (@yguard.eq_1))))) (And.intro (And.intro (And.intro (@yStore.eq_1) (@yStore.eq_2)) (And.intro (@ySlice.eq_1) (And.intro (@ySlice.eq_2) (@ySlice.eq_3)))) (And.intro (And.intro (@ySlice.eq_4) (@yAppend.eq_1)) (And.intro (@yBuild.eq_1) (And.intro (@yfill.eq_1) (@yfill.eq_2))))))) (And.intro (And.intro (And.intro (And.intro (And.intro (@yels.eq_1) (@yels.eq_2)) (And.intro (@ypc.eq_1) (@ypc.eq_2))) (And.intro (And.intro (@ypc.eq_3) (@pcs.eq_1)) (And.intro (@pcs.eq_2) (And.intro (@pcs.eq_3) (@gsplice.eq_1))))) (And.intro (And.intro (And.intro (@gsplice.eq_1) (@ySource.eq_1)) (And.intro (@ySource.eq_2) (@ySource.eq_3))) (And.intro (And.intro (@yrow.eq_1) (@yrow.eq_2)) (And.intro (@yrow.eq_3) (And.intro (@yMake.eq_1) (@yBuildSlice.eq_1)))))) (And.intro (And.intro (And.intro (And.intro (@yConvert.eq_1) (@low.eq_1)) (And.intro (@low.eq_2) (@low.eq_3))) (And.intro (And.intro (@yfzC.eq_1) (@yfzC.eq_2)) (And.intro (@yfzC.eq_3) (And.intro (@yfzL.eq_1) (@yfzL.eq_2))))) (And.intro (And.intro (And.intro (@yfzV.eq_1) (@yfzV.eq_2)) (And.intro (@yfzV.eq_3) (And.intro (@yfzP.eq_1) (@yfzP.eq_2)))) (And.intro (And.intro (@yBuildRow.eq_1) (@yBuildRow.eq_2)) (And.intro (@yfrz.eq_1) (And.intro (@yfrz.eq_2) (@pds.eq_1)))))))))) := And.intro (And.intro (And.intro (And.intro (And.intro (And.intro (And.intro (And.intro (@Rg_nil) (@Rg_none)) (And.intro (@Rg_some) (@Rt_nil))) (And.intro (And.intro (@Rt_none) (@Rt_some)) (And.intro (@mk_eq) (And.intro (@Rc_true) (@Rc_false))))) (And.intro (And.intro (And.intro (@Ri_true) (@Ri_false)) (And.intro (@Ro_val) (@Ro_call))) (And.intro (And.intro (@Rti_true) (@Rti_false)) (And.intro (@Rtf_true) (And.intro (@Rtk_some) (@Rto_val)))))) (And.intro (And.intro (And.intro (And.intro (@Rto_call) (@yput_some)) (And.intro (@yput_none) (@yv_tmp))) (And.intro (And.intro (@yv_const) (@yv_func)) (And.intro (@ofc_int) (And.intro (@ofc_bool) (@ofc_str))))) (And.intro (And.intro (And.intro (@ofc_nil) (@ofc_np)) (And.intro (@ydry_int) (And.intro (@ydry_bool) (@ydry_str)))) (And.intro (And.intro (@ydry_nil) (@yRes_some)) (And.intro (@yNew_eq) (And.intro (@ygd_some) (@ygb_bool))))))) (And.intro (And.intro (And.intro (And.intro (And.intro (@ygb_skip) (@nth_zero)) (And.intro (@nth_succ) (@nthD_zero))) (And.intro (And.intro (@nthD_succ) (@List.set_cons_zero.{0})) (And.intro (@List.set_cons_succ.{0}) (And.intro (@List.map_cons.{0, 0}) (@List.map_nil.{0, 0}))))) (And.intro (And.intro (And.intro (@List.length_cons.{0}) (@List.length_nil.{0})) (And.intro (@List.cons_append.{0}) (@List.nil_append.{0}))) (And.intro (And.intro (@List.append_nil.{0}) (@Nat.zero_add)) (And.intro (@Nat.add_zero) (And.intro (@List.drop_zero.{0}) (@List.drop_succ_cons.{0})))))) (And.intro (And.intro (And.intro (And.intro (@List.take_succ_cons.{0}) (@List.take_zero.{0})) (And.intro (@bb_tt) (@bb_tf))) (And.intro (And.intro (@bb_ft) (@bb_ff)) (And.intro (@Bool.not_true) (And.intro (@Bool.not_false) (@if_true.{1}))))) (And.intro (And.intro (And.intro (@if_false.{1}) (@Bool.false_eq_true)) (And.intro (@yPick_true) (And.intro (@yPick_false) (@List.isEmpty_nil.{0})))) (And.intro (And.intro (@Bool.and_self) (@C1_P)) (And.intro (@tyA0) (And.intro (@tyA1) (@tyA2)))))))) (And.intro (And.intro (And.intro (And.intro (And.intro (And.intro (@tyA3) (@tyU0)) (And.intro (@tyF0) (@tyF1))) (And.intro (And.intro (@tyZ0) (@yres1)) (And.intro (@ynt_p) (And.intro (@yone_one) (@Option.some.injEq.{0}))))) (And.intro (And.intro (And.intro (@exists_eq_left'.{1}) (@Bool.or_false)) (And.intro (@Bool.or_true) (@true_and))) (And.intro (And.intro (@and_true) (@ne_eq.{1})) (And.intro (@not_false_eq_true) (And.intro (@and_self) (@Nat.one_ne_zero)))))) (And.intro (And.intro (And.intro (And.intro (@ret_ok) (@or_true)) (And.intro (@false_or) (@ychk.eq_1))) (And.intro (And.intro (@ychk.eq_2) (@ychk.eq_3)) (And.intro (@ychk.eq_4) (And.intro (@ychk.eq_5) (@yskip.eq_1))))) (And.intro (And.intro (And.intro (@yskip.eq_2) (@yskip.eq_3)) (And.intro (@yskip.eq_5) (And.intro (@yidle.eq_1) (@yidle.eq_2)))) (And.intro (And.intro (@Nat.le_refl) (@List.length_map.{0, 0})) (And.intro (@take_map_len) (And.intro (@imp_self) (@implies_true.{1}))))))) (And.intro (And.intro (And.intro (And.intro (And.intro (@implies_true.{0}) (@not_true_eq_false)) (And.intro (@List.replicate_succ.{0}) (@List.replicate_zero.{0}))) (And.intro (And.intro (@Nat.zero_le) (@Nat.zero_lt_succ)) (And.intro (@List.contains_cons.{0}) (And.intro (@List.contains_nil.{0}) (@Bool.false_or))))) (And.intro (And.intro (And.intro (@Bool.true_or) (@List.any_cons.{0})) (And.intro (@List.any_nil.{0}) (@Option.isNone_some.{0}))) (And.intro (And.intro (@Option.isNone_none.{0}) (@ynt_own)) (And.intro (@ynt_agg) (And.intro (@renV.eq_1) (@renV.eq_2)))))) (And.intro (And.intro (And.intro (And.intro (@renV.eq_3) (@renC.eq_1)) (And.intro (@renC.eq_2) (@renC.eq_3))) (And.intro (And.intro (@renC.eq_4) (@renC.eq_5)) (And.intro (@slotIx_nil) (And.intro (@slotIx_cons) (@take_map_snoc))))) (And.intro (And.intro (And.intro (@snoc_len) (@Option.map_some.{0, 0})) (And.intro (@Option.map_none.{0, 0}) (And.intro (@Int.toNat_natCast) (@Int.toNat_zero)))) (And.intro (And.intro (@Nat.sub_zero) (@Int.le_refl)) (And.intro (@nn) (And.intro (@yone_two) (@List.set_set.{0}))))))))) (And.intro (And.intro (And.intro (And.intro (And.intro (And.intro (And.intro (@List.length_set.{0}) (@List.getElem?_cons_zero.{0})) (And.intro (@List.getElem?_cons_succ.{0}) (@yresults.eq_2))) (And.intro (And.intro (@yresults.eq_1) (@yresult.eq_1)) (And.intro (@yresult.eq_2) (And.intro (@yop.eq_1) (@yop.eq_2))))) (And.intro (And.intro (And.intro (@yop.eq_3) (@yop.eq_4)) (And.intro (@yop.eq_5) (@yop.eq_6))) (And.intro (And.intro (@yop.eq_7) (@yop.eq_8)) (And.intro (@yop.eq_9) (And.intro (@yop.eq_10) (@yop.eq_11)))))) (And.intro (And.intro (And.intro (And.intro (@yop.eq_12) (@yop.eq_13)) (And.intro (@yop.eq_14) (@yop.eq_15))) (And.intro (And.intro (@yop.eq_16) (@yop.eq_17)) (And.intro (@yop.eq_18) (And.intro (@yop.eq_19) (@yop.eq_20))))) (And.intro (And.intro (And.intro (@yop.eq_21) (@yop.eq_22)) (And.intro (@yop.eq_23) (And.intro (@yop.eq_24) (@yAlloc.eq_1)))) (And.intro (And.intro (@yBox.eq_1) (@ycl.eq_1)) (And.intro (@ycl.eq_2) (And.intro (@ycl.eq_3) (@ycl.eq_4))))))) (And.intro (And.intro (And.intro (And.intro (And.intro (@yLoad.eq_1) (@ycells.eq_1)) (And.intro (@ycells.eq_2) (@ycells.eq_3))) (And.intro (And.intro (@yNil.eq_1) (@yNil.eq_2)) (And.intro (@yNil.eq_3) (And.intro (@yBin.eq_1) (@yUn.eq_1))))) (And.intro (And.intro (And.intro (@dvA.eq_1) (@dvA.eq_2)) (And.intro (@dvA.eq_3) (@dvs.eq_1))) (And.intro (And.intro (@dvs.eq_2) (@dvs.eq_3)) (And.intro (@dv.eq_1) (And.intro (@dv.eq_2) (@yFieldAddr.eq_1)))))) (And.intro (And.intro (And.intro (And.intro (@yField.eq_1) (@yField.eq_2)) (And.intro (@yPart.eq_1) (@yIndexAddr.eq_1))) (And.intro (And.intro (@yIndex.eq_1) (@yExtract.eq_1)) (And.intro (@yExtract.eq_2) (And.intro (@yLen.eq_1) (@yLen.eq_2))))) (And.intro (And.intro (And.intro (@yLen.eq_3) (@yLen.eq_4)) (And.intro (@yCall.eq_1) (And.intro (@xbin.eq_1) (@xbin.eq_2)))) (And.intro (And.intro (@xbin.eq_3) (@xbin.eq_4)) (And.intro (@xbin.eq_5) (And.intro (@xbin.eq_6) (@xbin.eq_7)))))))) (And.intro (And.intro (And.intro (And.intro (And.intro (And.intro (@xbin.eq_8) (@xbin.eq_9)) (And.intro (@xbinI.eq_1) (@xbinI.eq_2))) (And.intro (And.intro (@xbinI.eq_3) (@xint.eq_1)) (And.intro (@xint.eq_2) (And.intro (@xint.eq_3) (@xint.eq_4))))) (And.intro (And.intro (And.intro (@xint.eq_5) (@xint.eq_6)) (And.intro (@xint.eq_7) (@xint.eq_8))) (And.intro (And.intro (@xint.eq_9) (@xint.eq_10)) (And.intro (@xint.eq_11) (And.intro (@xint.eq_12) (@xint.eq_13)))))) (And.intro (And.intro (And.intro (And.intro (@xint.eq_14) (@xint.eq_15)) (And.intro (@xun.eq_1) (@xun.eq_2))) (And.intro (And.intro (@xun.eq_3) (@xbinB.eq_1)) (And.intro (@xbinB.eq_2) (And.intro (@xbinB.eq_3) (@yguard.eq_1))))) (And.intro (And.intro (And.intro (@yStore.eq_1) (@yStore.eq_2)) (And.intro (@ySlice.eq_1) (And.intro (@ySlice.eq_2) (@ySlice.eq_3)))) (And.intro (And.intro (@ySlice.eq_4) (@yAppend.eq_1)) (And.intro (@yBuild.eq_1) (And.intro (@yfill.eq_1) (@yfill.eq_2))))))) (And.intro (And.intro (And.intro (And.intro (And.intro (@yels.eq_1) (@yels.eq_2)) (And.intro (@ypc.eq_1) (@ypc.eq_2))) (And.intro (And.intro (@ypc.eq_3) (@pcs.eq_1)) (And.intro (@pcs.eq_2) (And.intro (@pcs.eq_3) (@gsplice.eq_1))))) (And.intro (And.intro (And.intro (@gsplice.eq_1) (@ySource.eq_1)) (And.intro (@ySource.eq_2) (@ySource.eq_3))) (And.intro (And.intro (@yrow.eq_1) (@yrow.eq_2)) (And.intro (@yrow.eq_3) (And.intro (@yMake.eq_1) (@yBuildSlice.eq_1)))))) (And.intro (And.intro (And.intro (And.intro (@yConvert.eq_1) (@low.eq_1)) (And.intro (@low.eq_2) (@low.eq_3))) (And.intro (And.intro (@yfzC.eq_1) (@yfzC.eq_2)) (And.intro (@yfzC.eq_3) (And.intro (@yfzL.eq_1) (@yfzL.eq_2))))) (And.intro (And.intro (And.intro (@yfzV.eq_1) (@yfzV.eq_2)) (And.intro (@yfzV.eq_3) (And.intro (@yfzP.eq_1) (@yfzP.eq_2)))) (And.intro (And.intro (@yBuildRow.eq_1) (@yBuildRow.eq_2)) (And.intro (@yfrz.eq_1) (And.intro (@yfrz.eq_2) (@pds.eq_1)))))))))
theorem yE : type_of% (And.intro (And.intro (And.intro (And.intro (And.intro (@yren.eq_1) (@yren.eq_2)) (And.intro (@yren.eq_3) (And.intro (@yren.eq_4) (@renV.eq_1)))) (And.intro (And.intro (@renV.eq_2) (And.intro (@renV.eq_3) (@renC.eq_1))) (And.intro (@renC.eq_2) (And.intro (@renC.eq_3) (@renC.eq_4))))) (And.intro (And.intro (And.intro (@renC.eq_5) (@renE.eq_1)) (And.intro (@renE.eq_2) (And.intro (@renE.eq_3) (@renS.eq_1)))) (And.intro (And.intro (@renB.eq_1) (And.intro (@renB.eq_2) (@renB.eq_3))) (And.intro (@slotIx_nil) (And.intro (@slotIx_cons) (@nth_zero)))))) (And.intro (And.intro (And.intro (And.intro (@nth_succ) (@yrow.eq_1)) (And.intro (@yrow.eq_2) (And.intro (@if_true.{1}) (@if_false.{1})))) (And.intro (And.intro (@List.map_cons.{0, 0}) (And.intro (@List.map_nil.{0, 0}) (@Nat.zero_add))) (And.intro (@Nat.add_zero) (And.intro (@Nat.le_refl) (@and_self))))) (And.intro (And.intro (And.intro (@and_true) (And.intro (@true_and) (@List.drop_zero.{0}))) (And.intro (@take_map_len) (And.intro (@take_map_snoc) (@snoc_len)))) (And.intro (And.intro (@List.length_map.{0, 0}) (And.intro (@List.length_append.{0}) (@List.length_cons.{0}))) (And.intro (@List.length_nil.{0}) (And.intro (@Nat.one_ne_zero) (@List.set_set.{0}))))))) := And.intro (And.intro (And.intro (And.intro (And.intro (@yren.eq_1) (@yren.eq_2)) (And.intro (@yren.eq_3) (And.intro (@yren.eq_4) (@renV.eq_1)))) (And.intro (And.intro (@renV.eq_2) (And.intro (@renV.eq_3) (@renC.eq_1))) (And.intro (@renC.eq_2) (And.intro (@renC.eq_3) (@renC.eq_4))))) (And.intro (And.intro (And.intro (@renC.eq_5) (@renE.eq_1)) (And.intro (@renE.eq_2) (And.intro (@renE.eq_3) (@renS.eq_1)))) (And.intro (And.intro (@renB.eq_1) (And.intro (@renB.eq_2) (@renB.eq_3))) (And.intro (@slotIx_nil) (And.intro (@slotIx_cons) (@nth_zero)))))) (And.intro (And.intro (And.intro (And.intro (@nth_succ) (@yrow.eq_1)) (And.intro (@yrow.eq_2) (And.intro (@if_true.{1}) (@if_false.{1})))) (And.intro (And.intro (@List.map_cons.{0, 0}) (And.intro (@List.map_nil.{0, 0}) (@Nat.zero_add))) (And.intro (@Nat.add_zero) (And.intro (@Nat.le_refl) (@and_self))))) (And.intro (And.intro (And.intro (@and_true) (And.intro (@true_and) (@List.drop_zero.{0}))) (And.intro (@take_map_len) (And.intro (@take_map_snoc) (@snoc_len)))) (And.intro (And.intro (@List.length_map.{0, 0}) (And.intro (@List.length_append.{0}) (@List.length_cons.{0}))) (And.intro (@List.length_nil.{0}) (And.intro (@Nat.one_ne_zero) (@List.set_set.{0}))))))
end Go.Vx.Seat
end
section
open Go Go.Vx Go.Proofs
set_option maxRecDepth 10000
set_option maxHeartbeats 4000000
namespace Go.Vx.Seat
attribute [local irreducible] Rg Rt Ro Ri Rc Rto Rtk Rtf Rti Rw Rl Rd Rcall Rtcall kf
theorem fn34 : nth C1.P.funcs.toList 34 = some Try.f34 := by kernel_rfl
theorem fn39 : nth C1.P.funcs.toList 39 = some Try.f39 := by kernel_rfl
theorem fn37 : nth C1.P.funcs.toList 37 = some Try.f37 := by kernel_rfl
theorem fn40 : nth C1.P.funcs.toList 40 = some Try.f40 := by kernel_rfl
theorem fn41 : nth C1.P.funcs.toList 41 = some Try.f41 := by kernel_rfl
theorem fn57 : nth C1.P.funcs.toList 57 = some Try.f57 := by kernel_rfl
theorem fn35 : nth C1.P.funcs.toList 35 = some Try.f35 := by kernel_rfl
theorem fn36 : nth C1.P.funcs.toList 36 = some Try.f36 := by kernel_rfl
theorem eqI_true (n : Int) : eqI n n = true := by rw [eqI_eq]; simp
theorem eqI_false {a b : Int} (h : a ≠ b) : eqI a b = false := by rw [eqI_eq]; simp [h]
theorem leI_true {a b : Int} (h : a ≤ b) : leI a b = true := by rw [leI_eq]; simp [h]
theorem leI_false {a b : Int} (h : ¬ a ≤ b) : leI a b = false := by rw [leI_eq]; simp [h]
theorem wrap_nat {i : Nat} (h : i < 9000000000000000000) : wrapK .i64 ((i : Nat) : Int) = (i : Nat) := by rw [wrapK_eq, IntKind.wrap_i64]; omega
theorem wrap_succ {i : Nat} (h : i < 9000000000000000000) : wrapK .i64 (((i : Nat) : Int) + 1) = ((i + 1 : Nat) : Int) := by rw [wrapK_eq, IntKind.wrap_i64]; omega
theorem wrap_int {x : Int} (h1 : -9000000000000000000 ≤ x) (h2 : x ≤ 9000000000000000000) : wrapK .i64 x = x := by rw [wrapK_eq, IntKind.wrap_i64]; omega
theorem wrap_pred {i : Nat} (h0 : 0 < i) (h : i < 9000000000000000000) : wrapK .i64 (((i : Nat) : Int) - 1) = ((i - 1 : Nat) : Int) := by rw [wrapK_eq, IntKind.wrap_i64]; omega
def ei (n : Int) : List PC := [.d (.int .i64 n)]
abbrev rI (l : List Int) : PC := .row 1 (l.map ei)
def e2 (l : List Int) : List PC := [rI l]
abbrev rII (l : List (List Int)) : PC := .row 1 (l.map e2)
structure Tok where
  kind : Int
  text : ByteArray
  unit : ByteArray
  neg : Bool
  digits : ByteArray
  exp : ByteArray
  flag : Bool
  sign : Bool
  c0 : Int
  c1 : Int
  c2 : Int
  c3 : Int
  start : Int
def Tok.pc (t : Tok) : List PC :=
  [.d (.int .i64 t.kind), .d (.string t.text), .d (.string t.unit), .d (.bool t.neg), .d (.string t.digits), .d (.string t.exp), .d (.bool t.flag), .d (.bool t.sign), .d (.int .i64 t.c0), .d (.int .i64 t.c1), .d (.int .i64 t.c2), .d (.int .i64 t.c3), .d (.int .i64 t.start)]
def Tok.cs (t : Tok) : List Ce := t.pc.map .p
abbrev Tok.yv (t : Tok) : YV := .agg t.cs
abbrev rT (l : List Tok) : PC := .row 13 (l.map Tok.pc)
instance : Inhabited Tok := ⟨⟨0, ⟨#[]⟩, ⟨#[]⟩, false, ⟨#[]⟩, ⟨#[]⟩, false, false, 0, 0, 0, 0, 0⟩⟩
theorem get_map {α β : Type} {f : α → β} {l : List α} {i : Nat} {a : α} (h : l[i]? = some a) : (l.map f)[i]? = some (f a) := by simp [h]
theorem get_lt {α : Type} {l : List α} {i : Nat} (h : i < l.length) : ∃ a, l[i]? = some a := ⟨l[i], List.getElem?_eq_getElem h⟩
def closes (k : Int) : Int := if k = 2 ∨ k = 21 then 22 else if k = 23 then 24 else if k = 19 then 20 else 0
theorem closes_spec (k : Int) : PCall C1 34 [yd (.int .i64 k)] fun y => y = yd (.int .i64 (closes k)) := by
  refine Pf (by rfl) (by rfl) fn34 (by rfl) ?_
  simp only [Try.f34, List.length_cons, List.length_nil, List.replicate, List.cons_append, List.nil_append]
  simp -implicitDefEqProofs only [↓yP, yT]
  unfold closes
  by_cases h1 : k = 2
  · subst h1
    simp [eqI_eq, ↓yP, yT, reduceCtorEq]
  by_cases h2 : k = 21
  · subst h2
    simp [eqI_eq, ↓yP, yT, reduceCtorEq]
  by_cases h3 : k = 23
  · subst h3
    simp [eqI_eq, ↓yP, yT, reduceCtorEq]
  by_cases h4 : k = 19
  · subst h4
    simp [eqI_eq, ↓yP, yT, reduceCtorEq]
  simp [eqI_eq, h1, h2, h3, h4, ↓yP, yT, reduceCtorEq]
theorem closer_spec (k : Int) : PCall C1 39 [yd (.int .i64 k)] fun y => y = yd (.int .i64 (closes k)) := by
  refine Pf (by rfl) (by rfl) fn39 (by rfl) ?_
  simp only [Try.f39, List.length_cons, List.length_nil, List.replicate, List.cons_append, List.nil_append]
  simp -implicitDefEqProofs only [↓yP, yT]
  unfold closes
  by_cases h1 : k = 2
  · subst h1
    simp [eqI_eq, ↓yP, yT, reduceCtorEq]
  by_cases h2 : k = 21
  · subst h2
    simp [eqI_eq, ↓yP, yT, reduceCtorEq]
  by_cases h3 : k = 23
  · subst h3
    simp [eqI_eq, ↓yP, yT, reduceCtorEq]
  by_cases h4 : k = 19
  · subst h4
    simp [eqI_eq, ↓yP, yT, reduceCtorEq]
  simp [eqI_eq, h1, h2, h3, h4, ↓yP, yT, reduceCtorEq]
def quiet (k : Int) : Bool := decide (k = 13) || decide (k = 25)
def partK (k : Int) : Bool := decide (k = 19) || decide (k = 20) || decide (k = 17)
theorem quiet_spec (t : Tok) : PCall C1 37 [t.yv] fun y => y = yd (.bool (quiet t.kind)) := by
  refine Pf (by rfl) (by rfl) fn37 (by rfl) ?_
  simp only [Try.f37, List.length_cons, List.length_nil, List.replicate, List.cons_append, List.nil_append]
  simp only [Tok.yv, Tok.cs, Tok.pc, List.map_cons, List.map_nil]
  unfold quiet
  by_cases h1 : t.kind = 13
  · simp -implicitDefEqProofs only [↓yP, yT, reduceCtorEq, h1, eqI_true]
    simp
  · simp -implicitDefEqProofs only [↓yP, yT, reduceCtorEq, eqI_false h1]
    simp [h1, eqI_eq]
theorem blank_spec (t : Tok) : PCall C1 40 [t.yv] fun y => y = yd (.bool (quiet t.kind)) := by
  refine Pf (by rfl) (by rfl) fn40 (by rfl) ?_
  simp only [Try.f40, List.length_cons, List.length_nil, List.replicate, List.cons_append, List.nil_append]
  simp only [Tok.yv, Tok.cs, Tok.pc, List.map_cons, List.map_nil]
  unfold quiet
  by_cases h1 : t.kind = 13
  · simp -implicitDefEqProofs only [↓yP, yT, reduceCtorEq, h1, eqI_true]
    simp
  · simp -implicitDefEqProofs only [↓yP, yT, reduceCtorEq, eqI_false h1]
    simp [h1, eqI_eq]
theorem cpart_spec (t : Tok) : PCall C1 41 [t.yv] fun y => y = yd (.bool (partK t.kind)) := by
  refine Pf (by rfl) (by rfl) fn41 (by rfl) ?_
  simp only [Try.f41, List.length_cons, List.length_nil, List.replicate, List.cons_append, List.nil_append]
  simp only [Tok.yv, Tok.cs, Tok.pc, List.map_cons, List.map_nil]
  unfold partK
  by_cases h1 : t.kind = 19
  · simp -implicitDefEqProofs only [↓yP, yT, reduceCtorEq, h1, eqI_true]
    simp
  by_cases h2 : t.kind = 20
  · have e1 : eqI t.kind 19 = false := eqI_false h1
    have e2 : eqI t.kind 20 = true := by rw [h2]; rfl
    simp -implicitDefEqProofs only [↓yP, yT, reduceCtorEq, e1, e2]
    simp [h2]
  · simp -implicitDefEqProofs only [↓yP, yT, reduceCtorEq, eqI_false h1, eqI_false h2]
    simp [h1, h2, eqI_eq]
theorem in_spec (l : List Int) (n : Int) (hl : l.length ≤ 100000000) : PCall C1 57 [.c (.p (rI l)), yd (.int .i64 n)] fun y => y = yd (.bool (l.contains n)) := by
  refine Pf (by rfl) (by rfl) fn57 (by rfl) ?_
  simp only [Try.f57, List.length_cons, List.length_nil, List.replicate, List.cons_append, List.nil_append]
  simp -implicitDefEqProofs only [↓yP, yT]
  refine Rl_inv (fun d e s => ∃ i : Nat, e = [.c (.p (rI l)), yd (.int .i64 n), Tp, Tp, Tp, yd (.int .i64 i), Tp, Tp, Tp, Tp, Tp, Tp, Tp, Tp, Tp, Tp, Tp, Tp] ∧ s = [] ∧ i + d = l.length ∧ ∀ (j : Nat) (a : Int), j < i → l[j]? = some a → a ≠ n) [true, true, false, false, false, true] l.length [] (by decide) (pinned_zero _) ⟨0, rfl, rfl, by omega, fun j a hj => by omega⟩ ?_
  rintro d e s ⟨i, rfl, rfl, hd, hne⟩
  by_cases hi : i < l.length
  · obtain ⟨a, ha⟩ := get_lt hi
    have t1 : leI (l.length : Nat) (i : Nat) = false := leI_false (by omega)
    by_cases he : a = n
    · simp -implicitDefEqProofs only [↓yP, yT, reduceCtorEq, t1, get_map ha, ei, he, eqI_true]
      simp [List.mem_of_getElem? (he ▸ ha)]
    · simp -implicitDefEqProofs only [↓yP, yT, t1, get_map ha, ei, eqI_false he, wrap_succ (show i < 9000000000000000000 by omega)]
      refine ⟨d - 1, [], by omega, by decide, pinned_zero _, i + 1, rfl, rfl, by omega, fun j b hj hb => ?_⟩
      by_cases e : j = i
      · subst e; rw [ha] at hb; cases hb; exact he
      · exact hne j b (by omega) hb
  · have t1 : leI (l.length : Nat) (i : Nat) = true := leI_true (by omega)
    simp -implicitDefEqProofs only [↓yP, yT, reduceCtorEq, t1]
    have : n ∉ l := fun hm => by
      obtain ⟨j, hj, he⟩ := List.getElem_of_mem hm
      exact hne j n (by omega) (by rw [List.getElem?_eq_getElem hj, he]) rfl
    simp [this]
end Go.Vx.Seat
end
section
open Go Go.Vx Go.Proofs
set_option maxRecDepth 10000
set_option maxHeartbeats 4000000
namespace Go.Vx.Seat
attribute [local irreducible] Rg Rt Ro Ri Rc Rto Rtk Rtf Rti Rw Rl Rd Rcall Rtcall kf
theorem fn66 : nth C1.P.funcs.toList 66 = some Try.f66 := by kernel_rfl
theorem fn82 : nth C1.P.funcs.toList 82 = some Try.f82 := by kernel_rfl
theorem fn81 : nth C1.P.funcs.toList 81 = some Try.f81 := by kernel_rfl
theorem fn68 : nth C1.P.funcs.toList 68 = some Try.f68 := by kernel_rfl
theorem fn65 : nth C1.P.funcs.toList 65 = some Try.f65 := by kernel_rfl
theorem fn88 : nth C1.P.funcs.toList 88 = some Try.f88 := by kernel_rfl
theorem fn69 : nth C1.P.funcs.toList 69 = some Try.f69 := by kernel_rfl
theorem fn83 : nth C1.P.funcs.toList 83 = some Try.f83 := by kernel_rfl
theorem fn72 : nth C1.P.funcs.toList 72 = some Try.f72 := by kernel_rfl
theorem fn71 : nth C1.P.funcs.toList 71 = some Try.f71 := by kernel_rfl
structure Rn where
  r : Int
  a : Int
def Rn.pc (x : Rn) : List PC := [.d (.int .i64 x.r), .d (.int .i64 x.a)]
abbrev rR (l : List Rn) : PC := .row 2 (l.map Rn.pc)
instance : Inhabited Rn := ⟨⟨0, 0⟩⟩
def atR (l : List Rn) (i : Int) : Int := if i < 0 then -1 else match l[i.toNat]? with | some x => x.r | none => -1
theorem atR_get {l : List Rn} {i : Nat} {x : Rn} (h : l[i]? = some x) : atR l (i : Nat) = x.r := by
  rw [atR, if_neg (by omega), Int.toNat_natCast, h]
theorem atR_out {l : List Rn} {i : Int} (h : (l.length : Int) ≤ i) : atR l i = -1 := by
  rw [atR, if_neg (by omega), List.getElem?_eq_none (by omega)]
theorem of_leF {a b : Int} (h : leI a b = false) : b < a := by rw [leI_eq] at h; simpa using h
theorem of_leT {a b : Int} (h : leI a b = true) : a ≤ b := by rw [leI_eq] at h; simpa using h
theorem of_eqF {a b : Int} (h : eqI a b = false) : a ≠ b := by rw [eqI_eq] at h; simpa using h
theorem of_eqT {a b : Int} (h : eqI a b = true) : a = b := by rw [eqI_eq] at h; simpa using h
theorem at_spec (l : List Rn) (i : Int) : PCall C1 66 [.c (.p (rR l)), yd (.int .i64 i)] fun y => y = yd (.int .i64 (atR l i)) := by
  refine Pf (by rfl) (by rfl) fn66 (by rfl) ?_
  simp only [Try.f66, List.length_cons, List.length_nil, List.replicate, List.cons_append, List.nil_append]
  cases h1 : leI 0 i with
  | false =>
    have := of_leF h1
    simp -implicitDefEqProofs only [↓yP, yT, reduceCtorEq, h1, atR, this]
  | true =>
    have h1' := of_leT h1
    cases h2 : leI (l.length : Nat) i with
    | true =>
      simp -implicitDefEqProofs only [↓yP, yT, reduceCtorEq, h1, h2]
      rw [atR_out (of_leT h2)]
    | false =>
      have h2' := of_leF h2
      obtain ⟨n, rfl⟩ := Int.eq_ofNat_of_zero_le h1'
      obtain ⟨x, hx⟩ := get_lt (l := l) (i := n) (by omega)
      simp -implicitDefEqProofs only [↓yP, yT, Nat.reduceAdd, reduceCtorEq, h1, h2, get_map hx, Rn.pc, atR_get hx]
def digitB (r : Int) : Bool := leI 48 r && leI r 57
theorem digit_spec (r : Int) : PCall C1 82 [yd (.int .i64 r)] fun y => y = yd (.bool (digitB r)) := by
  refine Pf (by rfl) (by rfl) fn82 (by rfl) ?_
  simp only [Try.f82, List.length_cons, List.length_nil, List.replicate, List.cons_append, List.nil_append]
  cases h1 : leI 48 r <;> cases h2 : leI r 57 <;> simp -implicitDefEqProofs only [↓yP, yT, reduceCtorEq, digitB, h1, h2] <;> rfl
def startB (r : Int) : Bool := (leI 97 r && leI r 122) || (leI 65 r && leI r 90) || eqI r 95 || leI 128 r
theorem start_spec (r : Int) : PCall C1 81 [yd (.int .i64 r)] fun y => y = yd (.bool (startB r)) := by
  refine Pf (by rfl) (by rfl) fn81 (by rfl) ?_
  simp only [Try.f81, List.length_cons, List.length_nil, List.replicate, List.cons_append, List.nil_append]
  cases h1 : leI 97 r <;> cases h2 : leI r 122 <;> cases h3 : leI 65 r <;> cases h4 : leI r 90 <;> cases h5 : eqI r 95 <;> cases h6 : leI 128 r <;> simp -implicitDefEqProofs only [↓yP, yT, reduceCtorEq, startB, h1, h2, h3, h4, h5, h6] <;> rfl
def inB (r : Int) : Bool := startB r || digitB r || eqI r 45
theorem in_spec1 (r : Int) : PCall C1 68 [yd (.int .i64 r)] fun y => y = yd (.bool (inB r)) := by
  refine Pf (by rfl) (by rfl) fn68 (by rfl) ?_
  simp only [Try.f68, List.length_cons, List.length_nil, List.replicate, List.cons_append, List.nil_append]
  simp -implicitDefEqProofs only [↓yP, yT]
  refine Rcall_pure (start_spec r) (by rfl) fun y hy => ?_
  subst hy
  cases h1 : startB r with
  | true => cases h3 : eqI r 45 <;> simp -implicitDefEqProofs only [↓yP, yT, reduceCtorEq, inB, h1, h3]
  | false =>
    simp -implicitDefEqProofs only [yT]
    refine Rcall_pure (digit_spec r) (by rfl) fun y hy => ?_
    subst hy
    cases h2 : digitB r <;> cases h3 : eqI r 45 <;> simp -implicitDefEqProofs only [↓yP, yT, reduceCtorEq, inB, h1, h2, h3]
def blankB (r : Int) : Bool := eqI r 32 || eqI r 9 || eqI r 10
theorem blank_spec1 (r : Int) : PCall C1 65 [yd (.int .i64 r)] fun y => y = yd (.bool (blankB r)) := by
  refine Pf (by rfl) (by rfl) fn65 (by rfl) ?_
  simp only [Try.f65, List.length_cons, List.length_nil, List.replicate, List.cons_append, List.nil_append]
  cases h1 : eqI r 32 <;> cases h2 : eqI r 9 <;> cases h3 : eqI r 10 <;> simp -implicitDefEqProofs only [↓yP, yT, reduceCtorEq, blankB, h1, h2, h3]
def hexR (r : Int) : Int := if digitB r = true then wrapK .i64 (r - 48) else if (leI 97 r && leI r 102) = true then wrapK .i64 (wrapK .i64 (r - 97) + 10) else if (leI 65 r && leI r 70) = true then wrapK .i64 (wrapK .i64 (r - 65) + 10) else -1
theorem hex_spec (r : Int) : PCall C1 88 [yd (.int .i64 r)] fun y => y = yd (.int .i64 (hexR r)) := by
  refine Pf (by rfl) (by rfl) fn88 (by rfl) ?_
  simp only [Try.f88, List.length_cons, List.length_nil, List.replicate, List.cons_append, List.nil_append]
  simp -implicitDefEqProofs only [↓yP, yT]
  refine Rcall_pure (digit_spec r) (by rfl) fun y hy => ?_
  subst hy
  cases h1 : digitB r with
  | true => simp -implicitDefEqProofs only [↓yP, yT, reduceCtorEq, hexR, h1]
  | false => cases h2 : leI 97 r <;> cases h3 : leI r 102 <;> cases h4 : leI 65 r <;> cases h5 : leI r 70 <;> simp -implicitDefEqProofs only [↓yP, yT, reduceCtorEq, hexR, h1, h2, h3, h4, h5] <;> rfl
theorem hexR_out : hexR (-1) = -1 := by simp [hexR, digitB, leI_eq]
def escB (l : List Rn) (i : Nat) : Bool := eqI (atR l (i : Nat)) 92 && !eqI (atR l ((i + 1 : Nat) : Int)) 10
theorem escape_spec (l : List Rn) (i : Nat) (hi : i ≤ 5000000) : PCall C1 69 [.c (.p (rR l)), yd (.int .i64 (i : Nat))] fun y => y = yd (.bool (escB l i)) := by
  have w1 : wrapK .i64 ((i : Int) + 1) = ((i + 1 : Nat) : Int) := wrap_succ (by omega)
  refine Pf (by rfl) (by rfl) fn69 (by rfl) ?_
  simp only [Try.f69, List.length_cons, List.length_nil, List.replicate, List.cons_append, List.nil_append]
  simp -implicitDefEqProofs only [↓yP, yT]
  refine Rcall_pure (at_spec l i) (by rfl) fun y hy => ?_
  subst hy
  cases h1 : eqI (atR l (i : Nat)) 92 with
  | false => simp -implicitDefEqProofs only [↓yP, yT, reduceCtorEq, Bool.false_and, escB, h1]
  | true =>
    simp -implicitDefEqProofs only [yT, h1, w1]
    refine Rcall_pure (at_spec l _) (by rfl) fun y hy => ?_
    subst hy
    cases h2 : eqI (atR l ((i + 1 : Nat) : Int)) 10 <;> simp -implicitDefEqProofs only [↓yP, yT, reduceCtorEq, Bool.and_false, escB, h1, h2]
theorem cap_spec (n a b : Int) : PCall C1 83 [yd (.int .i64 n), yd (.int .i64 a), yd (.int .i64 b)] fun y => y = yd (.int .i64 (if n < a then a else if b < n then b else n)) := by
  refine Pf (by rfl) (by rfl) fn83 (by rfl) ?_
  simp only [Try.f83, List.length_cons, List.length_nil, List.replicate, List.cons_append, List.nil_append]
  cases h1 : leI a n with
  | false =>
    have := of_leF h1
    simp -implicitDefEqProofs only [↓yP, yT, reduceCtorEq, h1, this]
  | true =>
    have h1' : ¬ n < a := by have := of_leT h1; omega
    cases h2 : leI n b with
    | false =>
      have := of_leF h2
      simp -implicitDefEqProofs only [↓yP, yT, reduceCtorEq, h1, h2, h1', this]
    | true =>
      have h2' : ¬ b < n := by have := of_leT h2; omega
      simp -implicitDefEqProofs only [↓yP, yT, reduceCtorEq, h1, h2, h1', h2']
def numeralB (l : List Rn) (i : Nat) : Bool :=
  let j := if eqI (atR l (i : Nat)) 43 || eqI (atR l (i : Nat)) 45 then i + 1 else i
  digitB (atR l (j : Nat)) || (eqI (atR l (j : Nat)) 46 && digitB (atR l ((j + 1 : Nat) : Int)))
theorem numeral_spec (l : List Rn) (i : Nat) (hi : i ≤ 4000000) : PCall C1 72 [.c (.p (rR l)), yd (.int .i64 (i : Nat))] fun y => y = yd (.bool (numeralB l i)) := by
  have w1 : wrapK .i64 ((i : Int) + 1) = ((i + 1 : Nat) : Int) := wrap_succ (by omega)
  have w2 : wrapK .i64 (((i + 1 : Nat) : Int) + 1) = ((i + 1 + 1 : Nat) : Int) := wrap_succ (by omega)
  refine Pf (by rfl) (by rfl) fn72 (by rfl) ?_
  simp only [Try.f72, List.length_cons, List.length_nil, List.replicate, List.cons_append, List.nil_append]
  simp -implicitDefEqProofs only [↓yP, yT]
  refine Rcall_pure (at_spec l i) (by rfl) fun y hy => ?_
  subst hy
  cases h1 : eqI (atR l (i : Nat)) 43 <;> cases h2 : eqI (atR l (i : Nat)) 45
  · simp -implicitDefEqProofs only [↓yP, yT, h1, h2]
    refine Rcall_pure (digit_spec _) (by rfl) fun y hy => ?_
    subst hy
    cases h3 : digitB (atR l (i : Nat)) with
    | true => simp -implicitDefEqProofs only [↓yP, yT, reduceCtorEq, numeralB, h1, h2, h3]
    | false =>
      cases h4 : eqI (atR l (i : Nat)) 46 with
      | false => simp -implicitDefEqProofs only [↓yP, yT, reduceCtorEq, Bool.false_and, numeralB, h1, h2, h3, h4]
      | true =>
        simp -implicitDefEqProofs only [yT, h4, w1]
        refine Rcall_pure (at_spec l _) (by rfl) fun y hy => ?_
        subst hy
        simp -implicitDefEqProofs only [yT]
        refine Rcall_pure (digit_spec _) (by rfl) fun y hy => ?_
        subst hy
        simp -implicitDefEqProofs only [↓yP, yT, reduceCtorEq, Bool.true_and, numeralB, h1, h2, h3, h4]
  all_goals
    simp -implicitDefEqProofs only [↓yP, yT, h1, h2, w1]
    refine Rcall_pure (at_spec l _) (by rfl) fun y hy => ?_
    subst hy
    simp -implicitDefEqProofs only [↓yP, yT]
    refine Rcall_pure (digit_spec _) (by rfl) fun y hy => ?_
    subst hy
    cases h3 : digitB (atR l ((i + 1 : Nat) : Int)) with
    | true => simp -implicitDefEqProofs only [↓yP, yT, reduceCtorEq, numeralB, h1, h2, h3]
    | false =>
      cases h4 : eqI (atR l ((i + 1 : Nat) : Int)) 46 with
      | false => simp -implicitDefEqProofs only [↓yP, yT, reduceCtorEq, Bool.false_and, numeralB, h1, h2, h3, h4]
      | true =>
        simp -implicitDefEqProofs only [yT, h4, w2]
        refine Rcall_pure (at_spec l _) (by rfl) fun y hy => ?_
        subst hy
        simp -implicitDefEqProofs only [yT]
        refine Rcall_pure (digit_spec _) (by rfl) fun y hy => ?_
        subst hy
        simp -implicitDefEqProofs only [↓yP, yT, reduceCtorEq, Bool.true_and, numeralB, h1, h2, h3, h4]
def beginsB (l : List Rn) (i : Nat) : Bool :=
  decide (i < l.length) && (if eqI (atR l (i : Nat)) 45 then startB (atR l ((i + 1 : Nat) : Int)) || eqI (atR l ((i + 1 : Nat) : Int)) 45 || escB l (i + 1) else startB (atR l (i : Nat)) || escB l i)
theorem begins_spec (l : List Rn) (i : Nat) (hi : i ≤ 4000000) : PCall C1 71 [.c (.p (rR l)), yd (.int .i64 (i : Nat))] fun y => y = yd (.bool (beginsB l i)) := by
  have w1 : wrapK .i64 ((i : Int) + 1) = ((i + 1 : Nat) : Int) := wrap_succ (by omega)
  refine Pf (by rfl) (by rfl) fn71 (by rfl) ?_
  simp only [Try.f71, List.length_cons, List.length_nil, List.replicate, List.cons_append, List.nil_append]
  have t0 : leI 0 (i : Nat) = true := leI_true (by omega)
  by_cases hl : i < l.length
  · have t1 : leI (l.length : Nat) (i : Nat) = false := leI_false (by omega)
    obtain ⟨x, hx⟩ := get_lt hl
    have hat := atR_get hx
    cases h1 : eqI x.r 45 with
    | true =>
      simp -implicitDefEqProofs only [↓yP, yT, Nat.reduceAdd, reduceCtorEq, t0, t1, get_map hx, Rn.pc, h1, w1]
      refine Rcall_pure (at_spec l _) (by rfl) fun y hy => ?_
      subst hy
      simp -implicitDefEqProofs only [↓yP, yT]
      refine Rcall_pure (start_spec _) (by rfl) fun y hy => ?_
      subst hy
      cases h2 : startB (atR l ((i + 1 : Nat) : Int)) <;> cases h3 : eqI (atR l ((i + 1 : Nat) : Int)) 45
      · simp -implicitDefEqProofs only [yT, h3, w1]
        refine Rcall_pure (escape_spec l _ (by omega)) (by rfl) fun y hy => ?_
        subst hy
        simp -implicitDefEqProofs only [↓yP, yT, reduceCtorEq, Bool.true_and, beginsB, hat, h1, h2, h3, hl, decide_true]
      all_goals simp -implicitDefEqProofs only [↓yP, yT, reduceCtorEq, h3, beginsB, hat, h1, h2, hl, decide_true]
    | false =>
      simp -implicitDefEqProofs only [↓yP, yT, Nat.reduceAdd, reduceCtorEq, t0, t1, get_map hx, Rn.pc, h1]
      refine Rcall_pure (start_spec _) (by rfl) fun y hy => ?_
      subst hy
      cases h2 : startB x.r with
      | true => simp -implicitDefEqProofs only [↓yP, yT, reduceCtorEq, beginsB, hat, h1, h2, hl, decide_true]
      | false =>
        simp -implicitDefEqProofs only [yT]
        refine Rcall_pure (escape_spec l _ (by omega)) (by rfl) fun y hy => ?_
        subst hy
        simp -implicitDefEqProofs only [↓yP, yT, reduceCtorEq, Bool.true_and, beginsB, hat, h1, h2, hl, decide_true]
  · have t1 : leI (l.length : Nat) (i : Nat) = true := leI_true (by omega)
    simp -implicitDefEqProofs only [↓yP, yT, reduceCtorEq, Bool.false_and, t0, t1, beginsB, hl, decide_false]
end Go.Vx.Seat
end
section
open Go Go.Vx Go.Proofs
set_option maxRecDepth 10000
set_option maxHeartbeats 4000000
namespace Go.Vx.Seat
attribute [local irreducible] Rg Rt Ro Ri Rc Rto Rtk Rtf Rti Rw Rl Rd Rcall Rtcall kf
theorem fn80 : nth C1.P.funcs.toList 80 = some Try.f80 := by kernel_rfl
theorem fn78 : nth C1.P.funcs.toList 78 = some Try.f78 := by kernel_rfl
theorem fn64 : nth C1.P.funcs.toList 64 = some Try.f64 := by kernel_rfl
theorem fn79 : nth C1.P.funcs.toList 79 = some Try.f79 := by kernel_rfl
theorem fn70 : nth C1.P.funcs.toList 70 = some Try.f70 := by kernel_rfl
theorem fn75 : nth C1.P.funcs.toList 75 = some Try.f75 := by kernel_rfl
theorem fn53 : nth C1.P.funcs.toList 53 = some Try.f53 := by kernel_rfl
theorem fn33 : nth C1.P.funcs.toList 33 = some Try.f33 := by kernel_rfl
def eb (n : Int) : List PC := [.d (.int .u8 n)]
abbrev rB (l : List Int) : PC := .row 1 (l.map eb)
def andI (a b : Int) : Int := IntKind.wrap .i64 (BitVec.ofInt IntKind.i64.bits a &&& BitVec.ofInt IntKind.i64.bits b).toNat
def orI (a b : Int) : Int := IntKind.wrap .i64 (BitVec.ofInt IntKind.i64.bits a ||| BitVec.ofInt IntKind.i64.bits b).toNat
def shrI (a n : Int) : Int := a.fdiv (2 ^ (min n.toNat IntKind.i64.bits))
theorem xshr (a : Int) (n : Nat) : xshift .shr .i64 a (n : Nat) = some (.int .i64 (shrI a (n : Nat))) := by
  rw [xshift, if_neg (by omega)]; rfl
theorem shr6 (a : Int) : xshift .shr .i64 a 6 = some (.int .i64 (shrI a 6)) := xshr a 6
theorem shr12 (a : Int) : xshift .shr .i64 a 12 = some (.int .i64 (shrI a 12)) := xshr a 12
theorem shr18 (a : Int) : xshift .shr .i64 a 18 = some (.int .i64 (shrI a 18)) := xshr a 18
def putR (r : Int) : Int := if (leI 0 r && leI r 1114111 && !(leI 55296 r && !leI 57344 r)) = true then r else 65533
def putL (r : Int) : List Int :=
  if leI 128 r = false then [wrapK .u8 r]
  else if leI 2048 r = false then [wrapK .u8 (orI 192 (shrI r 6)), wrapK .u8 (orI 128 (andI r 63))]
  else if leI 65536 r = false then [wrapK .u8 (orI 224 (shrI r 12)), wrapK .u8 (orI 128 (andI (shrI r 6) 63)), wrapK .u8 (orI 128 (andI r 63))]
  else [wrapK .u8 (orI 240 (shrI r 18)), wrapK .u8 (orI 128 (andI (shrI r 12) 63)), wrapK .u8 (orI 128 (andI (shrI r 6) 63)), wrapK .u8 (orI 128 (andI r 63))]
def putB (r : Int) : List Int := putL (putR r)
theorem putB_len (r : Int) : 1 ≤ (putB r).length ∧ (putB r).length ≤ 4 := by
  unfold putB putL
  split
  · simp
  · split
    · simp
    · split <;> simp
theorem put_spec (r : Int) (els : List Int) (hl : els.length ≤ 1000000000) : YC C1 false 80 [.c (.own 0 1 0 (els.map eb).length), yd (.int .i64 r)] [.row 1 (els.map eb)] (KOwn 1 ((els ++ putB r).map eb)) := by
  refine Yf0 [] (by rfl) (by rfl) fn80 (by rfl) ?_
  simp only [Try.f80, List.length_cons, List.length_nil, List.replicate, List.cons_append, List.nil_append]
  have b1 : (els.length + 1) * 1 ≤ 70368744177664 := by omega
  have b2 : (els.length + 2) * 1 ≤ 70368744177664 := by omega
  have b3 : (els.length + 3) * 1 ≤ 70368744177664 := by omega
  have b4 : (els.length + 4) * 1 ≤ 70368744177664 := by omega
  have g1 : leI 128 65533 = true := rfl
  have g2 : leI 2048 65533 = true := rfl
  have g3 : leI 65536 65533 = false := rfl
  cases h1 : leI 0 r with
  | false =>
    cases h2 : leI r 1114111 <;> cases h3 : leI 55296 r <;> cases h4 : leI 57344 r
    all_goals
      have hp : putB r = [wrapK .u8 (orI 224 (shrI 65533 12)), wrapK .u8 (orI 128 (andI (shrI 65533 6) 63)), wrapK .u8 (orI 128 (andI 65533 63))] := by
        simp only [putB, putR, h1, h2, h3, h4, Bool.and_true, Bool.and_false, Bool.not_true, Bool.not_false, Bool.false_eq_true, if_true, if_false, putL, g1, g2, g3, reduceCtorEq]
      simp -implicitDefEqProofs only [↓yP, yT, Nat.reduceAdd, Nat.reduceMul, Nat.reduceLeDiff, reduceCtorEq, Nat.reduceLT, shr6, shr12, g1, g2, g3, h1, b3]
      refine ⟨[0, 2], by decide, pinned_one _, .inr ⟨?_, ?_⟩⟩
      · simp only [List.length_map, List.length_append, hp]; rfl
      · simp only [yE, List.map_append, hp]; rfl
  | true =>
    cases h2 : leI r 1114111 with
    | false =>
      cases h3 : leI 55296 r <;> cases h4 : leI 57344 r
      all_goals
        have hp : putB r = [wrapK .u8 (orI 224 (shrI 65533 12)), wrapK .u8 (orI 128 (andI (shrI 65533 6) 63)), wrapK .u8 (orI 128 (andI 65533 63))] := by
          simp only [putB, putR, h1, h2, h3, h4, Bool.and_true, Bool.and_false, Bool.not_true, Bool.not_false, Bool.false_eq_true, if_true, if_false, putL, g1, g2, g3, reduceCtorEq]
        simp -implicitDefEqProofs only [↓yP, yT, Nat.reduceAdd, Nat.reduceMul, Nat.reduceLeDiff, reduceCtorEq, Nat.reduceLT, shr6, shr12, g1, g2, g3, h1, h2, b3]
        refine ⟨[0, 2], by decide, pinned_one _, .inr ⟨?_, ?_⟩⟩
        · simp only [List.length_map, List.length_append, hp]; rfl
        · simp only [yE, List.map_append, hp]; rfl
    | true =>
      cases h3 : leI 55296 r with
      | false =>
        cases h4 : leI 57344 r
        all_goals
          cases h5 : leI 128 r <;> cases h6 : leI 2048 r <;> cases h7 : leI 65536 r
          all_goals
            have hp : putB r = putL r := by
              simp only [putB, putR, h1, h2, h3, h4, Bool.and_true, Bool.and_false, Bool.not_true, Bool.not_false, if_true]
            simp -implicitDefEqProofs only [↓yP, yT, Nat.reduceAdd, Nat.reduceMul, Nat.reduceLeDiff, reduceCtorEq, Nat.reduceLT, shr6, shr12, shr18, h1, h2, h3, h5, h6, h7, b1, b2, b3, b4]
            refine ⟨[0, 2], by decide, pinned_one _, .inr ⟨?_, ?_⟩⟩
            · simp only [List.length_map, List.length_append, hp, putL, h5, h6, h7, if_true, if_false, reduceCtorEq]; rfl
            · simp only [yE, reduceCtorEq, List.map_append, hp, putL, h5, h6, h7]; rfl
      | true =>
        cases h4 : leI 57344 r with
        | false =>
          have hp : putB r = [wrapK .u8 (orI 224 (shrI 65533 12)), wrapK .u8 (orI 128 (andI (shrI 65533 6) 63)), wrapK .u8 (orI 128 (andI 65533 63))] := by
            simp only [putB, putR, h1, h2, h3, h4, Bool.and_true, Bool.and_false, Bool.not_true, Bool.not_false, Bool.false_eq_true, if_true, if_false, putL, g1, g2, g3, reduceCtorEq]
          simp -implicitDefEqProofs only [↓yP, yT, Nat.reduceAdd, Nat.reduceMul, Nat.reduceLeDiff, reduceCtorEq, Nat.reduceLT, shr6, shr12, g1, g2, g3, h1, h2, h3, h4, b3]
          refine ⟨[0, 2], by decide, pinned_one _, .inr ⟨?_, ?_⟩⟩
          · simp only [List.length_map, List.length_append, hp]; rfl
          · simp only [yE, List.map_append, hp]; rfl
        | true =>
          cases h5 : leI 128 r <;> cases h6 : leI 2048 r <;> cases h7 : leI 65536 r
          all_goals
            have hp : putB r = putL r := by
              simp only [putB, putR, h1, h2, h3, h4, Bool.and_true, Bool.and_false, Bool.not_true, Bool.not_false, if_true]
            simp -implicitDefEqProofs only [↓yP, yT, Nat.reduceAdd, Nat.reduceMul, Nat.reduceLeDiff, reduceCtorEq, Nat.reduceLT, shr6, shr12, shr18, h1, h2, h3, h4, h5, h6, h7, b1, b2, b3, b4]
            refine ⟨[0, 2], by decide, pinned_one _, .inr ⟨?_, ?_⟩⟩
            · simp only [List.length_map, List.length_append, hp, putL, h5, h6, h7, if_true, if_false, reduceCtorEq]; rfl
            · simp only [yE, reduceCtorEq, List.map_append, hp, putL, h5, h6, h7]; rfl
end Go.Vx.Seat
end
section
open Go Go.Vx Go.Proofs
set_option maxRecDepth 10000
set_option maxHeartbeats 4000000
namespace Go.Vx.Seat
attribute [local irreducible] Rg Rt Ro Ri Rc Rto Rtk Rtf Rti Rw Rl Rd Rcall Rtcall kf
theorem hexR_neg {l : List Rn} {k : Nat} (h : l.length ≤ k) : hexR (atR l (k : Nat)) = -1 := by rw [atR_out (by omega)]; exact hexR_out
theorem ybytes_eb (bs : List Int) : ybytes (bs.map eb) = some (bs.map fun n => Value.int .u8 n) := by
  induction bs with
  | nil => rfl
  | cons n bs ih => simp only [List.map_cons, eb, ybytes, ih]
theorem bytesOf_u8 (bs : List Int) : bytesOf (bs.map fun n => Value.int .u8 n) = some (bs.map fun n => UInt8.ofNat n.toNat) := by
  induction bs with
  | nil => rfl
  | cons n bs ih => simp only [List.map_cons, bytesOf, ih]
def bstr (bs : List Int) : ByteArray := strMk (bs.map fun n => UInt8.ofNat n.toNat)
theorem bstr_len (bs : List Int) : (strOf (bstr bs)).length = bs.length := by simp [bstr, strOf, strMk]
end Go.Vx.Seat
end
section
open Go Go.Vx Go.Proofs
set_option maxRecDepth 10000
set_option maxHeartbeats 4000000
namespace Go.Vx.Seat
attribute [local irreducible] Rg Rt Ro Ri Rc Rto Rtk Rtf Rti Rw Rl Rd Rcall Rtcall kf
theorem rnGet {l : List Rn} {i : Nat} {x : Rn} (h : l[i]? = some x) : (l.map Rn.pc)[i]? = some [.d (.int .i64 x.r), .d (.int .i64 x.a)] := get_map h
end Go.Vx.Seat
end
section
open Go Go.Vx Go.Proofs
set_option maxRecDepth 10000
set_option maxHeartbeats 4000000
namespace Go.Vx.Seat
attribute [local irreducible] Rg Rt Ro Ri Rc Rto Rtk Rtf Rti Rw Rl Rd Rcall Rtcall kf
theorem fn63 : nth C1.P.funcs.toList 63 = some Try.f63 := by kernel_rfl
def followsB (l : List Rn) : Nat → List UInt8 → Bool
  | _, [] => true
  | i, c :: cs => eqI (atR l (i : Nat)) (c.toNat : Nat) && followsB l (i + 1) cs
theorem u8_i64 (c : UInt8) : wrapK .i64 ((c.toNat : Nat) : Int) = (c.toNat : Nat) := wrap_nat (by have := c.toNat_lt; omega)
theorem follows_spec (l : List Rn) (i : Nat) (s : ByteArray) (hi : i ≤ 4000000) (hs : (strOf s).length ≤ 100) : PCall C1 63 [.c (.p (rR l)), yd (.int .i64 (i : Nat)), yd (.string s)] fun y => y = yd (.bool (followsB l i (strOf s))) := by
  refine Pf (by rfl) (by rfl) fn63 (by rfl) ?_
  simp only [Try.f63, List.length_cons, List.length_nil, List.replicate, List.cons_append, List.nil_append]
  simp -implicitDefEqProofs only [↓yP, yT]
  refine Rl_inv (fun d e st => ∃ k : Nat, e = [.c (.p (rR l)), yd (.int .i64 (i : Nat)), yd (.string s), Tp, Tp, Tp, Tp, yd (.int .i64 (k : Nat)), Tp, Tp, Tp, Tp, Tp, Tp, Tp, Tp, Tp, Tp, Tp, Tp, Tp, Tp, Tp, Tp] ∧ st = [] ∧ k + d = (strOf s).length ∧ followsB l (i + k) ((strOf s).drop k) = followsB l i (strOf s)) [true, true, true, false, false, false, false, true] (strOf s).length [] (by decide) (pinned_zero _) ⟨0, by (simp only [yE]; try rfl), by (simp only [yE]; try rfl), by omega, rfl⟩ ?_
  rintro d e st ⟨k, rfl, rfl, hd, hf⟩
  by_cases hk : k < (strOf s).length
  · obtain ⟨c, hc⟩ := get_lt hk
    have t1 : leI ((strOf s).length : Nat) (k : Nat) = false := leI_false (by omega)
    have w1 : wrapK .i64 ((k : Int) + 1) = ((k + 1 : Nat) : Int) := wrap_succ (by omega)
    have w2 : wrapK .i64 ((i : Int) + (k : Nat)) = ((i + k : Nat) : Int) := wrap_nat (i := i + k) (by omega)
    have hdr : (strOf s).drop k = c :: (strOf s).drop (k + 1) := by
      rw [List.getElem?_eq_getElem hk] at hc
      cases hc
      exact List.drop_eq_getElem_cons hk
    rw [hdr, followsB] at hf
    simp -implicitDefEqProofs only [↓yP, yT, opLen.eq_1, t1]
    refine Rd_calm (by rw [C1_P]; kernel_rfl) ?_
    simp -implicitDefEqProofs only [↓yP, yT, w2]
    refine Rcall_pure (at_spec l _) (by rfl) fun y hy => ?_
    subst hy
    cases h1 : eqI (atR l ((i + k : Nat) : Int)) ((c.toNat : Nat) : Int) with
    | true =>
      rw [h1, Bool.true_and] at hf
      simp -implicitDefEqProofs only [↓yP, yT, xindex.eq_1, hc, u8_i64, h1, w1]
      refine ⟨d - 1, [], by omega, by decide, pinned_zero _, k + 1, by (simp only [yE]; try rfl), rfl, by omega, by rw [← hf]; rfl⟩
    | false =>
      rw [h1, Bool.false_and] at hf
      simp -implicitDefEqProofs only [↓yP, yT, reduceCtorEq, xindex.eq_1, hc, u8_i64, h1, ← hf]
  · have t1 : leI ((strOf s).length : Nat) (k : Nat) = true := leI_true (by omega)
    rw [List.drop_eq_nil_of_le (by omega), followsB] at hf
    simp -implicitDefEqProofs only [↓yP, yT, reduceCtorEq, opLen.eq_1, t1, ← hf]
end Go.Vx.Seat
end
section
open Go Go.Vx Go.Proofs
namespace Go.Vx.Seat
def hd (l : List Rn) : Int := match l with | x :: _ => x.r | [] => -1
theorem hd_drop (l : List Rn) (i : Nat) : hd (l.drop i) = atR l (i : Nat) := by
  cases h : l[i]? with
  | none =>
    have hl : l.length ≤ i := by simpa using h
    rw [List.drop_eq_nil_of_le hl, atR_out (by omega)]; rfl
  | some x =>
    obtain ⟨h1, h2⟩ := List.getElem?_eq_some_iff.mp h
    rw [atR_get h, List.drop_eq_getElem_cons h1, h2]; rfl
theorem drop_cons {α : Type} {l : List α} {i : Nat} {x : α} (h : l[i]? = some x) : l.drop i = x :: l.drop (i + 1) := by
  obtain ⟨h1, h2⟩ := List.getElem?_eq_some_iff.mp h
  rw [List.drop_eq_getElem_cons h1, h2]
def esc0 (l : List Rn) : Bool := eqI (hd l) 92 && !eqI (hd (l.drop 1)) 10
theorem esc_drop (l : List Rn) (i : Nat) : escB l i = esc0 (l.drop i) := by
  rw [escB, esc0, hd_drop, List.drop_drop, hd_drop]
def hexN : Nat → Int → List Rn → Int × List Rn
  | 0, x, l => (x, l)
  | _ + 1, x, [] => (x, [])
  | n + 1, x, c :: l => if leI 0 (hexR c.r) then hexN n (wrapK .i64 (wrapK .i64 (16 * x) + hexR c.r)) l else (x, c :: l)
def fixB (x : Int) : Int := if eqI x 0 || !leI x 1114111 || (leI 55296 x && !leI 57344 x) then 65533 else x
def skipB : List Rn → List Rn
  | [] => []
  | c :: r => if blankB c.r then r else c :: r
def escF : List Rn → Int × List Rn
  | [] => (65533, [])
  | c :: r => if leI 0 (hexR c.r) then (fixB (hexN 6 0 (c :: r)).1, skipB (hexN 6 0 (c :: r)).2) else (c.r, r)
theorem skipB_le (l : List Rn) : (skipB l).length ≤ l.length := by
  unfold skipB
  split
  · simp
  · split <;> simp
theorem hexN_le : ∀ (n : Nat) (x : Int) (l : List Rn), (hexN n x l).2.length ≤ l.length
  | 0, x, l => Nat.le_refl _
  | n + 1, x, [] => Nat.le_refl _
  | n + 1, x, c :: l => by
    unfold hexN
    split
    · have := hexN_le n (wrapK .i64 (wrapK .i64 (16 * x) + hexR c.r)) l; simp; omega
    · exact Nat.le_refl _
theorem escF_le (l : List Rn) : (escF l).2.length ≤ l.length := by
  unfold escF
  split
  · simp
  · rename_i c r
    split
    · have h1 := skipB_le (hexN 6 0 (c :: r)).2
      have h2 := hexN_le 6 0 (c :: r)
      simp only; omega
    · simp
def takeF (l : List Rn) : List Int × List Rn := match l with
  | [] => ([], [])
  | x :: r => if inB x.r then (putB x.r ++ (takeF r).1, (takeF r).2) else if esc0 (x :: r) then (putB (escF r).1 ++ (takeF (escF r).2).1, (takeF (escF r).2).2) else ([], x :: r)
termination_by l.length
decreasing_by
  all_goals first | (simp; done) | (have := escF_le r; simp; omega)
theorem takeF_in {x : Rn} {r : List Rn} (h : inB x.r = true) : takeF (x :: r) = (putB x.r ++ (takeF r).1, (takeF r).2) := by rw [takeF, if_pos h]
theorem takeF_esc {x : Rn} {r : List Rn} (h : inB x.r = false) (h2 : esc0 (x :: r) = true) : takeF (x :: r) = (putB (escF r).1 ++ (takeF (escF r).2).1, (takeF (escF r).2).2) := by rw [takeF, if_neg (by rw [h]; simp), if_pos h2]
theorem takeF_end {x : Rn} {r : List Rn} (h : inB x.r = false) (h2 : esc0 (x :: r) = false) : takeF (x :: r) = ([], x :: r) := by rw [takeF, if_neg (by rw [h]; simp), if_neg (by rw [h2]; simp)]
theorem takeF_nil : takeF [] = ([], []) := by rw [takeF]
def textF (l : List Rn) : List Int := l.flatMap fun x => putB x.r
def used (l r : List Rn) : List Rn := l.take (l.length - r.length)
theorem used_drop (l : List Rn) {i k : Nat} (hi : i ≤ k) (hk : k ≤ l.length) : used (l.drop i) (l.drop k) = (l.drop i).take (k - i) := by
  rw [used, List.length_drop, List.length_drop]; congr 1; omega
def quotedF (q : Int) (l : List Rn) : List Int × Bool × List Rn := match l with
  | [] => ([], false, [])
  | x :: r => if eqI x.r q then ([], false, r) else if eqI x.r 10 then ([], true, x :: r)
    else if eqI x.r 92 then
      (match r with
      | [] => ([], false, [])
      | y :: r' => if eqI y.r 10 then quotedF q r' else (putB (escF (y :: r')).1 ++ (quotedF q (escF (y :: r')).2).1, (quotedF q (escF (y :: r')).2).2))
    else (putB x.r ++ (quotedF q r).1, (quotedF q r).2)
termination_by l.length
decreasing_by
  all_goals first | (simp; done) | (simp; omega) | (have := escF_le (y :: r'); simp at this ⊢; omega)
section
variable {q : Int} {x y : Rn} {r : List Rn}
theorem quotedF_nil : quotedF q [] = ([], false, []) := by rw [quotedF.eq_def]
theorem quotedF_shut (h1 : eqI x.r q = true) : quotedF q (x :: r) = ([], false, r) := by rw [quotedF.eq_def]; simp only [h1, if_true]
theorem quotedF_nl (h1 : eqI x.r q = false) (h2 : eqI x.r 10 = true) : quotedF q (x :: r) = ([], true, x :: r) := by rw [quotedF.eq_def]; simp only [h1, h2, if_true, Bool.false_eq_true, if_false]
theorem quotedF_lone (h1 : eqI x.r q = false) (h2 : eqI x.r 10 = false) (h3 : eqI x.r 92 = true) : quotedF q [x] = ([], false, []) := by rw [quotedF.eq_def]; simp only [h1, h2, h3, if_true, Bool.false_eq_true, if_false]
theorem quotedF_escnl (h1 : eqI x.r q = false) (h2 : eqI x.r 10 = false) (h3 : eqI x.r 92 = true) (h4 : eqI y.r 10 = true) : quotedF q (x :: y :: r) = quotedF q r := by
  rw [quotedF.eq_def]; simp only [h1, h2, h3, h4, if_true, Bool.false_eq_true, if_false]
theorem quotedF_esc (h1 : eqI x.r q = false) (h2 : eqI x.r 10 = false) (h3 : eqI x.r 92 = true) (h4 : eqI y.r 10 = false) : quotedF q (x :: y :: r) = (putB (escF (y :: r)).1 ++ (quotedF q (escF (y :: r)).2).1, (quotedF q (escF (y :: r)).2).2) := by
  rw [quotedF.eq_def]; simp only [h1, h2, h3, h4, if_true, Bool.false_eq_true, if_false]
theorem quotedF_plain (h1 : eqI x.r q = false) (h2 : eqI x.r 10 = false) (h3 : eqI x.r 92 = false) : quotedF q (x :: r) = (putB x.r ++ (quotedF q r).1, (quotedF q r).2) := by
  rw [quotedF.eq_def]; simp only [h1, h2, h3, Bool.false_eq_true, if_false]
end
def badF (l : List Rn) : List Rn := match l with
  | [] => []
  | x :: r => if eqI x.r 41 then r else if esc0 (x :: r) then badF (escF r).2 else badF r
termination_by l.length
decreasing_by
  all_goals first | (simp; done) | (have := escF_le r; simp; omega)
def blanks (l : List Rn) : List Rn := l.dropWhile fun x => blankB x.r
theorem blanks_le (l : List Rn) : (blanks l).length ≤ l.length := (List.dropWhile_sublist _).length_le
def urlBad (x : Rn) (r : List Rn) : Bool := eqI x.r 34 || eqI x.r 39 || eqI x.r 40 || !leI 9 x.r || eqI x.r 11 || (leI 14 x.r && !leI 32 x.r) || eqI x.r 127 || (eqI x.r 92 && !esc0 (x :: r))
def urlF (l : List Rn) : Option (List Int) × List Rn := match l with
  | [] => (some [], [])
  | x :: r => if eqI x.r 41 then (some [], r)
    else if blankB x.r then
      (match blanks r with
      | [] => (some [], [])
      | y :: r' => if eqI y.r 41 then (some [], r') else (none, badF (y :: r')))
    else if urlBad x r then (none, badF (x :: r))
    else if eqI x.r 92 then ((urlF (escF r).2).1.map (putB (escF r).1 ++ ·), (urlF (escF r).2).2)
    else ((urlF r).1.map (putB x.r ++ ·), (urlF r).2)
termination_by l.length
decreasing_by
  all_goals first | (simp; done) | (have := escF_le r; simp; omega)
section
variable {x y : Rn} {r r' : List Rn}
theorem badF_nil : badF [] = [] := by rw [badF.eq_def]
theorem badF_shut (h : eqI x.r 41 = true) : badF (x :: r) = r := by rw [badF.eq_def]; simp only [h, if_true]
theorem badF_esc (h : eqI x.r 41 = false) (h2 : esc0 (x :: r) = true) : badF (x :: r) = badF (escF r).2 := by rw [badF.eq_def]; simp only [h, h2, if_true, Bool.false_eq_true, if_false]
theorem badF_plain (h : eqI x.r 41 = false) (h2 : esc0 (x :: r) = false) : badF (x :: r) = badF r := by rw [badF.eq_def]; simp only [h, h2, Bool.false_eq_true, if_false]
theorem urlF_nil : urlF [] = (some [], []) := by rw [urlF.eq_def]
theorem urlF_shut (h : eqI x.r 41 = true) : urlF (x :: r) = (some [], r) := by rw [urlF.eq_def]; simp only [h, if_true]
theorem urlF_bl0 (h : eqI x.r 41 = false) (h2 : blankB x.r = true) (h3 : blanks r = []) : urlF (x :: r) = (some [], []) := by rw [urlF.eq_def]; simp only [h, h2, h3, if_true, Bool.false_eq_true, if_false]
theorem urlF_bl1 (h : eqI x.r 41 = false) (h2 : blankB x.r = true) (h3 : blanks r = y :: r') (h4 : eqI y.r 41 = true) : urlF (x :: r) = (some [], r') := by rw [urlF.eq_def]; simp only [h, h2, h3, h4, if_true, Bool.false_eq_true, if_false]
theorem urlF_bl2 (h : eqI x.r 41 = false) (h2 : blankB x.r = true) (h3 : blanks r = y :: r') (h4 : eqI y.r 41 = false) : urlF (x :: r) = (none, badF (y :: r')) := by rw [urlF.eq_def]; simp only [h, h2, h3, h4, if_true, Bool.false_eq_true, if_false]
theorem urlF_bad (h : eqI x.r 41 = false) (h2 : blankB x.r = false) (h3 : urlBad x r = true) : urlF (x :: r) = (none, badF (x :: r)) := by rw [urlF.eq_def]; simp only [h, h2, h3, if_true, Bool.false_eq_true, if_false]
theorem urlF_esc (h : eqI x.r 41 = false) (h2 : blankB x.r = false) (h3 : urlBad x r = false) (h4 : eqI x.r 92 = true) : urlF (x :: r) = ((urlF (escF r).2).1.map (putB (escF r).1 ++ ·), (urlF (escF r).2).2) := by
  rw [urlF.eq_def]; simp only [h, h2, h3, h4, if_true, Bool.false_eq_true, if_false]
theorem urlF_plain (h : eqI x.r 41 = false) (h2 : blankB x.r = false) (h3 : urlBad x r = false) (h4 : eqI x.r 92 = false) : urlF (x :: r) = ((urlF r).1.map (putB x.r ++ ·), (urlF r).2) := by
  rw [urlF.eq_def]; simp only [h, h2, h3, h4, Bool.false_eq_true, if_false]
end
def commF : List Rn → List Rn × List Rn
  | [] => ([], [])
  | x :: r => if eqI x.r 42 && eqI (hd r) 47 then ([], r.drop 1) else (x :: (commF r).1, (commF r).2)
def digs (l : List Rn) : List Rn := l.dropWhile fun x => digitB x.r
def isSign (l : List Rn) : Bool := eqI (hd l) 43 || eqI (hd l) 45
def numA (l : List Rn) : List Rn := digs (if isSign l then l.drop 1 else l)
def numB (l : List Rn) : Bool × List Rn := if eqI (hd l) 46 && digitB (hd (l.drop 1)) then (false, digs (l.drop 2)) else (true, l)
def numC (f : Bool) (l : List Rn) : Bool × List Rn := if eqI (hd l) 101 || eqI (hd l) 69 then
    (let r := if isSign (l.drop 1) then l.drop 2 else l.drop 1
    if digitB (hd r) then (false, digs r) else (f, l)) else (f, l)
def numF (l : List Rn) : Bool × List Rn := numC (numB (numA l)).1 (numB (numA l)).2
def numeral0 (l : List Rn) : Bool := let r := if isSign l then l.drop 1 else l
  digitB (hd r) || (eqI (hd r) 46 && digitB (hd (r.drop 1)))
def begins0 (l : List Rn) : Bool := match l with
  | [] => false
  | x :: r => if eqI x.r 45 then startB (hd r) || eqI (hd r) 45 || esc0 r else startB x.r || esc0 (x :: r)
def follows0 : List Rn → List UInt8 → Bool
  | _, [] => true
  | l, c :: cs => eqI (hd l) (c.toNat : Nat) && follows0 (l.drop 1) cs
theorem numeral_drop (l : List Rn) (i : Nat) : numeralB l i = numeral0 (l.drop i) := by
  unfold numeralB numeral0 isSign
  rw [hd_drop]
  by_cases h : (eqI (atR l (i : Nat)) 43 || eqI (atR l (i : Nat)) 45) = true
  · rw [if_pos h, if_pos h]
    simp only
    rw [List.drop_drop, List.drop_drop, hd_drop, hd_drop]
  · rw [if_neg h, if_neg h]
    simp only
    rw [List.drop_drop, hd_drop, hd_drop]
theorem begins_drop (l : List Rn) (i : Nat) : beginsB l i = begins0 (l.drop i) := by
  cases h : l[i]? with
  | none =>
    have hl : l.length ≤ i := by simpa using h
    rw [List.drop_eq_nil_of_le hl, beginsB, decide_eq_false (by omega)]; rfl
  | some x =>
    have hl := (List.getElem?_eq_some_iff.mp h).1
    rw [beginsB, drop_cons h, begins0, decide_eq_true hl, Bool.true_and, atR_get h, hd_drop, esc_drop, esc_drop, drop_cons h]
theorem follows_drop (l : List Rn) : ∀ (s : List UInt8) (i : Nat), followsB l i s = follows0 (l.drop i) s
  | [], i => rfl
  | c :: cs, i => by rw [followsB, follows0, follows_drop l cs (i + 1), hd_drop, List.drop_drop]
end Go.Vx.Seat
end
section
open Go Go.Vx Go.Proofs
set_option maxRecDepth 10000
set_option maxHeartbeats 4000000
namespace Go.Vx.Seat
attribute [local irreducible] Rg Rt Ro Ri Rc Rto Rtk Rtf Rti Rw Rl Rd Rcall Rtcall kf
theorem ebGet {l : List Int} {i : Nat} {c : Int} (h : l[i]? = some c) : (l.map eb)[i]? = some [.d (.int .u8 c)] := get_map h
def shl6 (a : Int) : Int := IntKind.wrap .i64 (a * 2 ^ (min (6 : Int).toNat IntKind.i64.bits))
theorem xshl6 (a : Int) : xshift .shl .i64 a 6 = some (.int .i64 (shl6 a)) := by
  rw [xshift, if_neg (by omega)]; rfl
end Go.Vx.Seat
end
section
open Go Go.Vx Go.Proofs
set_option maxRecDepth 10000
set_option maxHeartbeats 4000000
namespace Go.Vx.Seat
attribute [local irreducible] Rg Rt Ro Ri Rc Rto Rtk Rtf Rti Rw Rl Rd Rcall Rtcall kf
end Go.Vx.Seat
end
section
open Go Go.Vx Go.Proofs
set_option maxRecDepth 10000
set_option maxHeartbeats 4000000
namespace Go.Vx.Seat
attribute [local irreducible] Rg Rt Ro Ri Rc Rto Rtk Rtf Rti Rw Rl Rd Rcall Rtcall kf
def tl (c : Int) : Bool := eqI (IntKind.wrap .u8 (BitVec.ofInt IntKind.u8.bits c &&& BitVec.ofInt IntKind.u8.bits 192).toNat) 128
def tv (c : Int) : Int := wrapK .i64 (IntKind.wrap .u8 (BitVec.ofInt IntKind.u8.bits c &&& BitVec.ofInt IntKind.u8.bits 63).toNat)
theorem tailX_spec (bs : List Int) (k : Nat) (c : Int) (hc : bs[k]? = some c) : PCall C1 75 [.c (.p (rB bs)), yd (.int .i64 (k : Nat))] fun y => ∃ z : Int, y = .tup [yd (.int .i64 z), yd (.bool (tl c))] ∧ (tl c = true → z = tv c) := by
  have hk := (List.getElem?_eq_some_iff.mp hc).1
  have t1 : leI (bs.length : Nat) (k : Nat) = false := leI_false (by omega)
  refine Pf (by rfl) (by rfl) fn75 (by rfl) ?_
  simp only [Try.f75, List.length_cons, List.length_nil, List.replicate, List.cons_append, List.nil_append]
  cases h1 : tl c with
  | true =>
    have h1' := h1
    unfold tl at h1'
    simp -implicitDefEqProofs only [↓yP, yT, reduceCtorEq, t1, ebGet hc, h1']
    exact ⟨_, rfl, fun _ => rfl⟩
  | false =>
    have h1' := h1
    unfold tl at h1'
    simp -implicitDefEqProofs only [↓yP, yT, reduceCtorEq, t1, ebGet hc, h1']
    exact ⟨_, rfl, fun h => by cases h⟩
theorem tailN_spec (bs : List Int) (k : Nat) (hk : bs.length ≤ k) : PCall C1 75 [.c (.p (rB bs)), yd (.int .i64 (k : Nat))] fun y => ∃ z : Int, y = .tup [yd (.int .i64 z), yd (.bool false)] := by
  have t1 : leI (bs.length : Nat) (k : Nat) = true := leI_true (by omega)
  refine Pf (by rfl) (by rfl) fn75 (by rfl) ?_
  simp only [Try.f75, List.length_cons, List.length_nil, List.replicate, List.cons_append, List.nil_append]
  simp -implicitDefEqProofs only [↓yP, yT, reduceCtorEq, t1]
  exact ⟨_, rfl⟩
def contF : Nat → Int → List Int → Option Int
  | 0, x, _ => some x
  | _ + 1, _, [] => none
  | m + 1, x, c :: r => if tl c then contF m (orI (shl6 x) (tv c)) r else none
theorem contF_succ (m : Nat) (x c : Int) (r : List Int) : contF (m + 1) x (c :: r) = if tl c then contF m (orI (shl6 x) (tv c)) r else none := rfl
theorem contF_nil (m : Nat) (x : Int) : contF (m + 1) x [] = none := rfl
def nextE (N : Nat) (L x : Int) : Int × Nat := if !leI L x || (!leI x 1114111 || (leI 55296 x && !leI 57344 x)) then (65533, 1) else (x, N)
def nextF (c : Int) (r : List Int) : Int × Nat :=
  if !leI 128 (wrapK .i64 c) then (match contF (1 - 1) (wrapK .i64 c) r with | some x => nextE 1 0 x | none => (65533, 1))
  else if !leI 192 (wrapK .i64 c) then (65533, 1)
  else if !leI 224 (wrapK .i64 c) then (match contF (2 - 1) (andI (wrapK .i64 c) 31) r with | some x => nextE 2 128 x | none => (65533, 1))
  else if !leI 240 (wrapK .i64 c) then (match contF (3 - 1) (andI (wrapK .i64 c) 15) r with | some x => nextE 3 2048 x | none => (65533, 1))
  else if !leI 248 (wrapK .i64 c) then (match contF (4 - 1) (andI (wrapK .i64 c) 7) r with | some x => nextE 4 65536 x | none => (65533, 1))
  else (65533, 1)
theorem nextX_spec (bs : List Int) (i : Nat) (c : Int) (hl : bs.length ≤ 1000000) (hc : bs[i]? = some c) : PCall C1 53 [.c (.p (rB bs)), yd (.int .i64 (i : Nat))] fun y => ∃ (r : Int) (n : Nat) (ok : Bool), y = .tup [yd (.int .i64 r), yd (.int .i64 (n : Nat)), yd (.bool ok)] ∧ 1 ≤ n ∧ i + n ≤ bs.length ∧ nextF c (bs.drop (i + 1)) = (r, n) := by
  have hi := (List.getElem?_eq_some_iff.mp hc).1
  refine Pf (by rfl) (by rfl) fn53 (by rfl) ?_
  simp only [Try.f53, List.length_cons, List.length_nil, List.replicate, List.cons_append, List.nil_append]
  have t0 : leI 0 (i : Nat) = true := leI_true (by omega)
  have t1 : leI (bs.length : Nat) (i : Nat) = false := leI_false (by omega)
  cases h1 : leI 128 (wrapK .i64 c) with
  | false =>
    simp -implicitDefEqProofs only [↓yP, yT, t0, t1, ebGet hc, h1]
    have hnx : nextF c (bs.drop (i + 1)) = (match contF (1 - 1) (wrapK .i64 c) (bs.drop (i + 1)) with | some x => nextE 1 0 x | none => (65533, 1)) := by
      simp only [nextF, h1, Bool.not_false, if_true]
    refine Rl_inv (fun d e s => ∃ (j : Nat) (x : Int), e = [.c (.p (rB bs)), yd (.int .i64 (i : Nat)), Tp, Tp, Tp, Tp, Tp, Tp, yd (.int .i64 1), yd (.int .i64 x), yd (.int .i64 0), yd (.int .i64 (j : Nat)), Tp, Tp, Tp, Tp, Tp, Tp, Tp, Tp, Tp, Tp, Tp, Tp, Tp, Tp, Tp, Tp, Tp, Tp, Tp, Tp, Tp, Tp, Tp, Tp, Tp, Tp, Tp, Tp, Tp, Tp, Tp, Tp, Tp, Tp, Tp, Tp, Tp, Tp, Tp, Tp, Tp, Tp, Tp, Tp, Tp, Tp, Tp, Tp, Tp, Tp, Tp, Tp, Tp, Tp, Tp, Tp, Tp, Tp, Tp, Tp, Tp, Tp, Tp, Tp, Tp, Tp, Tp, Tp, Tp, Tp, Tp, Tp, Tp, Tp, Tp, Tp, Tp, Tp, Tp, Tp, Tp, Tp] ∧ s = [] ∧ j + d = 1 ∧ 1 ≤ j ∧ i + j ≤ bs.length ∧ contF (1 - 1) (wrapK .i64 c) (bs.drop (i + 1)) = contF (1 - j) x ((bs.drop (i + 1)).drop (j - 1))) [true, true, false, false, false, false, false, false, true, true, true, true] (1 - 1) [] (by decide) (pinned_zero _) ⟨1, wrapK .i64 c, by (simp only [yE]; try rfl), by (simp only [yE]; try rfl), by omega, by omega, by omega, rfl⟩ ?_
    rintro d e s ⟨j, x, rfl, rfl, hd, hj, hij, hcont⟩
    by_cases hjn : j < 1
    · have t1 : leI 1 (j : Nat) = false := leI_false (by omega)
      have w2 : wrapK .i64 ((i : Int) + (j : Nat)) = ((i + j : Nat) : Int) := wrap_nat (i := i + j) (by omega)
      have w1 : wrapK .i64 ((j : Int) + 1) = ((j + 1 : Nat) : Int) := wrap_succ (by omega)
      have hdd : (bs.drop (i + 1)).drop (j - 1) = bs.drop (i + j) := by rw [List.drop_drop]; congr 1; omega
      simp -implicitDefEqProofs only [↓yP, yT, Nat.reduceSub, t1, w2]
      by_cases hlt : i + j < bs.length
      · obtain ⟨cj, hcj⟩ := get_lt hlt
        have hdj : bs.drop (i + j) = cj :: bs.drop (i + j + 1) := drop_cons hcj
        refine Rcall_pure (tailX_spec bs (i + j) cj hcj) (by rfl) fun y hy => ?_
        obtain ⟨z, rfl, hz⟩ := hy
        rw [hdd, hdj, show 1 - j = (1 - (j + 1)) + 1 by omega, contF_succ] at hcont
        cases hb : tl cj with
        | false =>
          rw [hb] at hcont
          simp only [Bool.false_eq_true, if_false] at hcont
          have hn0 : nextF c (bs.drop (i + 1)) = (65533, 1) := by rw [hnx, hcont]
          rw [hn0]
          simp -implicitDefEqProofs only [↓yP, yT, reduceCtorEq]
          exact ⟨_, 1, _, rfl, by omega, by omega, rfl⟩
        | true =>
          rw [hb] at hcont
          simp only [if_true] at hcont
          rw [hz hb]
          simp -implicitDefEqProofs only [↓yP, yT, w1, xshl6]
          refine ⟨d - 1, [], by omega, by decide, pinned_zero _, j + 1, orI (shl6 x) (tv cj), by (simp only [yE]; try rfl), rfl, by omega, by omega, by omega, ?_⟩
          rw [hcont, List.drop_drop, show j + 1 - 1 = j by omega, show i + j + 1 = i + 1 + j by omega]
      · have hdn : bs.drop (i + j) = [] := List.drop_eq_nil_of_le (by omega)
        rw [hdd, hdn, show 1 - j = (1 - (j + 1)) + 1 by omega, contF_nil] at hcont
        have hn0 : nextF c (bs.drop (i + 1)) = (65533, 1) := by rw [hnx, hcont]
        rw [hn0]
        refine Rcall_pure (tailN_spec bs (i + j) (by omega)) (by rfl) fun y hy => ?_
        obtain ⟨z, rfl⟩ := hy
        simp -implicitDefEqProofs only [↓yP, yT, reduceCtorEq]
        exact ⟨_, 1, _, rfl, by omega, by omega, rfl⟩
    · have t1 : leI 1 (j : Nat) = true := leI_true (by omega)
      simp -implicitDefEqProofs only [↓yP, yT, t1]
      have hco : contF (1 - j) x ((bs.drop (i + 1)).drop (j - 1)) = some x := by rw [show 1 - j = 0 by omega]; rfl
      rw [hco] at hcont
      have hn0 : nextF c (bs.drop (i + 1)) = nextE 1 0 x := by rw [hnx, hcont]
      rw [hn0]
      cases f1 : leI 0 x with
      | false =>
        simp -implicitDefEqProofs only [↓yP, yT, reduceCtorEq]
        exact ⟨_, 1, _, rfl, by omega, by omega, by simp only [nextE, f1, Bool.not_false, Bool.true_or, if_true]⟩
      | true =>
        cases f2 : leI x 1114111 with
        | false =>
          simp -implicitDefEqProofs only [↓yP, yT, reduceCtorEq, f2]
          exact ⟨_, 1, _, rfl, by omega, by omega, by simp only [nextE, f1, f2, Bool.not_false, Bool.not_true, Bool.false_or, Bool.true_or, if_true]⟩
        | true =>
          cases f3 : leI 55296 x with
          | false =>
            simp -implicitDefEqProofs only [↓yP, yT, reduceCtorEq, f2, f3]
            exact ⟨_, 1, _, rfl, by omega, by omega, by simp only [nextE, f1, f2, f3, Bool.not_true, Bool.false_or, Bool.false_and, Bool.false_eq_true, if_false]⟩
          | true =>
            cases f4 : leI 57344 x with
            | false =>
              simp -implicitDefEqProofs only [↓yP, yT, reduceCtorEq, f2, f3, f4]
              exact ⟨_, 1, _, rfl, by omega, by omega, by simp only [nextE, f1, f2, f3, f4, Bool.not_true, Bool.not_false, Bool.false_or, Bool.true_and, if_true]⟩
            | true =>
              simp -implicitDefEqProofs only [↓yP, yT, reduceCtorEq, f2, f3, f4]
              exact ⟨_, 1, _, rfl, by omega, by omega, by simp only [nextE, f1, f2, f3, f4, Bool.not_true, Bool.false_or, Bool.and_false, Bool.false_eq_true, if_false]⟩
  | true =>
    have h1' := of_leT h1
    cases h2 : leI 192 (wrapK .i64 c) with
    | false =>
      have h2' := of_leF h2
      have h3 : leI 224 (wrapK .i64 c) = false := leI_false (by omega)
      have h4 : leI 240 (wrapK .i64 c) = false := leI_false (by omega)
      simp -implicitDefEqProofs only [↓yP, yT, reduceCtorEq, t0, t1, ebGet hc, h1, h2, h3, h4]
      exact ⟨_, 1, _, rfl, by omega, by omega, by simp only [nextF, h1, h2, Bool.not_true, Bool.not_false, Bool.false_eq_true, if_false, if_true]⟩
    | true =>
      cases h3 : leI 224 (wrapK .i64 c) with
      | false =>
        simp -implicitDefEqProofs only [↓yP, yT, t0, t1, ebGet hc, h1, h2, h3]
        have hnx : nextF c (bs.drop (i + 1)) = (match contF (2 - 1) (andI (wrapK .i64 c) 31) (bs.drop (i + 1)) with | some x => nextE 2 128 x | none => (65533, 1)) := by
          simp only [nextF, h1, h2, h3, Bool.not_true, Bool.not_false, Bool.false_eq_true, if_false, if_true]
        refine Rl_inv (fun d e s => ∃ (j : Nat) (x : Int), e = [.c (.p (rB bs)), yd (.int .i64 (i : Nat)), Tp, Tp, Tp, Tp, Tp, Tp, yd (.int .i64 2), yd (.int .i64 x), yd (.int .i64 128), yd (.int .i64 (j : Nat)), Tp, Tp, Tp, Tp, Tp, Tp, Tp, Tp, Tp, Tp, Tp, Tp, Tp, Tp, Tp, Tp, Tp, Tp, Tp, Tp, Tp, Tp, Tp, Tp, Tp, Tp, Tp, Tp, Tp, Tp, Tp, Tp, Tp, Tp, Tp, Tp, Tp, Tp, Tp, Tp, Tp, Tp, Tp, Tp, Tp, Tp, Tp, Tp, Tp, Tp, Tp, Tp, Tp, Tp, Tp, Tp, Tp, Tp, Tp, Tp, Tp, Tp, Tp, Tp, Tp, Tp, Tp, Tp, Tp, Tp, Tp, Tp, Tp, Tp, Tp, Tp, Tp, Tp, Tp, Tp, Tp, Tp] ∧ s = [] ∧ j + d = 2 ∧ 1 ≤ j ∧ i + j ≤ bs.length ∧ contF (2 - 1) (andI (wrapK .i64 c) 31) (bs.drop (i + 1)) = contF (2 - j) x ((bs.drop (i + 1)).drop (j - 1))) [true, true, false, false, false, false, false, false, true, true, true, true] (2 - 1) [] (by decide) (pinned_zero _) ⟨1, andI (wrapK .i64 c) 31, by (simp only [yE]; try rfl), by (simp only [yE]; try rfl), by omega, by omega, by omega, rfl⟩ ?_
        rintro d e s ⟨j, x, rfl, rfl, hd, hj, hij, hcont⟩
        by_cases hjn : j < 2
        · have t1 : leI 2 (j : Nat) = false := leI_false (by omega)
          have w2 : wrapK .i64 ((i : Int) + (j : Nat)) = ((i + j : Nat) : Int) := wrap_nat (i := i + j) (by omega)
          have w1 : wrapK .i64 ((j : Int) + 1) = ((j + 1 : Nat) : Int) := wrap_succ (by omega)
          have hdd : (bs.drop (i + 1)).drop (j - 1) = bs.drop (i + j) := by rw [List.drop_drop]; congr 1; omega
          simp -implicitDefEqProofs only [↓yP, yT, Nat.reduceSub, t1, w2]
          by_cases hlt : i + j < bs.length
          · obtain ⟨cj, hcj⟩ := get_lt hlt
            have hdj : bs.drop (i + j) = cj :: bs.drop (i + j + 1) := drop_cons hcj
            refine Rcall_pure (tailX_spec bs (i + j) cj hcj) (by rfl) fun y hy => ?_
            obtain ⟨z, rfl, hz⟩ := hy
            rw [hdd, hdj, show 2 - j = (2 - (j + 1)) + 1 by omega, contF_succ] at hcont
            cases hb : tl cj with
            | false =>
              rw [hb] at hcont
              simp only [Bool.false_eq_true, if_false] at hcont
              have hn0 : nextF c (bs.drop (i + 1)) = (65533, 1) := by rw [hnx, hcont]
              rw [hn0]
              simp -implicitDefEqProofs only [↓yP, yT, reduceCtorEq]
              exact ⟨_, 1, _, rfl, by omega, by omega, rfl⟩
            | true =>
              rw [hb] at hcont
              simp only [if_true] at hcont
              rw [hz hb]
              simp -implicitDefEqProofs only [↓yP, yT, w1, xshl6]
              refine ⟨d - 1, [], by omega, by decide, pinned_zero _, j + 1, orI (shl6 x) (tv cj), by (simp only [yE]; try rfl), rfl, by omega, by omega, by omega, ?_⟩
              rw [hcont, List.drop_drop, show j + 1 - 1 = j by omega, show i + j + 1 = i + 1 + j by omega]
          · have hdn : bs.drop (i + j) = [] := List.drop_eq_nil_of_le (by omega)
            rw [hdd, hdn, show 2 - j = (2 - (j + 1)) + 1 by omega, contF_nil] at hcont
            have hn0 : nextF c (bs.drop (i + 1)) = (65533, 1) := by rw [hnx, hcont]
            rw [hn0]
            refine Rcall_pure (tailN_spec bs (i + j) (by omega)) (by rfl) fun y hy => ?_
            obtain ⟨z, rfl⟩ := hy
            simp -implicitDefEqProofs only [↓yP, yT, reduceCtorEq]
            exact ⟨_, 1, _, rfl, by omega, by omega, rfl⟩
        · have t1 : leI 2 (j : Nat) = true := leI_true (by omega)
          simp -implicitDefEqProofs only [↓yP, yT, t1]
          have hco : contF (2 - j) x ((bs.drop (i + 1)).drop (j - 1)) = some x := by rw [show 2 - j = 0 by omega]; rfl
          rw [hco] at hcont
          have hn0 : nextF c (bs.drop (i + 1)) = nextE 2 128 x := by rw [hnx, hcont]
          rw [hn0]
          cases f1 : leI 128 x with
          | false =>
            simp -implicitDefEqProofs only [↓yP, yT, reduceCtorEq]
            exact ⟨_, 1, _, rfl, by omega, by omega, by simp only [nextE, f1, Bool.not_false, Bool.true_or, if_true]⟩
          | true =>
            cases f2 : leI x 1114111 with
            | false =>
              simp -implicitDefEqProofs only [↓yP, yT, reduceCtorEq, f2]
              exact ⟨_, 1, _, rfl, by omega, by omega, by simp only [nextE, f1, f2, Bool.not_false, Bool.not_true, Bool.false_or, Bool.true_or, if_true]⟩
            | true =>
              cases f3 : leI 55296 x with
              | false =>
                simp -implicitDefEqProofs only [↓yP, yT, reduceCtorEq, f2, f3]
                exact ⟨_, 2, _, rfl, by omega, by omega, by simp only [nextE, f1, f2, f3, Bool.not_true, Bool.false_or, Bool.false_and, Bool.false_eq_true, if_false]⟩
              | true =>
                cases f4 : leI 57344 x with
                | false =>
                  simp -implicitDefEqProofs only [↓yP, yT, reduceCtorEq, f2, f3, f4]
                  exact ⟨_, 1, _, rfl, by omega, by omega, by simp only [nextE, f1, f2, f3, f4, Bool.not_true, Bool.not_false, Bool.false_or, Bool.true_and, if_true]⟩
                | true =>
                  simp -implicitDefEqProofs only [↓yP, yT, reduceCtorEq, f2, f3, f4]
                  exact ⟨_, 2, _, rfl, by omega, by omega, by simp only [nextE, f1, f2, f3, f4, Bool.not_true, Bool.false_or, Bool.and_false, Bool.false_eq_true, if_false]⟩
      | true =>
        cases h4 : leI 240 (wrapK .i64 c) with
        | false =>
          simp -implicitDefEqProofs only [↓yP, yT, t0, t1, ebGet hc, h1, h2, h3, h4]
          have hnx : nextF c (bs.drop (i + 1)) = (match contF (3 - 1) (andI (wrapK .i64 c) 15) (bs.drop (i + 1)) with | some x => nextE 3 2048 x | none => (65533, 1)) := by
            simp only [nextF, h1, h2, h3, h4, Bool.not_true, Bool.not_false, Bool.false_eq_true, if_false, if_true]
          refine Rl_inv (fun d e s => ∃ (j : Nat) (x : Int), e = [.c (.p (rB bs)), yd (.int .i64 (i : Nat)), Tp, Tp, Tp, Tp, Tp, Tp, yd (.int .i64 3), yd (.int .i64 x), yd (.int .i64 2048), yd (.int .i64 (j : Nat)), Tp, Tp, Tp, Tp, Tp, Tp, Tp, Tp, Tp, Tp, Tp, Tp, Tp, Tp, Tp, Tp, Tp, Tp, Tp, Tp, Tp, Tp, Tp, Tp, Tp, Tp, Tp, Tp, Tp, Tp, Tp, Tp, Tp, Tp, Tp, Tp, Tp, Tp, Tp, Tp, Tp, Tp, Tp, Tp, Tp, Tp, Tp, Tp, Tp, Tp, Tp, Tp, Tp, Tp, Tp, Tp, Tp, Tp, Tp, Tp, Tp, Tp, Tp, Tp, Tp, Tp, Tp, Tp, Tp, Tp, Tp, Tp, Tp, Tp, Tp, Tp, Tp, Tp, Tp, Tp, Tp, Tp] ∧ s = [] ∧ j + d = 3 ∧ 1 ≤ j ∧ i + j ≤ bs.length ∧ contF (3 - 1) (andI (wrapK .i64 c) 15) (bs.drop (i + 1)) = contF (3 - j) x ((bs.drop (i + 1)).drop (j - 1))) [true, true, false, false, false, false, false, false, true, true, true, true] (3 - 1) [] (by decide) (pinned_zero _) ⟨1, andI (wrapK .i64 c) 15, by (simp only [yE]; try rfl), by (simp only [yE]; try rfl), by omega, by omega, by omega, rfl⟩ ?_
          rintro d e s ⟨j, x, rfl, rfl, hd, hj, hij, hcont⟩
          by_cases hjn : j < 3
          · have t1 : leI 3 (j : Nat) = false := leI_false (by omega)
            have w2 : wrapK .i64 ((i : Int) + (j : Nat)) = ((i + j : Nat) : Int) := wrap_nat (i := i + j) (by omega)
            have w1 : wrapK .i64 ((j : Int) + 1) = ((j + 1 : Nat) : Int) := wrap_succ (by omega)
            have hdd : (bs.drop (i + 1)).drop (j - 1) = bs.drop (i + j) := by rw [List.drop_drop]; congr 1; omega
            simp -implicitDefEqProofs only [↓yP, yT, Nat.reduceSub, t1, w2]
            by_cases hlt : i + j < bs.length
            · obtain ⟨cj, hcj⟩ := get_lt hlt
              have hdj : bs.drop (i + j) = cj :: bs.drop (i + j + 1) := drop_cons hcj
              refine Rcall_pure (tailX_spec bs (i + j) cj hcj) (by rfl) fun y hy => ?_
              obtain ⟨z, rfl, hz⟩ := hy
              rw [hdd, hdj, show 3 - j = (3 - (j + 1)) + 1 by omega, contF_succ] at hcont
              cases hb : tl cj with
              | false =>
                rw [hb] at hcont
                simp only [Bool.false_eq_true, if_false] at hcont
                have hn0 : nextF c (bs.drop (i + 1)) = (65533, 1) := by rw [hnx, hcont]
                rw [hn0]
                simp -implicitDefEqProofs only [↓yP, yT, reduceCtorEq]
                exact ⟨_, 1, _, rfl, by omega, by omega, rfl⟩
              | true =>
                rw [hb] at hcont
                simp only [if_true] at hcont
                rw [hz hb]
                simp -implicitDefEqProofs only [↓yP, yT, w1, xshl6]
                refine ⟨d - 1, [], by omega, by decide, pinned_zero _, j + 1, orI (shl6 x) (tv cj), by (simp only [yE]; try rfl), rfl, by omega, by omega, by omega, ?_⟩
                rw [hcont, List.drop_drop, show j + 1 - 1 = j by omega, show i + j + 1 = i + 1 + j by omega]
            · have hdn : bs.drop (i + j) = [] := List.drop_eq_nil_of_le (by omega)
              rw [hdd, hdn, show 3 - j = (3 - (j + 1)) + 1 by omega, contF_nil] at hcont
              have hn0 : nextF c (bs.drop (i + 1)) = (65533, 1) := by rw [hnx, hcont]
              rw [hn0]
              refine Rcall_pure (tailN_spec bs (i + j) (by omega)) (by rfl) fun y hy => ?_
              obtain ⟨z, rfl⟩ := hy
              simp -implicitDefEqProofs only [↓yP, yT, reduceCtorEq]
              exact ⟨_, 1, _, rfl, by omega, by omega, rfl⟩
          · have t1 : leI 3 (j : Nat) = true := leI_true (by omega)
            simp -implicitDefEqProofs only [↓yP, yT, t1]
            have hco : contF (3 - j) x ((bs.drop (i + 1)).drop (j - 1)) = some x := by rw [show 3 - j = 0 by omega]; rfl
            rw [hco] at hcont
            have hn0 : nextF c (bs.drop (i + 1)) = nextE 3 2048 x := by rw [hnx, hcont]
            rw [hn0]
            cases f1 : leI 2048 x with
            | false =>
              simp -implicitDefEqProofs only [↓yP, yT, reduceCtorEq]
              exact ⟨_, 1, _, rfl, by omega, by omega, by simp only [nextE, f1, Bool.not_false, Bool.true_or, if_true]⟩
            | true =>
              cases f2 : leI x 1114111 with
              | false =>
                simp -implicitDefEqProofs only [↓yP, yT, reduceCtorEq, f2]
                exact ⟨_, 1, _, rfl, by omega, by omega, by simp only [nextE, f1, f2, Bool.not_false, Bool.not_true, Bool.false_or, Bool.true_or, if_true]⟩
              | true =>
                cases f3 : leI 55296 x with
                | false =>
                  simp -implicitDefEqProofs only [↓yP, yT, reduceCtorEq, f2, f3]
                  exact ⟨_, 3, _, rfl, by omega, by omega, by simp only [nextE, f1, f2, f3, Bool.not_true, Bool.false_or, Bool.false_and, Bool.false_eq_true, if_false]⟩
                | true =>
                  cases f4 : leI 57344 x with
                  | false =>
                    simp -implicitDefEqProofs only [↓yP, yT, reduceCtorEq, f2, f3, f4]
                    exact ⟨_, 1, _, rfl, by omega, by omega, by simp only [nextE, f1, f2, f3, f4, Bool.not_true, Bool.not_false, Bool.false_or, Bool.true_and, if_true]⟩
                  | true =>
                    simp -implicitDefEqProofs only [↓yP, yT, reduceCtorEq, f2, f3, f4]
                    exact ⟨_, 3, _, rfl, by omega, by omega, by simp only [nextE, f1, f2, f3, f4, Bool.not_true, Bool.false_or, Bool.and_false, Bool.false_eq_true, if_false]⟩
        | true =>
          cases h5 : leI 248 (wrapK .i64 c) with
          | false =>
            simp -implicitDefEqProofs only [↓yP, yT, t0, t1, ebGet hc, h1, h2, h3, h4, h5]
            have hnx : nextF c (bs.drop (i + 1)) = (match contF (4 - 1) (andI (wrapK .i64 c) 7) (bs.drop (i + 1)) with | some x => nextE 4 65536 x | none => (65533, 1)) := by
              simp only [nextF, h1, h2, h3, h4, h5, Bool.not_true, Bool.not_false, Bool.false_eq_true, if_false, if_true]
            refine Rl_inv (fun d e s => ∃ (j : Nat) (x : Int), e = [.c (.p (rB bs)), yd (.int .i64 (i : Nat)), Tp, Tp, Tp, Tp, Tp, Tp, yd (.int .i64 4), yd (.int .i64 x), yd (.int .i64 65536), yd (.int .i64 (j : Nat)), Tp, Tp, Tp, Tp, Tp, Tp, Tp, Tp, Tp, Tp, Tp, Tp, Tp, Tp, Tp, Tp, Tp, Tp, Tp, Tp, Tp, Tp, Tp, Tp, Tp, Tp, Tp, Tp, Tp, Tp, Tp, Tp, Tp, Tp, Tp, Tp, Tp, Tp, Tp, Tp, Tp, Tp, Tp, Tp, Tp, Tp, Tp, Tp, Tp, Tp, Tp, Tp, Tp, Tp, Tp, Tp, Tp, Tp, Tp, Tp, Tp, Tp, Tp, Tp, Tp, Tp, Tp, Tp, Tp, Tp, Tp, Tp, Tp, Tp, Tp, Tp, Tp, Tp, Tp, Tp, Tp, Tp] ∧ s = [] ∧ j + d = 4 ∧ 1 ≤ j ∧ i + j ≤ bs.length ∧ contF (4 - 1) (andI (wrapK .i64 c) 7) (bs.drop (i + 1)) = contF (4 - j) x ((bs.drop (i + 1)).drop (j - 1))) [true, true, false, false, false, false, false, false, true, true, true, true] (4 - 1) [] (by decide) (pinned_zero _) ⟨1, andI (wrapK .i64 c) 7, by (simp only [yE]; try rfl), by (simp only [yE]; try rfl), by omega, by omega, by omega, rfl⟩ ?_
            rintro d e s ⟨j, x, rfl, rfl, hd, hj, hij, hcont⟩
            by_cases hjn : j < 4
            · have t1 : leI 4 (j : Nat) = false := leI_false (by omega)
              have w2 : wrapK .i64 ((i : Int) + (j : Nat)) = ((i + j : Nat) : Int) := wrap_nat (i := i + j) (by omega)
              have w1 : wrapK .i64 ((j : Int) + 1) = ((j + 1 : Nat) : Int) := wrap_succ (by omega)
              have hdd : (bs.drop (i + 1)).drop (j - 1) = bs.drop (i + j) := by rw [List.drop_drop]; congr 1; omega
              simp -implicitDefEqProofs only [↓yP, yT, Nat.reduceSub, t1, w2]
              by_cases hlt : i + j < bs.length
              · obtain ⟨cj, hcj⟩ := get_lt hlt
                have hdj : bs.drop (i + j) = cj :: bs.drop (i + j + 1) := drop_cons hcj
                refine Rcall_pure (tailX_spec bs (i + j) cj hcj) (by rfl) fun y hy => ?_
                obtain ⟨z, rfl, hz⟩ := hy
                rw [hdd, hdj, show 4 - j = (4 - (j + 1)) + 1 by omega, contF_succ] at hcont
                cases hb : tl cj with
                | false =>
                  rw [hb] at hcont
                  simp only [Bool.false_eq_true, if_false] at hcont
                  have hn0 : nextF c (bs.drop (i + 1)) = (65533, 1) := by rw [hnx, hcont]
                  rw [hn0]
                  simp -implicitDefEqProofs only [↓yP, yT, reduceCtorEq]
                  exact ⟨_, 1, _, rfl, by omega, by omega, rfl⟩
                | true =>
                  rw [hb] at hcont
                  simp only [if_true] at hcont
                  rw [hz hb]
                  simp -implicitDefEqProofs only [↓yP, yT, w1, xshl6]
                  refine ⟨d - 1, [], by omega, by decide, pinned_zero _, j + 1, orI (shl6 x) (tv cj), by (simp only [yE]; try rfl), rfl, by omega, by omega, by omega, ?_⟩
                  rw [hcont, List.drop_drop, show j + 1 - 1 = j by omega, show i + j + 1 = i + 1 + j by omega]
              · have hdn : bs.drop (i + j) = [] := List.drop_eq_nil_of_le (by omega)
                rw [hdd, hdn, show 4 - j = (4 - (j + 1)) + 1 by omega, contF_nil] at hcont
                have hn0 : nextF c (bs.drop (i + 1)) = (65533, 1) := by rw [hnx, hcont]
                rw [hn0]
                refine Rcall_pure (tailN_spec bs (i + j) (by omega)) (by rfl) fun y hy => ?_
                obtain ⟨z, rfl⟩ := hy
                simp -implicitDefEqProofs only [↓yP, yT, reduceCtorEq]
                exact ⟨_, 1, _, rfl, by omega, by omega, rfl⟩
            · have t1 : leI 4 (j : Nat) = true := leI_true (by omega)
              simp -implicitDefEqProofs only [↓yP, yT, t1]
              have hco : contF (4 - j) x ((bs.drop (i + 1)).drop (j - 1)) = some x := by rw [show 4 - j = 0 by omega]; rfl
              rw [hco] at hcont
              have hn0 : nextF c (bs.drop (i + 1)) = nextE 4 65536 x := by rw [hnx, hcont]
              rw [hn0]
              cases f1 : leI 65536 x with
              | false =>
                simp -implicitDefEqProofs only [↓yP, yT, reduceCtorEq]
                exact ⟨_, 1, _, rfl, by omega, by omega, by simp only [nextE, f1, Bool.not_false, Bool.true_or, if_true]⟩
              | true =>
                cases f2 : leI x 1114111 with
                | false =>
                  simp -implicitDefEqProofs only [↓yP, yT, reduceCtorEq, f2]
                  exact ⟨_, 1, _, rfl, by omega, by omega, by simp only [nextE, f1, f2, Bool.not_false, Bool.not_true, Bool.false_or, Bool.true_or, if_true]⟩
                | true =>
                  cases f3 : leI 55296 x with
                  | false =>
                    simp -implicitDefEqProofs only [↓yP, yT, reduceCtorEq, f2, f3]
                    exact ⟨_, 4, _, rfl, by omega, by omega, by simp only [nextE, f1, f2, f3, Bool.not_true, Bool.false_or, Bool.false_and, Bool.false_eq_true, if_false]⟩
                  | true =>
                    cases f4 : leI 57344 x with
                    | false =>
                      simp -implicitDefEqProofs only [↓yP, yT, reduceCtorEq, f2, f3, f4]
                      exact ⟨_, 1, _, rfl, by omega, by omega, by simp only [nextE, f1, f2, f3, f4, Bool.not_true, Bool.not_false, Bool.false_or, Bool.true_and, if_true]⟩
                    | true =>
                      simp -implicitDefEqProofs only [↓yP, yT, reduceCtorEq, f2, f3, f4]
                      exact ⟨_, 4, _, rfl, by omega, by omega, by simp only [nextE, f1, f2, f3, f4, Bool.not_true, Bool.false_or, Bool.and_false, Bool.false_eq_true, if_false]⟩
          | true =>
            simp -implicitDefEqProofs only [↓yP, yT, reduceCtorEq, t0, t1, ebGet hc, h1, h2, h3, h4, h5]
            exact ⟨_, 1, _, rfl, by omega, by omega, by simp only [nextF, h1, h2, h3, h4, h5, Bool.not_true, Bool.false_eq_true, if_false]⟩
def crlf (r : List Int) : List Int := match r with | c :: r' => if eqI c 10 then r' else c :: r' | [] => []
def runeF (x : Int) (r : List Int) : Int × List Int := if eqI x 0 then (65533, r) else if eqI x 12 then (10, r) else if eqI x 13 then (10, crlf r) else (x, r)
theorem crlf_le (r : List Int) : (crlf r).length ≤ r.length := by unfold crlf; split <;> first | (split <;> simp) | simp
theorem runeF_le (x : Int) (r : List Int) : (runeF x r).2.length ≤ r.length := by
  have := crlf_le r
  unfold runeF
  split
  · simp
  · split
    · simp
    · split
      · exact this
      · simp
def runesF (pos : Nat) (bs : List Int) : List Rn := match bs with
  | [] => []
  | c :: r => ⟨(runeF (nextF c r).1 (r.drop ((nextF c r).2 - 1))).1, (pos : Nat)⟩ :: runesF (pos + ((c :: r).length - (runeF (nextF c r).1 (r.drop ((nextF c r).2 - 1))).2.length)) (runeF (nextF c r).1 (r.drop ((nextF c r).2 - 1))).2
termination_by bs.length
decreasing_by
  have h1 := runeF_le (nextF c r).1 (r.drop ((nextF c r).2 - 1))
  simp at h1 ⊢; omega
theorem runesF_nil (pos : Nat) : runesF pos [] = [] := by rw [runesF]
theorem runesF_cons {bs : List Int} {i : Nat} {c : Int} (hc : bs[i]? = some c) (pos : Nat) : runesF pos (bs.drop i) = ⟨(runeF (nextF c (bs.drop (i + 1))).1 ((bs.drop (i + 1)).drop ((nextF c (bs.drop (i + 1))).2 - 1))).1, (pos : Nat)⟩ ::
    runesF (pos + ((bs.drop i).length - (runeF (nextF c (bs.drop (i + 1))).1 ((bs.drop (i + 1)).drop ((nextF c (bs.drop (i + 1))).2 - 1))).2.length)) (runeF (nextF c (bs.drop (i + 1))).1 ((bs.drop (i + 1)).drop ((nextF c (bs.drop (i + 1))).2 - 1))).2 := by
  rw [drop_cons hc, runesF]
theorem runesX_spec (bs : List Int) (hl : bs.length ≤ 1000000) : PCall C1 33 [.c (.p (rB bs))] fun y => y = .c (.p (rR (runesF 0 bs))) := by
  refine Pf (by rfl) (by rfl) fn33 (by rfl) ?_
  simp only [Try.f33, List.length_cons, List.length_nil, List.replicate, List.cons_append, List.nil_append]
  simp -implicitDefEqProofs only [↓yP, yT]
  refine Rl_nil 3 2 (by decide) rfl ?_
  refine Rl_inv (fun d e s => ∃ (i : Nat) (rs : List Rn), e = [.c (.p (rB bs)), Tp, Tp, .c (.own 0 2 0 rs.length), yd (.int .i64 (i : Nat)), Tp, Tp, Tp, Tp, Tp, Tp, Tp, Tp, Tp, Tp, Tp, Tp, Tp, Tp, Tp, Tp, Tp, Tp, Tp, Tp, Tp, Tp, Tp, Tp, Tp, Tp, Tp, Tp, Tp, Tp, Tp, Tp, Tp, Tp, Tp, Tp, Tp, Tp, Tp, Tp, Tp, Tp, Tp, Tp, Tp, Tp, Tp, Tp] ∧ s = [.row 2 (rs.map Rn.pc)] ∧ i + d = bs.length ∧ rs.length ≤ i ∧ runesF 0 bs = rs ++ runesF i (bs.drop i)) [true, false, false, true, true] bs.length [0] (by decide) (pinned_zero _) ⟨0, [], by (simp only [yE]; try rfl), by (simp only [yE]; try rfl), by omega, by simp, by simp⟩ ?_
  rintro d e s ⟨i, rs, rfl, rfl, hd, hrl, hrf⟩
  by_cases hi : i < bs.length
  · obtain ⟨c, hc⟩ := get_lt hi
    have t1 : leI (bs.length : Nat) (i : Nat) = false := leI_false (by omega)
    have b1 : (rs.length + 1) * 16 ≤ 70368744177664 := by omega
    simp -implicitDefEqProofs only [↓yP, yT, t1]
    refine Rcall_pure (nextX_spec bs i c hl hc) (by rfl) fun y hy => ?_
    obtain ⟨r, n, ok, rfl, hn1, hn2, hnx⟩ := hy
    have w2 : wrapK .i64 ((i : Int) + (n : Nat)) = ((i + n : Nat) : Int) := wrap_nat (i := i + n) (by omega)
    have w3 : wrapK .i64 (((i + n : Nat) : Int) + 1) = ((i + n + 1 : Nat) : Int) := wrap_succ (by omega)
    have hdk : (bs.drop (i + 1)).drop (n - 1) = bs.drop (i + n) := by rw [List.drop_drop]; congr 1; omega
    have hst : runesF i (bs.drop i) = ⟨(runeF r (bs.drop (i + n))).1, (i : Nat)⟩ :: runesF (i + ((bs.drop i).length - (runeF r (bs.drop (i + n))).2.length)) (runeF r (bs.drop (i + n))).2 := by rw [runesF_cons hc, hnx]; simp only [hdk]
    have hln : i + ((bs.drop i).length - (bs.drop (i + n)).length) = i + n := by simp; omega
    rw [hst] at hrf
    cases h0 : eqI r 0 with
    | true =>
      simp only [runeF, h0, if_true] at hrf
      rw [hln] at hrf
      simp -implicitDefEqProofs only [↓yP, yT, Nat.reduceAdd, Nat.reduceMul, Nat.reduceLeDiff, reduceCtorEq, w2, h0, b1]
      refine ⟨bs.length - (i + n), [2], by omega, by decide, pinned_zero _, i + n, rs ++ [⟨65533, (i : Nat)⟩], by (simp only [yE]; try rfl), ?_, by omega, by simp; omega, by rw [hrf]; simp⟩
      simp only [yE, List.map_append]; rfl
    | false =>
      cases h12 : eqI r 12 with
      | true =>
        simp only [runeF, h0, h12, if_true, Bool.false_eq_true, if_false] at hrf
        rw [hln] at hrf
        simp -implicitDefEqProofs only [↓yP, yT, Nat.reduceAdd, Nat.reduceMul, Nat.reduceLeDiff, reduceCtorEq, w2, h0, h12, b1]
        refine ⟨bs.length - (i + n), [2], by omega, by decide, pinned_zero _, i + n, rs ++ [⟨10, (i : Nat)⟩], by (simp only [yE]; try rfl), ?_, by omega, by simp; omega, by rw [hrf]; simp⟩
        simp only [yE, List.map_append]; rfl
      | false =>
        cases h13 : eqI r 13 with
        | false =>
          simp only [runeF, h0, h12, h13, Bool.false_eq_true, if_false] at hrf
          rw [hln] at hrf
          simp -implicitDefEqProofs only [↓yP, yT, Nat.reduceAdd, Nat.reduceMul, Nat.reduceLeDiff, reduceCtorEq, w2, h0, h12, h13, b1]
          refine ⟨bs.length - (i + n), [2], by omega, by decide, pinned_zero _, i + n, rs ++ [⟨r, (i : Nat)⟩], by (simp only [yE]; try rfl), ?_, by omega, by simp; omega, by rw [hrf]; simp⟩
          simp only [yE, List.map_append]; rfl
        | true =>
          simp only [runeF, h0, h12, h13, if_true, Bool.false_eq_true, if_false] at hrf
          by_cases hin : i + n < bs.length
          · obtain ⟨c2, hc2⟩ := get_lt hin
            have hd2 := drop_cons hc2
            have t2 : leI (bs.length : Nat) ((i + n : Nat) : Int) = false := leI_false (by omega)
            cases h10 : eqI c2 10 with
            | true =>
              have hcr : crlf (bs.drop (i + n)) = bs.drop (i + n + 1) := by rw [hd2, crlf, if_pos h10]
              rw [hcr, show i + ((bs.drop i).length - (bs.drop (i + n + 1)).length) = i + n + 1 by simp; omega] at hrf
              simp -implicitDefEqProofs only [↓yP, yT, Nat.reduceAdd, Nat.reduceMul, Nat.reduceLeDiff, reduceCtorEq, w2, h0, h12, h13, b1, t2, ebGet hc2, h10, w3]
              refine ⟨bs.length - (i + n + 1), [2], by omega, by decide, pinned_zero _, i + n + 1, rs ++ [⟨10, (i : Nat)⟩], by (simp only [yE]; try rfl), ?_, by omega, by simp; omega, by rw [hrf]; simp⟩
              simp only [yE, List.map_append]; rfl
            | false =>
              have hcr : crlf (bs.drop (i + n)) = bs.drop (i + n) := by rw [hd2, crlf, if_neg (by rw [h10]; simp)]
              rw [hcr, hln] at hrf
              simp -implicitDefEqProofs only [↓yP, yT, Nat.reduceAdd, Nat.reduceMul, Nat.reduceLeDiff, reduceCtorEq, w2, h0, h12, h13, b1, t2, ebGet hc2, h10]
              refine ⟨bs.length - (i + n), [2], by omega, by decide, pinned_zero _, i + n, rs ++ [⟨10, (i : Nat)⟩], by (simp only [yE]; try rfl), ?_, by omega, by simp; omega, by rw [hrf]; simp⟩
              simp only [yE, List.map_append]; rfl
          · have t2 : leI (bs.length : Nat) ((i + n : Nat) : Int) = true := leI_true (by omega)
            have hcr : crlf (bs.drop (i + n)) = bs.drop (i + n) := by rw [List.drop_eq_nil_of_le (by omega)]; rfl
            rw [hcr, hln] at hrf
            simp -implicitDefEqProofs only [↓yP, yT, Nat.reduceAdd, Nat.reduceMul, Nat.reduceLeDiff, reduceCtorEq, w2, h0, h12, h13, b1, t2]
            refine ⟨bs.length - (i + n), [2], by omega, by decide, pinned_zero _, i + n, rs ++ [⟨10, (i : Nat)⟩], by (simp only [yE]; try rfl), ?_, by omega, by simp; omega, by rw [hrf]; simp⟩
            simp only [yE, List.map_append]; rfl
  · have t1 : leI (bs.length : Nat) (i : Nat) = true := leI_true (by omega)
    obtain rfl : i = bs.length := by omega
    rw [List.drop_length, runesF_nil, List.append_nil] at hrf
    rw [hrf]
    simp -implicitDefEqProofs only [↓yP, yT, reduceCtorEq, t1]
end Go.Vx.Seat
end
section
open Go Go.Vx Go.Proofs
set_option maxRecDepth 10000
set_option maxHeartbeats 4000000
namespace Go.Vx.Seat
attribute [local irreducible] Rg Rt Ro Ri Rc Rto Rtk Rtf Rti Rw Rl Rd Rcall Rtcall kf
theorem escX_spec (l : List Rn) (i : Nat) (hl : l.length ≤ 1000000) (hi : i < l.length) : PCall C1 79 [.c (.p (rR l)), yd (.int .i64 (i : Nat))] fun y => ∃ (k : Nat), y = .tup [yd (.int .i64 (escF (l.drop (i + 1))).1), yd (.int .i64 (k : Nat))] ∧ i < k ∧ k ≤ l.length ∧ (escF (l.drop (i + 1))).2 = l.drop k := by
  have w1 : wrapK .i64 ((i : Int) + 1) = ((i + 1 : Nat) : Int) := wrap_succ (by omega)
  have w2 : wrapK .i64 ((i : Int) + 2) = ((i + 2 : Nat) : Int) := wrap_nat (i := i + 2) (by omega)
  have w7 : wrapK .i64 ((i : Int) + 7) = ((i + 7 : Nat) : Int) := wrap_nat (i := i + 7) (by omega)
  refine Pf (by rfl) (by rfl) fn79 (by rfl) ?_
  simp only [Try.f79, List.length_cons, List.length_nil, List.replicate, List.cons_append, List.nil_append]
  simp -implicitDefEqProofs only [↓yP, yT, w1]
  refine Rcall_pure (at_spec l _) (by rfl) fun y hy => ?_
  subst hy
  by_cases h1 : i + 1 < l.length
  · obtain ⟨x1, hx1⟩ := get_lt h1
    have t1 : leI (l.length : Nat) ((i + 1 : Nat) : Int) = false := leI_false (by omega)
    simp -implicitDefEqProofs only [↓yP, yT, t1, w1]
    refine Rcall_pure (hex_spec _) (by rfl) fun y hy => ?_
    subst hy
    rw [atR_get hx1]
    cases h2 : leI 0 (hexR x1.r) with
    | false =>
      simp -implicitDefEqProofs only [↓yP, yT, reduceCtorEq, h2, w2]
      exact ⟨i + 2, by rw [drop_cons hx1, escF, h2]; rfl, by omega, by omega, by rw [drop_cons hx1, escF, h2]; rfl⟩
    | true =>
      simp -implicitDefEqProofs only [↓yP, yT, h2, w1]
      refine Rl_inv (fun d e s => ∃ (k : Nat) (x : Int), e = [.c (.p (rR l)), yd (.int .i64 (i : Nat)), Tp, Tp, Tp, Tp, Tp, yd (.int .i64 x), yd (.int .i64 (k : Nat)), Tp, Tp, Tp, Tp, Tp, Tp, Tp, Tp, Tp, Tp, Tp, Tp, Tp, Tp, Tp, Tp, Tp, Tp, Tp, Tp, Tp, Tp, Tp, Tp, Tp, Tp, Tp, Tp, Tp, Tp, Tp, Tp, Tp, Tp, Tp, Tp, Tp, Tp, Tp, Tp, Tp, Tp, Tp, Tp, Tp, Tp, Tp, Tp, Tp, Tp, Tp, Tp, Tp, Tp, Tp, Tp, Tp, Tp, Tp, Tp, Tp] ∧ s = [] ∧ k + d = l.length ∧ i < k ∧ k ≤ i + 7 ∧ hexN (i + 7 - k) x (l.drop k) = hexN 6 0 (l.drop (i + 1))) [true, true, false, false, false, false, false, true, true] (l.length - (i + 1)) [] (by decide) (pinned_zero _) ⟨i + 1, 0, by simp only [yE], by simp only [yE], by omega, by omega, by omega, by rw [show i + 7 - (i + 1) = 6 by omega]⟩ ?_
      rintro d e s ⟨k, x, rfl, rfl, hd, hk, hk7, hhx⟩
      by_cases h7 : k < i + 7
      · have t7 : leI ((i + 7 : Nat) : Int) (k : Nat) = false := leI_false (by omega)
        simp -implicitDefEqProofs only [↓yP, yT, w7, t7]
        refine Rcall_pure (at_spec l _) (by rfl) fun y hy => ?_
        subst hy
        simp -implicitDefEqProofs only [yT]
        refine Rcall_pure (hex_spec _) (by rfl) fun y hy => ?_
        subst hy
        cases h8 : leI 0 (hexR (atR l (k : Nat))) with
        | true =>
          have hkl : k < l.length := Nat.lt_of_not_le fun hle => by
            rw [hexR_neg hle] at h8
            exact absurd h8 (by decide)
          obtain ⟨c, hc⟩ := get_lt hkl
          have w3 : wrapK .i64 ((k : Int) + 1) = ((k + 1 : Nat) : Int) := wrap_succ (by omega)
          have h8' := h8
          rw [atR_get hc] at h8'
          simp -implicitDefEqProofs only [↓yP, yT, h8]
          refine Rcall_pure (at_spec l _) (by rfl) fun y hy => ?_
          subst hy
          simp -implicitDefEqProofs only [yT]
          refine Rcall_pure (hex_spec _) (by rfl) fun y hy => ?_
          subst hy
          simp -implicitDefEqProofs only [↓yP, yT, w3]
          refine ⟨d - 1, [], by omega, by decide, pinned_zero _, k + 1, wrapK .i64 (wrapK .i64 (16 * x) + hexR (atR l (k : Nat))), ?_, rfl, by omega, by omega, by omega, ?_⟩
          · simp only [yE]
          · rw [← hhx, show i + 7 - k = (i + 7 - (k + 1)) + 1 by omega, drop_cons hc, hexN, if_pos h8', atR_get hc]
        | false =>
          have hfin : hexN (i + 7 - k) x (l.drop k) = (x, l.drop k) := by
            rw [show i + 7 - k = (i + 7 - (k + 1)) + 1 by omega]
            cases hc : l[k]? with
            | none => rw [List.drop_eq_nil_of_le (by simpa using hc)]; rfl
            | some c => rw [atR_get hc] at h8; rw [drop_cons hc, hexN, if_neg (by rw [h8]; simp)]
          simp -implicitDefEqProofs only [↓yP, yT, h8]
          have hres : escF (l.drop (i + 1)) = (fixB x, skipB (l.drop k)) := by
            rw [drop_cons hx1, escF, if_pos h2, ← drop_cons hx1, ← hhx, hfin]
          refine Rcall_pure (at_spec l _) (by rfl) fun y hy => ?_
          subst hy
          simp -implicitDefEqProofs only [yT]
          refine Rcall_pure (blank_spec1 _) (by rfl) fun y hy => ?_
          subst hy
          have w3 : wrapK .i64 ((k : Int) + 1) = ((k + 1 : Nat) : Int) := wrap_succ (by omega)
          cases q1 : blankB (atR l (k : Nat)) with
          | false =>
            have hsk : skipB (l.drop k) = l.drop k := by
              cases hk0 : l[k]? with
              | none => rw [List.drop_eq_nil_of_le (by simpa using hk0)]; rfl
              | some c => rw [atR_get hk0] at q1; rw [drop_cons hk0, skipB, if_neg (by rw [q1]; simp)]
            simp -implicitDefEqProofs only [↓yP, yT]
            cases q2 : eqI x 0 with
            | true =>
              simp -implicitDefEqProofs only [↓yP, yT, reduceCtorEq]
              exact ⟨k, by rw [hres]; simp only [fixB, q2, Bool.true_or, if_true]; rfl, by omega, by omega, by rw [hres]; exact hsk⟩
            | false =>
              cases q3 : leI x 1114111 with
              | false =>
                simp -implicitDefEqProofs only [↓yP, yT, reduceCtorEq, q3]
                exact ⟨k, by rw [hres]; simp only [fixB, q2, q3, Bool.not_false, Bool.or_true, Bool.true_or, if_true]; rfl, by omega, by omega, by rw [hres]; exact hsk⟩
              | true =>
                cases q4 : leI 55296 x with
                | false =>
                  simp -implicitDefEqProofs only [↓yP, yT, reduceCtorEq, q3, q4]
                  exact ⟨k, by rw [hres]; simp only [fixB, q2, q3, q4, Bool.not_true, Bool.or_false, Bool.false_and, Bool.false_eq_true, if_false]; rfl, by omega, by omega, by rw [hres]; exact hsk⟩
                | true =>
                  cases q5 : leI 57344 x with
                  | true =>
                    simp -implicitDefEqProofs only [↓yP, yT, reduceCtorEq, q3, q4, q5]
                    exact ⟨k, by rw [hres]; simp only [fixB, q2, q3, q4, q5, Bool.not_true, Bool.or_false, Bool.true_and, Bool.false_eq_true, if_false]; rfl, by omega, by omega, by rw [hres]; exact hsk⟩
                  | false =>
                    simp -implicitDefEqProofs only [↓yP, yT, reduceCtorEq, q3, q4, q5]
                    exact ⟨k, by rw [hres]; simp only [fixB, q2, q3, q4, q5, Bool.not_false, Bool.or_true, Bool.true_and, if_true]; rfl, by omega, by omega, by rw [hres]; exact hsk⟩
          | true =>
            have hk2 : k < l.length := Nat.lt_of_not_le fun hle => by
              rw [atR_out (by omega)] at q1
              exact absurd q1 (by decide)
            have hsk : skipB (l.drop k) = l.drop (k + 1) := by
              obtain ⟨c, hc⟩ := get_lt hk2
              rw [atR_get hc] at q1; rw [drop_cons hc, skipB, if_pos q1]
            simp -implicitDefEqProofs only [↓yP, yT, w3]
            cases q2 : eqI x 0 with
            | true =>
              simp -implicitDefEqProofs only [↓yP, yT, reduceCtorEq]
              exact ⟨(k + 1), by rw [hres]; simp only [fixB, q2, Bool.true_or, if_true]; rfl, by omega, by omega, by rw [hres]; exact hsk⟩
            | false =>
              cases q3 : leI x 1114111 with
              | false =>
                simp -implicitDefEqProofs only [↓yP, yT, reduceCtorEq, q3]
                exact ⟨(k + 1), by rw [hres]; simp only [fixB, q2, q3, Bool.not_false, Bool.or_true, Bool.true_or, if_true]; rfl, by omega, by omega, by rw [hres]; exact hsk⟩
              | true =>
                cases q4 : leI 55296 x with
                | false =>
                  simp -implicitDefEqProofs only [↓yP, yT, reduceCtorEq, q3, q4]
                  exact ⟨(k + 1), by rw [hres]; simp only [fixB, q2, q3, q4, Bool.not_true, Bool.or_false, Bool.false_and, Bool.false_eq_true, if_false]; rfl, by omega, by omega, by rw [hres]; exact hsk⟩
                | true =>
                  cases q5 : leI 57344 x with
                  | true =>
                    simp -implicitDefEqProofs only [↓yP, yT, reduceCtorEq, q3, q4, q5]
                    exact ⟨(k + 1), by rw [hres]; simp only [fixB, q2, q3, q4, q5, Bool.not_true, Bool.or_false, Bool.true_and, Bool.false_eq_true, if_false]; rfl, by omega, by omega, by rw [hres]; exact hsk⟩
                  | false =>
                    simp -implicitDefEqProofs only [↓yP, yT, reduceCtorEq, q3, q4, q5]
                    exact ⟨(k + 1), by rw [hres]; simp only [fixB, q2, q3, q4, q5, Bool.not_false, Bool.or_true, Bool.true_and, if_true]; rfl, by omega, by omega, by rw [hres]; exact hsk⟩
      · have t7 : leI ((i + 7 : Nat) : Int) (k : Nat) = true := leI_true (by omega)
        have hfin : hexN (i + 7 - k) x (l.drop k) = (x, l.drop k) := by rw [show i + 7 - k = 0 by omega]; rfl
        simp -implicitDefEqProofs only [↓yP, yT, w7, t7]
        have hres : escF (l.drop (i + 1)) = (fixB x, skipB (l.drop k)) := by
          rw [drop_cons hx1, escF, if_pos h2, ← drop_cons hx1, ← hhx, hfin]
        refine Rcall_pure (at_spec l _) (by rfl) fun y hy => ?_
        subst hy
        simp -implicitDefEqProofs only [yT]
        refine Rcall_pure (blank_spec1 _) (by rfl) fun y hy => ?_
        subst hy
        have w3 : wrapK .i64 ((k : Int) + 1) = ((k + 1 : Nat) : Int) := wrap_succ (by omega)
        cases q1 : blankB (atR l (k : Nat)) with
        | false =>
          have hsk : skipB (l.drop k) = l.drop k := by
            cases hk0 : l[k]? with
            | none => rw [List.drop_eq_nil_of_le (by simpa using hk0)]; rfl
            | some c => rw [atR_get hk0] at q1; rw [drop_cons hk0, skipB, if_neg (by rw [q1]; simp)]
          simp -implicitDefEqProofs only [↓yP, yT]
          cases q2 : eqI x 0 with
          | true =>
            simp -implicitDefEqProofs only [↓yP, yT, reduceCtorEq]
            exact ⟨k, by rw [hres]; simp only [fixB, q2, Bool.true_or, if_true]; rfl, by omega, by omega, by rw [hres]; exact hsk⟩
          | false =>
            cases q3 : leI x 1114111 with
            | false =>
              simp -implicitDefEqProofs only [↓yP, yT, reduceCtorEq, q3]
              exact ⟨k, by rw [hres]; simp only [fixB, q2, q3, Bool.not_false, Bool.or_true, Bool.true_or, if_true]; rfl, by omega, by omega, by rw [hres]; exact hsk⟩
            | true =>
              cases q4 : leI 55296 x with
              | false =>
                simp -implicitDefEqProofs only [↓yP, yT, reduceCtorEq, q3, q4]
                exact ⟨k, by rw [hres]; simp only [fixB, q2, q3, q4, Bool.not_true, Bool.or_false, Bool.false_and, Bool.false_eq_true, if_false]; rfl, by omega, by omega, by rw [hres]; exact hsk⟩
              | true =>
                cases q5 : leI 57344 x with
                | true =>
                  simp -implicitDefEqProofs only [↓yP, yT, reduceCtorEq, q3, q4, q5]
                  exact ⟨k, by rw [hres]; simp only [fixB, q2, q3, q4, q5, Bool.not_true, Bool.or_false, Bool.true_and, Bool.false_eq_true, if_false]; rfl, by omega, by omega, by rw [hres]; exact hsk⟩
                | false =>
                  simp -implicitDefEqProofs only [↓yP, yT, reduceCtorEq, q3, q4, q5]
                  exact ⟨k, by rw [hres]; simp only [fixB, q2, q3, q4, q5, Bool.not_false, Bool.or_true, Bool.true_and, if_true]; rfl, by omega, by omega, by rw [hres]; exact hsk⟩
        | true =>
          have hk2 : k < l.length := Nat.lt_of_not_le fun hle => by
            rw [atR_out (by omega)] at q1
            exact absurd q1 (by decide)
          have hsk : skipB (l.drop k) = l.drop (k + 1) := by
            obtain ⟨c, hc⟩ := get_lt hk2
            rw [atR_get hc] at q1; rw [drop_cons hc, skipB, if_pos q1]
          simp -implicitDefEqProofs only [↓yP, yT, w3]
          cases q2 : eqI x 0 with
          | true =>
            simp -implicitDefEqProofs only [↓yP, yT, reduceCtorEq]
            exact ⟨(k + 1), by rw [hres]; simp only [fixB, q2, Bool.true_or, if_true]; rfl, by omega, by omega, by rw [hres]; exact hsk⟩
          | false =>
            cases q3 : leI x 1114111 with
            | false =>
              simp -implicitDefEqProofs only [↓yP, yT, reduceCtorEq, q3]
              exact ⟨(k + 1), by rw [hres]; simp only [fixB, q2, q3, Bool.not_false, Bool.or_true, Bool.true_or, if_true]; rfl, by omega, by omega, by rw [hres]; exact hsk⟩
            | true =>
              cases q4 : leI 55296 x with
              | false =>
                simp -implicitDefEqProofs only [↓yP, yT, reduceCtorEq, q3, q4]
                exact ⟨(k + 1), by rw [hres]; simp only [fixB, q2, q3, q4, Bool.not_true, Bool.or_false, Bool.false_and, Bool.false_eq_true, if_false]; rfl, by omega, by omega, by rw [hres]; exact hsk⟩
              | true =>
                cases q5 : leI 57344 x with
                | true =>
                  simp -implicitDefEqProofs only [↓yP, yT, reduceCtorEq, q3, q4, q5]
                  exact ⟨(k + 1), by rw [hres]; simp only [fixB, q2, q3, q4, q5, Bool.not_true, Bool.or_false, Bool.true_and, Bool.false_eq_true, if_false]; rfl, by omega, by omega, by rw [hres]; exact hsk⟩
                | false =>
                  simp -implicitDefEqProofs only [↓yP, yT, reduceCtorEq, q3, q4, q5]
                  exact ⟨(k + 1), by rw [hres]; simp only [fixB, q2, q3, q4, q5, Bool.not_false, Bool.or_true, Bool.true_and, if_true]; rfl, by omega, by omega, by rw [hres]; exact hsk⟩
  · have t1 : leI (l.length : Nat) ((i + 1 : Nat) : Int) = true := leI_true (by omega)
    simp -implicitDefEqProofs only [↓yP, yT, reduceCtorEq, t1, w1]
    exact ⟨i + 1, by rw [List.drop_eq_nil_of_le (by omega)]; rfl, by omega, by omega, by rw [List.drop_eq_nil_of_le (by omega)]; rfl⟩
theorem textF_len (l : List Rn) : (textF l).length ≤ 4 * l.length := by
  induction l with
  | nil => simp [textF]
  | cons x l ih =>
    have := (putB_len x.r).2
    simp only [textF, List.flatMap_cons, List.length_append, List.length_cons] at ih ⊢
    omega
theorem textX_spec (l : List Rn) (hl : l.length ≤ 1000000) : PCall C1 78 [.c (.p (rR l))] fun y => y = yd (.string (bstr (textF l))) := by
  refine Pf (by rfl) (by rfl) fn78 (by rfl) ?_
  simp only [Try.f78, List.length_cons, List.length_nil, List.replicate, List.cons_append, List.nil_append]
  simp -implicitDefEqProofs only [↓yP, yT]
  refine Rl_nil 3 1 (by decide) rfl ?_
  refine Rl_inv (fun d e s => ∃ (i : Nat) (bs : List Int), e = [.c (.p (rR l)), Tp, Tp, .c (.own 0 1 0 bs.length), yd (.int .i64 (i : Nat)), Tp, Tp, Tp, Tp, Tp, Tp, Tp, Tp, Tp, Tp, Tp, Tp, Tp, Tp, Tp] ∧ s = [.row 1 (bs.map eb)] ∧ i + d = l.length ∧ bs = textF (l.take i)) [true, false, false, true, true] l.length [0] (by decide) (pinned_zero _) ⟨0, [], by (simp only [yE]; try rfl), by (simp only [yE]; try rfl), by omega, by simp [textF]⟩ ?_
  rintro d e s ⟨i, bs, rfl, rfl, hd, hb⟩
  by_cases hi : i < l.length
  · obtain ⟨x, hx⟩ := get_lt hi
    have hbl := textF_len (l.take i)
    rw [← hb] at hbl
    have hbl2 : bs.length ≤ 4 * i := by simp at hbl; omega
    have t1 : leI (l.length : Nat) (i : Nat) = false := leI_false (by omega)
    have w1 : wrapK .i64 ((i : Int) + 1) = ((i + 1 : Nat) : Int) := wrap_succ (by omega)
    obtain ⟨p1, p2⟩ := putB_len x.r
    simp -implicitDefEqProofs only [↓yP, yT, Nat.reduceAdd, reduceCtorEq, t1, rnGet hx]
    refine Rcall_own' (els := bs.map eb) (n' := (bs ++ putB x.r).length) (by simp) (by simp) (by rfl) (by rfl) (put_spec x.r bs (by omega)) ?_
    simp -implicitDefEqProofs only [↓yP, yT, w1]
    refine ⟨d - 1, [1], by omega, by decide, pinned_zero _, i + 1, bs ++ putB x.r, ?_, ?_, by omega, ?_⟩
    · simp only [yE]
    · simp only [yE]
    · rw [hb, List.take_add_one, hx]; simp [textF]
  · have t1 : leI (l.length : Nat) (i : Nat) = true := leI_true (by omega)
    rw [List.take_of_length_le (by omega)] at hb
    subst hb
    simp -implicitDefEqProofs only [↓yP, yT, reduceCtorEq, t1, ybytes_eb, bytesOf_u8]
    rfl
theorem rawX_spec (l : List Rn) (i k : Nat) (hl : l.length ≤ 1000000) (hi : i ≤ k) (hk : k ≤ l.length) : PCall C1 64 [.c (.p (rR l)), yd (.int .i64 (i : Nat)), yd (.int .i64 (k : Nat))] fun y => y = yd (.string (bstr (textF ((l.drop i).take (k - i))))) := by
  refine Pf (by rfl) (by rfl) fn64 (by rfl) ?_
  simp only [Try.f64, List.length_cons, List.length_nil, List.replicate, List.cons_append, List.nil_append]
  have c1 : (0 : Int) ≤ (i : Nat) := by omega
  have c2 : ((i : Nat) : Int) ≤ (k : Nat) := by omega
  have c3 : ((k : Nat) : Int) ≤ (l.length : Nat) := by omega
  simp -implicitDefEqProofs only [↓yP, yT, reduceCtorEq, c1, c2, c3, ← List.map_take, ← List.map_drop]
  refine Rcall_pure (textX_spec ((l.drop i).take (k - i)) (by simp; omega)) (by rfl) fun y hy => ?_
  subst hy
  simp -implicitDefEqProofs only [↓yP, yT, reduceCtorEq]
theorem takeX_spec (l : List Rn) (i : Nat) (hl : l.length ≤ 1000000) (hi : i ≤ l.length) : PCall C1 70 [.c (.p (rR l)), yd (.int .i64 (i : Nat))] fun y => ∃ (k : Nat), y = .tup [yd (.string (bstr (takeF (l.drop i)).1)), yd (.int .i64 (k : Nat))] ∧ i ≤ k ∧ k ≤ l.length ∧ (takeF (l.drop i)).1.length ≤ 4 * l.length ∧ (takeF (l.drop i)).2 = l.drop k := by
  refine Pf (by rfl) (by rfl) fn70 (by rfl) ?_
  simp only [Try.f70, List.length_cons, List.length_nil, List.replicate, List.cons_append, List.nil_append]
  simp -implicitDefEqProofs only [↓yP, yT]
  refine Rcall_pure (cap_spec _ _ _) (by rfl) fun y hy => ?_
  rw [if_neg (by omega), if_neg (by omega)] at hy
  subst hy
  simp -implicitDefEqProofs only [↓yP, yT]
  refine Rl_nil 6 1 (by decide) rfl ?_
  refine Rl_inv (fun d e s => ∃ (k : Nat) (bs : List Int), e = [.c (.p (rR l)), yd (.int .i64 (k : Nat)), Tp, Tp, Tp, Tp, .c (.own 0 1 0 bs.length), Tp, Tp, Tp, Tp, Tp, Tp, Tp, Tp, Tp, Tp, Tp, Tp, Tp, Tp, Tp, Tp, Tp, Tp, Tp, Tp, Tp, Tp, Tp, Tp, Tp, Tp, Tp, Tp, Tp, Tp, Tp, Tp, Tp, Tp, Tp, Tp, Tp, Tp, Tp, Tp, Tp, Tp, Tp, Tp, Tp, Tp] ∧ s = [.row 1 (bs.map eb)] ∧ k + d = l.length ∧ i ≤ k ∧ bs.length ≤ 4 * k ∧ (takeF (l.drop i)).1 = bs ++ (takeF (l.drop k)).1 ∧ (takeF (l.drop i)).2 = (takeF (l.drop k)).2) [true, true, false, false, false, false, true] (l.length - i) [0] (by decide) (pinned_zero _) ⟨i, [], by (simp only [yE]; try rfl), by (simp only [yE]; try rfl), by omega, by omega, by simp, by simp, rfl⟩ ?_
  rintro d e s ⟨k, bs, rfl, rfl, hd, hk, hb, hx1, hx2⟩
  by_cases hkl : k < l.length
  · obtain ⟨x, hx⟩ := get_lt hkl
    have hat := atR_get hx
    have hdc := drop_cons hx
    have t1 : leI (l.length : Nat) (k : Nat) = false := leI_false (by omega)
    have w1 : wrapK .i64 ((k : Int) + 1) = ((k + 1 : Nat) : Int) := wrap_succ (by omega)
    simp -implicitDefEqProofs only [↓yP, yT, Nat.reduceAdd, reduceCtorEq, t1, rnGet hx]
    refine Rcall_pure (in_spec1 _) (by rfl) fun y hy => ?_
    subst hy
    cases h1 : inB x.r with
    | true =>
      rw [hdc, takeF_in h1] at hx1 hx2
      obtain ⟨p1, p2⟩ := putB_len x.r
      simp -implicitDefEqProofs only [↓yP, yT, Nat.reduceAdd, reduceCtorEq, rnGet hx]
      refine Rcall_own' (els := bs.map eb) (n' := (bs ++ putB x.r).length) (by simp) (by simp) (by rfl) (by rfl) (put_spec x.r bs (by omega)) ?_
      simp -implicitDefEqProofs only [↓yP, yT, w1]
      refine ⟨d - 1, [1], by omega, by decide, pinned_zero _, k + 1, bs ++ putB x.r, by (simp only [yE]; try rfl), by (simp only [yE]; try rfl), by omega, by omega, by simp; omega, by rw [hx1, List.append_assoc], hx2⟩
    | false =>
      simp -implicitDefEqProofs only [↓yP, yT]
      refine Rcall_pure (escape_spec l k (by omega)) (by rfl) fun y hy => ?_
      subst hy
      rw [esc_drop]
      cases h2 : esc0 (l.drop k) with
      | true =>
        simp -implicitDefEqProofs only [↓yP, yT]
        refine Rcall_pure (escX_spec l k hl hkl) (by rfl) fun y hy => ?_
        obtain ⟨k', rfl, hk1, hk2, hk3⟩ := hy
        rw [hdc] at h2
        rw [hdc, takeF_esc h1 h2, hk3] at hx1 hx2
        obtain ⟨p1, p2⟩ := putB_len (escF (l.drop (k + 1))).1
        simp -implicitDefEqProofs only [↓yP, yT]
        refine Rcall_own' (els := bs.map eb) (n' := (bs ++ putB (escF (l.drop (k + 1))).1).length) (by simp) (by simp) (by rfl) (by rfl) (put_spec (escF (l.drop (k + 1))).1 bs (by omega)) ?_
        simp -implicitDefEqProofs only [↓yP, yT]
        refine ⟨l.length - k', [1], by omega, by decide, pinned_zero _, k', bs ++ putB (escF (l.drop (k + 1))).1, by (simp only [yE]; try rfl), by (simp only [yE]; try rfl), by omega, by omega, by simp; omega, by rw [hx1, List.append_assoc], hx2⟩
      | false =>
        rw [hdc] at h2
        rw [hdc, takeF_end h1 h2, ← hdc] at hx1 hx2
        rw [List.append_nil] at hx1
        rw [hx1, hx2]
        simp -implicitDefEqProofs only [↓yP, yT, reduceCtorEq, ybytes_eb, bytesOf_u8]
        exact ⟨k, rfl, by omega, by omega, by omega, rfl⟩
  · have t1 : leI (l.length : Nat) (k : Nat) = true := leI_true (by omega)
    have hdn : l.drop k = [] := List.drop_eq_nil_of_le (by omega)
    rw [hdn, takeF_nil, List.append_nil] at hx1
    rw [hdn, takeF_nil] at hx2
    rw [hx1, hx2]
    simp -implicitDefEqProofs only [↓yP, yT, reduceCtorEq, t1, ybytes_eb, bytesOf_u8]
    exact ⟨k, rfl, by omega, by omega, by omega, hdn.symm⟩
end Go.Vx.Seat
end
section
open Go Go.Vx Go.Proofs
set_option maxRecDepth 10000
set_option maxHeartbeats 4000000
namespace Go.Vx.Seat
attribute [local irreducible] Rg Rt Ro Ri Rc Rto Rtk Rtf Rti Rw Rl Rd Rcall Rtcall kf
theorem fn93 : nth C1.P.funcs.toList 93 = some Try.f93 := by kernel_rfl
theorem fn67 : nth C1.P.funcs.toList 67 = some Try.f67 := by kernel_rfl
theorem fn59 : nth C1.P.funcs.toList 59 = some Try.f59 := by kernel_rfl
def lexTok (k : Int) (s : ByteArray) : Tok := ⟨k, s, ⟨#[]⟩, false, ⟨#[]⟩, ⟨#[]⟩, false, false, 0, 0, 0, 0, 0⟩
structure TokLex (l : List Rn) (t : Tok) : Prop where
  text : (strOf t.text).length ≤ 4 * l.length
  sign : 16 ≤ t.kind → t.kind ≤ 24 → t = lexTok t.kind ⟨#[]⟩
theorem TokLex.plain {l : List Rn} {k : Int} {s : ByteArray} (hs : (strOf s).length ≤ 4 * l.length) (hk : k < 16 ∨ 24 < k) : TokLex l (lexTok k s) := ⟨hs, fun h h2 => absurd hk (by have h : 16 ≤ k := h; have h2 : k ≤ 24 := h2; omega)⟩
def zt : List Ce := (lexTok 0 ⟨#[]⟩).cs
theorem zt13 : (13 ≤ zt.length) = True := by simp [zt, lexTok, Tok.cs, Tok.pc]
theorem ztd : zt.drop 13 = [] := rfl
end Go.Vx.Seat
end
section
open Go Go.Vx Go.Proofs
set_option maxRecDepth 10000
set_option maxHeartbeats 4000000
namespace Go.Vx.Seat
attribute [local irreducible] Rg Rt Ro Ri Rc Rto Rtk Rtf Rti Rw Rl Rd Rcall Rtcall kf
theorem fn85 : nth C1.P.funcs.toList 85 = some Try.f85 := by kernel_rfl
theorem badX_spec (l : List Rn) (i : Nat) (hl : l.length ≤ 1000000) (hi : i ≤ l.length) : PCall C1 93 [.c (.p (rR l)), yd (.int .i64 (i : Nat))] fun y => ∃ k : Nat, y = yd (.int .i64 (k : Nat)) ∧ i ≤ k ∧ k ≤ l.length ∧ badF (l.drop i) = l.drop k := by
  refine Pf (by rfl) (by rfl) fn93 (by rfl) ?_
  simp only [Try.f93, List.length_cons, List.length_nil, List.replicate, List.cons_append, List.nil_append]
  simp -implicitDefEqProofs only [↓yP, yT]
  refine Rl_inv (fun d e s => ∃ (k : Nat), e = [.c (.p (rR l)), yd (.int .i64 (k : Nat)), Tp, Tp, Tp, Tp, Tp, Tp, Tp, Tp, Tp, Tp, Tp, Tp, Tp, Tp, Tp, Tp, Tp, Tp, Tp, Tp, Tp, Tp, Tp, Tp, Tp, Tp, Tp, Tp, Tp] ∧ s = [] ∧ k + d = l.length ∧ i ≤ k ∧ badF (l.drop i) = badF (l.drop k)) [true, true] (l.length - i) [] (by decide) (pinned_zero _) ⟨i, by (simp only [yE]; try rfl), by (simp only [yE]; try rfl), by omega, by omega, rfl⟩ ?_
  rintro d e s ⟨k, rfl, rfl, hd, hk, hx1⟩
  by_cases hkl : k < l.length
  · obtain ⟨x, hx⟩ := get_lt hkl
    have hdc := drop_cons hx
    have t1 : leI (l.length : Nat) (k : Nat) = false := leI_false (by omega)
    have w1 : wrapK .i64 ((k : Int) + 1) = ((k + 1 : Nat) : Int) := wrap_succ (by omega)
    cases h1 : eqI x.r 41 with
    | true =>
      rw [hdc, badF_shut h1] at hx1
      simp -implicitDefEqProofs only [↓yP, yT, Nat.reduceAdd, reduceCtorEq, t1, rnGet hx, h1, w1]
      exact ⟨k + 1, rfl, by omega, by omega, hx1⟩
    | false =>
      simp -implicitDefEqProofs only [↓yP, yT, Nat.reduceAdd, reduceCtorEq, t1, rnGet hx, h1]
      refine Rcall_pure (escape_spec l k (by omega)) (by rfl) fun y hy => ?_
      subst hy
      rw [esc_drop]
      cases h2 : esc0 (l.drop k) with
      | true =>
        rw [hdc] at h2
        rw [hdc, badF_esc h1 h2] at hx1
        simp -implicitDefEqProofs only [↓yP, yT]
        refine Rcall_pure (escX_spec l k hl hkl) (by rfl) fun y hy => ?_
        obtain ⟨k', rfl, hk1, hk2, hk3⟩ := hy
        rw [hk3] at hx1
        simp -implicitDefEqProofs only [↓yP, yT]
        refine ⟨l.length - k', [], by omega, by decide, pinned_zero _, k', by (simp only [yE]; try rfl), rfl, by omega, by omega, hx1⟩
      | false =>
        rw [hdc] at h2
        rw [hdc, badF_plain h1 h2] at hx1
        simp -implicitDefEqProofs only [↓yP, yT, w1]
        refine ⟨d - 1, [], by omega, by decide, pinned_zero _, k + 1, by (simp only [yE]; try rfl), rfl, by omega, by omega, hx1⟩
  · have t1 : leI (l.length : Nat) (k : Nat) = true := leI_true (by omega)
    have hdn : l.drop k = [] := List.drop_eq_nil_of_le (by omega)
    rw [hdn, badF_nil] at hx1
    simp -implicitDefEqProofs only [↓yP, yT, reduceCtorEq, t1]
    exact ⟨k, rfl, by omega, by omega, by rw [hx1, hdn]⟩
def quoteT (l : List Rn) : Tok × List Rn :=
  let p := quotedF (hd l) (l.drop 1)
  (if p.2.1 then lexTok 6 (bstr (textF (used l p.2.2))) else lexTok 5 (bstr p.1), p.2.2)
def LexX (l : List Rn) (i : Nat) (F : Tok × List Rn) (y : YV) : Prop := ∃ (t : Tok) (k : Nat), y = .tup [t.yv, yd (.int .i64 (k : Nat))] ∧ i < k ∧ k ≤ l.length ∧ F = (t, l.drop k)
theorem quotedX_spec (l : List Rn) (i : Nat) (hl : l.length ≤ 1000000) (hi : i < l.length) : PCall C1 67 [.c (.p (rR l)), yd (.int .i64 (i : Nat))] (LexX l i (quoteT (l.drop i))) := by
  obtain ⟨x0, hx0⟩ := get_lt hi
  have w1 : wrapK .i64 ((i : Int) + 1) = ((i + 1 : Nat) : Int) := wrap_succ (by omega)
  have hq : quoteT (l.drop i) = (if (quotedF x0.r (l.drop (i + 1))).2.1 then lexTok 6 (bstr (textF (used (l.drop i) (quotedF x0.r (l.drop (i + 1))).2.2))) else lexTok 5 (bstr (quotedF x0.r (l.drop (i + 1))).1), (quotedF x0.r (l.drop (i + 1))).2.2) := by
    rw [quoteT, hd_drop, atR_get hx0, List.drop_drop]
  rw [hq]
  refine Pf (by rfl) (by rfl) fn67 (by rfl) ?_
  simp only [Try.f67, List.length_cons, List.length_nil, List.replicate, List.cons_append, List.nil_append]
  simp -implicitDefEqProofs only [↓yP, yT, Nat.reduceAdd, Nat.reduceLeDiff, reduceCtorEq, rnGet hx0, w1]
  refine Rl_nil 8 1 (by decide) rfl ?_
  refine Rl_inv (fun d e s => ∃ (k : Nat) (bs : List Int), e = [.c (.p (rR l)), yd (.int .i64 (k : Nat)), Tp, Tp, .c (.ptr 0 0 0 0), Tp, yd (.int .i64 (i : Nat)), yd (.int .i64 x0.r), .c (.own 1 1 0 bs.length), Tp, Tp, Tp, Tp, Tp, Tp, Tp, Tp, Tp, Tp, Tp, Tp, Tp, Tp, Tp, Tp, Tp, Tp, Tp, Tp, Tp, Tp, Tp, Tp, Tp, Tp, Tp, Tp, Tp, Tp, Tp, Tp, Tp, Tp, Tp, Tp, Tp, Tp, Tp, Tp, Tp, Tp, Tp, Tp, Tp, Tp, Tp, Tp, Tp, Tp, Tp, Tp, Tp, Tp, Tp, Tp, Tp, Tp, Tp, Tp, Tp, Tp, Tp, Tp, Tp, Tp, Tp, Tp, Tp, Tp, Tp, Tp, Tp, Tp, Tp, Tp, Tp, Tp, Tp, Tp, Tp, Tp, Tp, Tp, Tp, Tp, Tp, Tp, Tp, Tp, Tp, Tp, Tp, Tp, Tp, Tp, Tp, Tp, Tp, Tp, Tp, Tp, Tp, Tp] ∧ s = [.box zt, .row 1 (bs.map eb)] ∧ k + d = l.length ∧ i < k ∧ bs.length ≤ 4 * k ∧ (quotedF x0.r (l.drop (i + 1))).1 = bs ++ (quotedF x0.r (l.drop k)).1 ∧ (quotedF x0.r (l.drop (i + 1))).2 = (quotedF x0.r (l.drop k)).2) [true, true, false, false, true, false, true, true, true] (l.length - (i + 1)) [0, 1] (by decide) (pinned_zero _) ⟨i + 1, [], by (simp only [yE]; try rfl), by (simp only [yE]; try rfl), by omega, by omega, by simp, by simp, rfl⟩ ?_
  rintro d e s ⟨k, bs, rfl, rfl, hd, hk, hb, hx1, hx2⟩
  by_cases hkl : k < l.length
  · obtain ⟨x, hx⟩ := get_lt hkl
    have hdc := drop_cons hx
    have t1 : leI (l.length : Nat) (k : Nat) = false := leI_false (by omega)
    have v1 : wrapK .i64 ((k : Int) + 1) = ((k + 1 : Nat) : Int) := wrap_succ (by omega)
    have v2 : wrapK .i64 ((k : Int) + 2) = ((k + 2 : Nat) : Int) := wrap_nat (i := k + 2) (by omega)
    cases h1 : eqI x.r x0.r with
    | true =>
      rw [hdc, quotedF_shut h1] at hx1 hx2
      simp -implicitDefEqProofs only [↓yP, yT, Nat.reduceAdd, Nat.reduceLeDiff, reduceCtorEq, t1, rnGet hx, h1, v1, ybytes_eb, bytesOf_u8, zt13, ztd]
      exact ⟨lexTok 5 (bstr bs), k + 1, rfl, by omega, by omega, by rw [hx1, hx2]; simp⟩
    | false =>
      cases h2 : eqI x.r 10 with
      | true =>
        rw [hdc, quotedF_nl h1 h2, ← hdc] at hx1 hx2
        simp -implicitDefEqProofs only [↓yP, yT, Nat.reduceAdd, reduceCtorEq, t1, rnGet hx, h1, h2]
        refine Rcall_pure (rawX_spec l i k hl (by omega) (by omega)) (by rfl) fun y hy => ?_
        subst hy
        simp -implicitDefEqProofs only [↓yP, yT, Nat.reduceAdd, Nat.reduceLeDiff, reduceCtorEq, zt13, ztd]
        exact ⟨lexTok 6 (bstr (textF ((l.drop i).take (k - i)))), k, rfl, by omega, by omega, by rw [hx2]; simp only [if_true]; rw [used_drop l (by omega) (by omega)]⟩
      | false =>
        cases h3 : eqI x.r 92 with
        | true =>
          by_cases hk1 : k + 1 < l.length
          · obtain ⟨x2, hx2'⟩ := get_lt hk1
            have hdc2 := drop_cons hx2'
            have t2 : eqI ((k + 1 : Nat) : Int) (l.length : Nat) = false := eqI_false (by omega)
            cases h4 : eqI x2.r 10 with
            | true =>
              rw [hdc, hdc2, quotedF_escnl h1 h2 h3 h4] at hx1 hx2
              simp -implicitDefEqProofs only [↓yP, yT, Nat.reduceAdd, reduceCtorEq, t1, rnGet hx, rnGet hx2', h1, h2, h3, h4, t2, v1, v2]
              refine ⟨d - 2, [0, 1], by omega, by decide, pinned_zero _, k + 2, bs, by (simp only [yE, reduceCtorEq]; try rfl), by (simp only [yE]; try rfl), by omega, by omega, by omega, hx1, hx2⟩
            | false =>
              rw [hdc, hdc2, quotedF_esc h1 h2 h3 h4, ← hdc2] at hx1 hx2
              simp -implicitDefEqProofs only [↓yP, yT, Nat.reduceAdd, reduceCtorEq, t1, rnGet hx, rnGet hx2', h1, h2, h3, h4, t2, v1]
              refine Rcall_pure (escX_spec l k hl hkl) (by rfl) fun y hy => ?_
              obtain ⟨k', rfl, hk1, hk2, hk3⟩ := hy
              rw [hk3] at hx1 hx2
              obtain ⟨p1, p2⟩ := putB_len (escF (l.drop (k + 1))).1
              simp -implicitDefEqProofs only [↓yP, yT]
              refine Rcall_own' (els := bs.map eb) (n' := (bs ++ putB (escF (l.drop (k + 1))).1).length) (by simp) (by simp) (by rfl) (by rfl) (put_spec (escF (l.drop (k + 1))).1 bs (by omega)) ?_
              simp -implicitDefEqProofs only [↓yP, yT, Nat.reduceAdd]
              refine ⟨l.length - k', [0, 2], by omega, by decide, pinned_zero _, k', bs ++ putB (escF (l.drop (k + 1))).1, by (simp only [yE, reduceCtorEq]; try rfl), by (simp only [yE]; try rfl), by omega, by omega, by simp; omega, by rw [hx1, List.append_assoc], hx2⟩
          · have hdn : l.drop (k + 1) = [] := List.drop_eq_nil_of_le (by omega)
            rw [hdc, hdn, quotedF_lone h1 h2 h3] at hx1 hx2
            have t2 : eqI ((k + 1 : Nat) : Int) (l.length : Nat) = true := by rw [show k + 1 = l.length by omega]; exact eqI_true _
            simp -implicitDefEqProofs only [↓yP, yT, Nat.reduceAdd, reduceCtorEq, t1, rnGet hx, h1, h2, h3, t2, v1]
            refine ⟨d - 1, [0, 1], by omega, by decide, pinned_zero _, k + 1, bs, by (simp only [yE, reduceCtorEq]; try rfl), by (simp only [yE]; try rfl), by omega, by omega, by omega, by rw [hdn, quotedF_nil]; exact hx1, by rw [hdn, quotedF_nil]; exact hx2⟩
        | false =>
          rw [hdc, quotedF_plain h1 h2 h3] at hx1 hx2
          obtain ⟨p1, p2⟩ := putB_len x.r
          simp -implicitDefEqProofs only [↓yP, yT, Nat.reduceAdd, reduceCtorEq, t1, rnGet hx, h1, h2, h3]
          refine Rcall_own' (els := bs.map eb) (n' := (bs ++ putB x.r).length) (by simp) (by simp) (by rfl) (by rfl) (put_spec x.r bs (by omega)) ?_
          simp -implicitDefEqProofs only [↓yP, yT, Nat.reduceAdd, v1]
          refine ⟨d - 1, [0, 2], by omega, by decide, pinned_zero _, k + 1, bs ++ putB x.r, by (simp only [yE, reduceCtorEq]; try rfl), by (simp only [yE]; try rfl), by omega, by omega, by simp; omega, by rw [hx1, List.append_assoc], hx2⟩
  · have t1 : leI (l.length : Nat) (k : Nat) = true := leI_true (by omega)
    have hdn : l.drop k = [] := List.drop_eq_nil_of_le (by omega)
    rw [hdn, quotedF_nil] at hx1 hx2
    simp -implicitDefEqProofs only [↓yP, yT, Nat.reduceAdd, Nat.reduceLeDiff, reduceCtorEq, t1, ybytes_eb, bytesOf_u8, zt13, ztd]
    exact ⟨lexTok 5 (bstr bs), k, rfl, by omega, by omega, by rw [hx1, hx2, hdn]; simp⟩
def urlT (f s : List Rn) : Tok × List Rn := match urlF (blanks s) with
  | (some bs, r) => (lexTok 7 (bstr bs), r)
  | (none, r) => (lexTok 8 (bstr (textF (used f r))), r)
theorem blanks_cons {x : Rn} {r : List Rn} (h : blankB x.r = true) : blanks (x :: r) = blanks r := by rw [blanks, List.dropWhile_cons_of_pos (by simpa using h)]; rfl
theorem blanks_stop {l : List Rn} {k : Nat} (h : blankB (atR l (k : Nat)) = false) : blanks (l.drop k) = l.drop k := by
  cases hk : l[k]? with
  | none => rw [List.drop_eq_nil_of_le (by simpa using hk)]; rfl
  | some x => rw [atR_get hk] at h; rw [drop_cons hk, blanks, List.dropWhile_cons_of_neg (by simp [h])]
theorem blanks_go {l : List Rn} {k : Nat} (h : blankB (atR l (k : Nat)) = true) : blanks (l.drop k) = blanks (l.drop (k + 1)) := by
  cases hk : l[k]? with
  | none => rw [atR_out (by have : l.length ≤ k := by simpa using hk
                            omega)] at h; cases h
  | some x => rw [atR_get hk] at h; rw [drop_cons hk, blanks_cons h]
theorem map_app (o : Option (List Int)) (a b : List Int) : (o.map (b ++ ·)).map (a ++ ·) = o.map ((a ++ b) ++ ·) := by cases o <;> simp
theorem urlX_spec (l : List Rn) (f i : Nat) (hl : l.length ≤ 1000000) (hf : f < i) (hi : i ≤ l.length) : PCall C1 85 [.c (.p (rR l)), yd (.int .i64 (f : Nat)), yd (.int .i64 (i : Nat))] (LexX l f (urlT (l.drop f) (l.drop i))) := by
  refine Pf (by rfl) (by rfl) fn85 (by rfl) ?_
  simp only [Try.f85, List.length_cons, List.length_nil, List.replicate, List.cons_append, List.nil_append]
  simp -implicitDefEqProofs only [↓yP, yT, Nat.reduceLeDiff]
  refine Rl_inv (fun d e s => ∃ (k : Nat), e = [.c (.p (rR l)), yd (.int .i64 (f : Nat)), yd (.int .i64 (k : Nat)), Tp, Tp, Tp, .c (.ptr 0 0 0 0), Tp, Tp, Tp, Tp, Tp, Tp, Tp, Tp, Tp, Tp, Tp, Tp, Tp, Tp, Tp, Tp, Tp, Tp, Tp, Tp, Tp, Tp, Tp, Tp, Tp, Tp, Tp, Tp, Tp, Tp, Tp, Tp, Tp, Tp, Tp, Tp, Tp, Tp, Tp, Tp, Tp, Tp, Tp, Tp, Tp, Tp, Tp, Tp, Tp, Tp, Tp, Tp, Tp, Tp, Tp, Tp, Tp, Tp, Tp, Tp, Tp, Tp, Tp, Tp, Tp, Tp, Tp, Tp, Tp, Tp, Tp, Tp, Tp, Tp, Tp, Tp, Tp, Tp, Tp, Tp, Tp, Tp, Tp, Tp, Tp, Tp, Tp, Tp, Tp, Tp, Tp, Tp, Tp, Tp, Tp, Tp, Tp, Tp, Tp, Tp, Tp, Tp, Tp, Tp, Tp, Tp, Tp, Tp, Tp, Tp, Tp, Tp, Tp, Tp, Tp, Tp, Tp, Tp, Tp, Tp, Tp, Tp, Tp, Tp, Tp, Tp, Tp, Tp, Tp, Tp, Tp, Tp, Tp, Tp] ∧ s = [.box zt] ∧ k + d = l.length ∧ f < k ∧ blanks (l.drop i) = blanks (l.drop k)) [true, true, true, false, false, false, true] (l.length - i) [0] (by decide) (pinned_zero _) ⟨i, by (simp only [yE]; try rfl), by (simp only [yE]; try rfl), by omega, by omega, rfl⟩ ?_
  rintro d e s ⟨k, rfl, rfl, hd, hk, hbk⟩
  have w1 : wrapK .i64 ((k : Int) + 1) = ((k + 1 : Nat) : Int) := wrap_succ (by omega)
  simp -implicitDefEqProofs only [↓yP, yT]
  refine Rcall_pure (at_spec l _) (by rfl) fun y hy => ?_
  subst hy
  simp -implicitDefEqProofs only [yT]
  refine Rcall_pure (blank_spec1 _) (by rfl) fun y hy => ?_
  subst hy
  cases h1 : blankB (atR l (k : Nat)) with
  | true =>
    have hkl : k < l.length := Nat.lt_of_not_le fun hle => by
      rw [atR_out (by omega)] at h1
      exact absurd h1 (by decide)
    simp -implicitDefEqProofs only [↓yP, yT, w1]
    refine ⟨d - 1, [0], by omega, by decide, pinned_zero _, k + 1, by (simp only [yE]; try rfl), by (simp only [yE]; try rfl), by omega, by omega, by rw [hbk, blanks_go h1]⟩
  | false =>
    rw [blanks_stop h1] at hbk
    simp -implicitDefEqProofs only [↓yP, yT]
    refine Rl_nil 8 1 (by decide) rfl ?_
    refine Rl_inv (fun d e s => ∃ (k : Nat) (bs : List Int), e = [.c (.p (rR l)), yd (.int .i64 (f : Nat)), yd (.int .i64 (k : Nat)), Tp, Tp, Tp, .c (.ptr 0 0 0 0), Tp, .c (.own 1 1 0 bs.length), Tp, Tp, Tp, Tp, Tp, Tp, Tp, Tp, Tp, Tp, Tp, Tp, Tp, Tp, Tp, Tp, Tp, Tp, Tp, Tp, Tp, Tp, Tp, Tp, Tp, Tp, Tp, Tp, Tp, Tp, Tp, Tp, Tp, Tp, Tp, Tp, Tp, Tp, Tp, Tp, Tp, Tp, Tp, Tp, Tp, Tp, Tp, Tp, Tp, Tp, Tp, Tp, Tp, Tp, Tp, Tp, Tp, Tp, Tp, Tp, Tp, Tp, Tp, Tp, Tp, Tp, Tp, Tp, Tp, Tp, Tp, Tp, Tp, Tp, Tp, Tp, Tp, Tp, Tp, Tp, Tp, Tp, Tp, Tp, Tp, Tp, Tp, Tp, Tp, Tp, Tp, Tp, Tp, Tp, Tp, Tp, Tp, Tp, Tp, Tp, Tp, Tp, Tp, Tp, Tp, Tp, Tp, Tp, Tp, Tp, Tp, Tp, Tp, Tp, Tp, Tp, Tp, Tp, Tp, Tp, Tp, Tp, Tp, Tp, Tp, Tp, Tp, Tp, Tp, Tp, Tp, Tp] ∧ s = [.box zt, .row 1 (bs.map eb)] ∧ k + d = l.length ∧ f < k ∧ bs.length ≤ 4 * k ∧ urlF (blanks (l.drop i)) = ((urlF (l.drop k)).1.map (bs ++ ·), (urlF (l.drop k)).2)) [true, true, true, false, false, false, true, false, true] d [0, 1] (by decide) (pinned_zero _) ⟨k, [], by (simp only [yE]; try rfl), by (simp only [yE]; try rfl), by omega, by omega, by simp, by rw [hbk]; cases urlF (l.drop k) with | mk a b => cases a <;> rfl⟩ ?_
    clear hbk h1 w1 hd hk k d
    rintro d e s ⟨k, bs, rfl, rfl, hd, hk, hb, hx1⟩
    by_cases hkl : k < l.length
    · obtain ⟨x, hx⟩ := get_lt hkl
      have hdc := drop_cons hx
      have t1 : leI (l.length : Nat) (k : Nat) = false := leI_false (by omega)
      have w1 : wrapK .i64 ((k : Int) + 1) = ((k + 1 : Nat) : Int) := wrap_succ (by omega)
      cases h1 : eqI x.r 41 with
      | true =>
        rw [hdc, urlF_shut h1] at hx1
        simp -implicitDefEqProofs only [↓yP, yT, Nat.reduceAdd, Nat.reduceLeDiff, reduceCtorEq, t1, rnGet hx, h1, w1, ybytes_eb, bytesOf_u8, zt13, ztd]
        exact ⟨lexTok 7 (bstr bs), k + 1, rfl, by omega, by omega, by rw [urlT, hx1]; simp⟩
      | false =>
        simp -implicitDefEqProofs only [↓yP, yT, Nat.reduceAdd, reduceCtorEq, t1, rnGet hx, h1]
        refine Rcall_pure (blank_spec1 _) (by rfl) fun y hy => ?_
        subst hy
        cases h2 : blankB x.r with
        | true =>
          simp -implicitDefEqProofs only [↓yP, yT]
          refine Rl_inv (fun d' e s => ∃ (j : Nat), e = [.c (.p (rR l)), yd (.int .i64 (f : Nat)), Tp, Tp, Tp, Tp, .c (.ptr 0 0 0 0), Tp, .c (.own 1 1 0 bs.length), Tp, yd (.int .i64 (j : Nat)), Tp, Tp, Tp, Tp, Tp, Tp, Tp, Tp, Tp, Tp, Tp, Tp, Tp, Tp, Tp, Tp, Tp, Tp, Tp, Tp, Tp, Tp, Tp, Tp, Tp, Tp, Tp, Tp, Tp, Tp, Tp, Tp, Tp, Tp, Tp, Tp, Tp, Tp, Tp, Tp, Tp, Tp, Tp, Tp, Tp, Tp, Tp, Tp, Tp, Tp, Tp, Tp, Tp, Tp, Tp, Tp, Tp, Tp, Tp, Tp, Tp, Tp, Tp, Tp, Tp, Tp, Tp, Tp, Tp, Tp, Tp, Tp, Tp, Tp, Tp, Tp, Tp, Tp, Tp, Tp, Tp, Tp, Tp, Tp, Tp, Tp, Tp, Tp, Tp, Tp, Tp, Tp, Tp, Tp, Tp, Tp, Tp, Tp, Tp, Tp, Tp, Tp, Tp, Tp, Tp, Tp, Tp, Tp, Tp, Tp, Tp, Tp, Tp, Tp, Tp, Tp, Tp, Tp, Tp, Tp, Tp, Tp, Tp, Tp, Tp, Tp, Tp, Tp, Tp, Tp] ∧ s = [.box zt, .row 1 (bs.map eb)] ∧ j + d' = l.length ∧ k ≤ j ∧ (j = k → blankB (atR l (j : Nat)) = true) ∧ blanks (l.drop j) = blanks (l.drop (k + 1))) [true, true, false, false, false, false, true, false, true, false, true] d [0, 1] (by decide) (pinned_zero _) ⟨k, by (simp only [yE, reduceCtorEq]; try rfl), by (simp only [yE]; try rfl), by omega, by omega, fun _ => by rw [atR_get hx]; exact h2, by rw [hdc, blanks_cons h2]⟩ ?_
          rintro d' e s ⟨j, rfl, rfl, hd', hj, hjk, hbj⟩
          have v1 : wrapK .i64 ((j : Int) + 1) = ((j + 1 : Nat) : Int) := wrap_succ (by omega)
          simp -implicitDefEqProofs only [↓yP, yT]
          refine Rcall_pure (at_spec l _) (by rfl) fun y hy => ?_
          subst hy
          simp -implicitDefEqProofs only [yT]
          refine Rcall_pure (blank_spec1 _) (by rfl) fun y hy => ?_
          subst hy
          cases h3 : blankB (atR l (j : Nat)) with
          | true =>
            have hjl : j < l.length := Nat.lt_of_not_le fun hle => by
              rw [atR_out (by omega)] at h3
              exact absurd h3 (by decide)
            simp -implicitDefEqProofs only [↓yP, yT, v1]
            refine ⟨d' - 1, [0, 1], by omega, by decide, pinned_zero _, j + 1, by (simp only [yE, reduceCtorEq]; try rfl), by (simp only [yE]; try rfl), by omega, by omega, fun h => by omega, by rw [← hbj, blanks_go h3]⟩
          | false =>
            rw [blanks_stop h3] at hbj
            have hkj : k < j := by
              rcases Nat.lt_or_ge k j with g | g
              · exact g
              · rw [hjk (by omega)] at h3; cases h3
            by_cases hjl : j < l.length
            · obtain ⟨z, hz⟩ := get_lt hjl
              have hdz := drop_cons hz
              rw [hdz] at hbj
              have t3 : leI (l.length : Nat) (j : Nat) = false := leI_false (by omega)
              cases h4 : eqI z.r 41 with
              | true =>
                rw [hdc, urlF_bl1 h1 h2 hbj.symm h4] at hx1
                simp -implicitDefEqProofs only [↓yP, yT, Nat.reduceAdd, reduceCtorEq, t3, rnGet hz, h4]
                refine ⟨d', [0, 1], by omega, by decide, pinned_zero _, j, bs, by (simp only [yE, reduceCtorEq]; try rfl), by (simp only [yE]; try rfl), by omega, by omega, by omega, by rw [hdz, urlF_shut h4]; exact hx1⟩
              | false =>
                rw [hdc, urlF_bl2 h1 h2 hbj.symm h4, ← hdz] at hx1
                simp -implicitDefEqProofs only [↓yP, yT, Nat.reduceAdd, reduceCtorEq, t3, rnGet hz, h4]
                refine Rcall_pure (badX_spec l j hl (by omega)) (by rfl) fun y hy => ?_
                obtain ⟨k', rfl, hk1, hk2, hk3⟩ := hy
                rw [hk3] at hx1
                simp -implicitDefEqProofs only [↓yP, yT]
                refine Rcall_pure (rawX_spec l f k' hl (by omega) (by omega)) (by rfl) fun y hy => ?_
                subst hy
                simp -implicitDefEqProofs only [↓yP, yT, Nat.reduceAdd, Nat.reduceLeDiff, reduceCtorEq, zt13, ztd]
                exact ⟨lexTok 8 (bstr (textF ((l.drop f).take (k' - f)))), k', rfl, by omega, by omega, by rw [urlT, hx1]; simp only [Option.map_none]; rw [used_drop l (by omega) (by omega)]⟩
            · have t3 : leI (l.length : Nat) (j : Nat) = true := leI_true (by omega)
              have hdn : l.drop j = [] := List.drop_eq_nil_of_le (by omega)
              rw [hdc, urlF_bl0 h1 h2 (by rw [← hbj, hdn])] at hx1
              simp -implicitDefEqProofs only [↓yP, yT, t3]
              refine ⟨d', [0, 1], by omega, by decide, pinned_zero _, j, bs, by (simp only [yE, reduceCtorEq]; try rfl), by (simp only [yE]; try rfl), by omega, by omega, by omega, by rw [hdn, urlF_nil]; exact hx1⟩
        | false =>
          cases q1 : eqI x.r 34 with
          | true =>
            have hb0 : urlBad x (l.drop (k + 1)) = true := by simp only [urlBad, q1, Bool.true_or]
            simp -implicitDefEqProofs only [↓yP, yT, q1]
            have hu0 : urlF (l.drop k) = (none, badF (l.drop k)) := by rw [hdc, urlF_bad h1 h2 hb0]
            refine Rcall_pure (badX_spec l k hl (by omega)) (by rfl) fun y hy => ?_
            obtain ⟨k', rfl, hk1, hk2, hk3⟩ := hy
            rw [hk3] at hu0
            rw [hu0] at hx1
            simp -implicitDefEqProofs only [↓yP, yT]
            refine Rcall_pure (rawX_spec l f k' hl (by omega) (by omega)) (by rfl) fun y hy => ?_
            subst hy
            simp -implicitDefEqProofs only [↓yP, yT, Nat.reduceAdd, Nat.reduceLeDiff, reduceCtorEq, zt13, ztd]
            exact ⟨lexTok 8 (bstr (textF ((l.drop f).take (k' - f)))), k', rfl, by omega, by omega, by rw [urlT, hx1]; simp only [Option.map_none]; rw [used_drop l (by omega) (by omega)]⟩
          | false =>
          cases q2 : eqI x.r 39 with
          | true =>
            have hb0 : urlBad x (l.drop (k + 1)) = true := by simp only [urlBad, q1, q2, Bool.true_or, Bool.or_true]
            simp -implicitDefEqProofs only [↓yP, yT, q1, q2]
            have hu0 : urlF (l.drop k) = (none, badF (l.drop k)) := by rw [hdc, urlF_bad h1 h2 hb0]
            refine Rcall_pure (badX_spec l k hl (by omega)) (by rfl) fun y hy => ?_
            obtain ⟨k', rfl, hk1, hk2, hk3⟩ := hy
            rw [hk3] at hu0
            rw [hu0] at hx1
            simp -implicitDefEqProofs only [↓yP, yT]
            refine Rcall_pure (rawX_spec l f k' hl (by omega) (by omega)) (by rfl) fun y hy => ?_
            subst hy
            simp -implicitDefEqProofs only [↓yP, yT, Nat.reduceAdd, Nat.reduceLeDiff, reduceCtorEq, zt13, ztd]
            exact ⟨lexTok 8 (bstr (textF ((l.drop f).take (k' - f)))), k', rfl, by omega, by omega, by rw [urlT, hx1]; simp only [Option.map_none]; rw [used_drop l (by omega) (by omega)]⟩
          | false =>
          cases q3 : eqI x.r 40 with
          | true =>
            have hb0 : urlBad x (l.drop (k + 1)) = true := by simp only [urlBad, q1, q2, q3, Bool.true_or, Bool.or_true, Bool.false_or]
            simp -implicitDefEqProofs only [↓yP, yT, q1, q2, q3]
            have hu0 : urlF (l.drop k) = (none, badF (l.drop k)) := by rw [hdc, urlF_bad h1 h2 hb0]
            refine Rcall_pure (badX_spec l k hl (by omega)) (by rfl) fun y hy => ?_
            obtain ⟨k', rfl, hk1, hk2, hk3⟩ := hy
            rw [hk3] at hu0
            rw [hu0] at hx1
            simp -implicitDefEqProofs only [↓yP, yT]
            refine Rcall_pure (rawX_spec l f k' hl (by omega) (by omega)) (by rfl) fun y hy => ?_
            subst hy
            simp -implicitDefEqProofs only [↓yP, yT, Nat.reduceAdd, Nat.reduceLeDiff, reduceCtorEq, zt13, ztd]
            exact ⟨lexTok 8 (bstr (textF ((l.drop f).take (k' - f)))), k', rfl, by omega, by omega, by rw [urlT, hx1]; simp only [Option.map_none]; rw [used_drop l (by omega) (by omega)]⟩
          | false =>
          cases q4 : leI 9 x.r with
          | false =>
            have hb0 : urlBad x (l.drop (k + 1)) = true := by simp only [urlBad, q1, q2, q3, q4, Bool.true_or, Bool.or_true, Bool.not_false, Bool.false_or]
            simp -implicitDefEqProofs only [↓yP, yT, q1, q2, q3, q4]
            have hu0 : urlF (l.drop k) = (none, badF (l.drop k)) := by rw [hdc, urlF_bad h1 h2 hb0]
            refine Rcall_pure (badX_spec l k hl (by omega)) (by rfl) fun y hy => ?_
            obtain ⟨k', rfl, hk1, hk2, hk3⟩ := hy
            rw [hk3] at hu0
            rw [hu0] at hx1
            simp -implicitDefEqProofs only [↓yP, yT]
            refine Rcall_pure (rawX_spec l f k' hl (by omega) (by omega)) (by rfl) fun y hy => ?_
            subst hy
            simp -implicitDefEqProofs only [↓yP, yT, Nat.reduceAdd, Nat.reduceLeDiff, reduceCtorEq, zt13, ztd]
            exact ⟨lexTok 8 (bstr (textF ((l.drop f).take (k' - f)))), k', rfl, by omega, by omega, by rw [urlT, hx1]; simp only [Option.map_none]; rw [used_drop l (by omega) (by omega)]⟩
          | true =>
          cases q5 : eqI x.r 11 with
          | true =>
            have hb0 : urlBad x (l.drop (k + 1)) = true := by simp only [urlBad, q1, q2, q3, q4, q5, Bool.true_or, Bool.or_true, Bool.false_or]
            simp -implicitDefEqProofs only [↓yP, yT, q1, q2, q3, q4, q5]
            have hu0 : urlF (l.drop k) = (none, badF (l.drop k)) := by rw [hdc, urlF_bad h1 h2 hb0]
            refine Rcall_pure (badX_spec l k hl (by omega)) (by rfl) fun y hy => ?_
            obtain ⟨k', rfl, hk1, hk2, hk3⟩ := hy
            rw [hk3] at hu0
            rw [hu0] at hx1
            simp -implicitDefEqProofs only [↓yP, yT]
            refine Rcall_pure (rawX_spec l f k' hl (by omega) (by omega)) (by rfl) fun y hy => ?_
            subst hy
            simp -implicitDefEqProofs only [↓yP, yT, Nat.reduceAdd, Nat.reduceLeDiff, reduceCtorEq, zt13, ztd]
            exact ⟨lexTok 8 (bstr (textF ((l.drop f).take (k' - f)))), k', rfl, by omega, by omega, by rw [urlT, hx1]; simp only [Option.map_none]; rw [used_drop l (by omega) (by omega)]⟩
          | false =>
          cases q6 : leI 14 x.r <;> cases q7 : leI 32 x.r
          case true.false =>
            have hb0 : urlBad x (l.drop (k + 1)) = true := by simp only [urlBad, q1, q2, q3, q4, q5, q6, q7, Bool.true_or, Bool.or_true, Bool.not_false, Bool.and_self, Bool.false_or]
            simp -implicitDefEqProofs only [↓yP, yT, q1, q2, q3, q4, q5, q6, q7]
            have hu0 : urlF (l.drop k) = (none, badF (l.drop k)) := by rw [hdc, urlF_bad h1 h2 hb0]
            refine Rcall_pure (badX_spec l k hl (by omega)) (by rfl) fun y hy => ?_
            obtain ⟨k', rfl, hk1, hk2, hk3⟩ := hy
            rw [hk3] at hu0
            rw [hu0] at hx1
            simp -implicitDefEqProofs only [↓yP, yT]
            refine Rcall_pure (rawX_spec l f k' hl (by omega) (by omega)) (by rfl) fun y hy => ?_
            subst hy
            simp -implicitDefEqProofs only [↓yP, yT, Nat.reduceAdd, Nat.reduceLeDiff, reduceCtorEq, zt13, ztd]
            exact ⟨lexTok 8 (bstr (textF ((l.drop f).take (k' - f)))), k', rfl, by omega, by omega, by rw [urlT, hx1]; simp only [Option.map_none]; rw [used_drop l (by omega) (by omega)]⟩
          all_goals
            cases q8 : eqI x.r 127 with
            | true =>
              have hb0 : urlBad x (l.drop (k + 1)) = true := by simp only [urlBad, q1, q2, q3, q4, q5, q6, q7, q8, Bool.true_or, Bool.or_true, Bool.not_false, Bool.true_and, Bool.false_or]
              simp -implicitDefEqProofs only [↓yP, yT, q1, q2, q3, q4, q5, q6, q7, q8]
              have hu0 : urlF (l.drop k) = (none, badF (l.drop k)) := by rw [hdc, urlF_bad h1 h2 hb0]
              refine Rcall_pure (badX_spec l k hl (by omega)) (by rfl) fun y hy => ?_
              obtain ⟨k', rfl, hk1, hk2, hk3⟩ := hy
              rw [hk3] at hu0
              rw [hu0] at hx1
              simp -implicitDefEqProofs only [↓yP, yT]
              refine Rcall_pure (rawX_spec l f k' hl (by omega) (by omega)) (by rfl) fun y hy => ?_
              subst hy
              simp -implicitDefEqProofs only [↓yP, yT, Nat.reduceAdd, Nat.reduceLeDiff, reduceCtorEq, zt13, ztd]
              exact ⟨lexTok 8 (bstr (textF ((l.drop f).take (k' - f)))), k', rfl, by omega, by omega, by rw [urlT, hx1]; simp only [Option.map_none]; rw [used_drop l (by omega) (by omega)]⟩
            | false =>
            cases q9 : eqI x.r 92 with
            | false =>
              have hb0 : urlBad x (l.drop (k + 1)) = false := by simp only [urlBad, q1, q2, q3, q4, q5, q6, q7, q8, q9, Bool.not_true, Bool.not_false, Bool.or_false, Bool.and_true, Bool.false_and, Bool.and_false]
              rw [hdc, urlF_plain h1 h2 hb0 q9] at hx1
              obtain ⟨p1, p2⟩ := putB_len x.r
              simp -implicitDefEqProofs only [↓yP, yT, q1, q2, q3, q4, q5, q6, q7, q8, q9]
              refine Rcall_own' (els := bs.map eb) (n' := (bs ++ putB x.r).length) (by simp) (by simp) (by rfl) (by rfl) (put_spec x.r bs (by omega)) ?_
              simp -implicitDefEqProofs only [↓yP, yT, Nat.reduceAdd, w1]
              refine ⟨d - 1, [0, 2], by omega, by decide, pinned_zero _, k + 1, bs ++ putB x.r, by (simp only [yE, reduceCtorEq]; try rfl), by (simp only [yE]; try rfl), by omega, by omega, by simp; omega, by rw [hx1, map_app]⟩
            | true =>
              simp -implicitDefEqProofs only [↓yP, yT, q1, q2, q3, q4, q5, q6, q7, q8, q9]
              refine Rcall_pure (escape_spec l k (by omega)) (by rfl) fun y hy => ?_
              subst hy
              rw [esc_drop]
              cases q10 : esc0 (l.drop k) with
              | false =>
                rw [hdc] at q10
                have hb0 : urlBad x (l.drop (k + 1)) = true := by simp only [urlBad, q9, q10, Bool.or_true, Bool.not_false, Bool.and_self]
                simp -implicitDefEqProofs only [↓yP, yT]
                have hu0 : urlF (l.drop k) = (none, badF (l.drop k)) := by rw [hdc, urlF_bad h1 h2 hb0]
                refine Rcall_pure (badX_spec l k hl (by omega)) (by rfl) fun y hy => ?_
                obtain ⟨k', rfl, hk1, hk2, hk3⟩ := hy
                rw [hk3] at hu0
                rw [hu0] at hx1
                simp -implicitDefEqProofs only [↓yP, yT]
                refine Rcall_pure (rawX_spec l f k' hl (by omega) (by omega)) (by rfl) fun y hy => ?_
                subst hy
                simp -implicitDefEqProofs only [↓yP, yT, Nat.reduceAdd, Nat.reduceLeDiff, reduceCtorEq, zt13, ztd]
                exact ⟨lexTok 8 (bstr (textF ((l.drop f).take (k' - f)))), k', rfl, by omega, by omega, by rw [urlT, hx1]; simp only [Option.map_none]; rw [used_drop l (by omega) (by omega)]⟩
              | true =>
                rw [hdc] at q10
                have hb0 : urlBad x (l.drop (k + 1)) = false := by simp only [urlBad, q1, q2, q3, q4, q5, q6, q7, q8, q9, q10, Bool.not_true, Bool.not_false, Bool.or_false, Bool.and_true, Bool.and_false]
                rw [hdc, urlF_esc h1 h2 hb0 q9] at hx1
                simp -implicitDefEqProofs only [↓yP, yT, q9]
                refine Rcall_pure (escX_spec l k hl hkl) (by rfl) fun y hy => ?_
                obtain ⟨k', rfl, hk1, hk2, hk3⟩ := hy
                rw [hk3] at hx1
                obtain ⟨p1, p2⟩ := putB_len (escF (l.drop (k + 1))).1
                simp -implicitDefEqProofs only [↓yP, yT]
                refine Rcall_own' (els := bs.map eb) (n' := (bs ++ putB (escF (l.drop (k + 1))).1).length) (by simp) (by simp) (by rfl) (by rfl) (put_spec (escF (l.drop (k + 1))).1 bs (by omega)) ?_
                simp -implicitDefEqProofs only [↓yP, yT, Nat.reduceAdd]
                refine ⟨l.length - k', [0, 2], by omega, by decide, pinned_zero _, k', bs ++ putB (escF (l.drop (k + 1))).1, by (simp only [yE, reduceCtorEq]; try rfl), by (simp only [yE]; try rfl), by omega, by omega, by simp; omega, by rw [hx1, map_app]⟩
    · have t1 : leI (l.length : Nat) (k : Nat) = true := leI_true (by omega)
      have hdn : l.drop k = [] := List.drop_eq_nil_of_le (by omega)
      rw [hdn, urlF_nil] at hx1
      simp -implicitDefEqProofs only [↓yP, yT, Nat.reduceAdd, Nat.reduceLeDiff, reduceCtorEq, t1, ybytes_eb, bytesOf_u8, zt13, ztd]
      exact ⟨lexTok 7 (bstr bs), k, rfl, by omega, by omega, by rw [urlT, hx1, hdn]; simp⟩
end Go.Vx.Seat
end
section
open Go Go.Vx Go.Proofs
namespace Go.Vx.Seat
theorem toldSh1 : ToldSh C1 := by
  intro f tg ht k g lo lo' args args' h h' v h1 hx hlo ha hh
  have ht' : (if f = 8 then some (tell0 (.bool true)) else C0.told f) = some tg := ht
  split at ht'
  · cases ht'
    unfold tell0 at hx
    cases args with
    | nil =>
      have : args' = [] := List.eq_nil_of_length_eq_zero ha.1.symm
      subst this
      cases hx
      exact ⟨_, h', rfl, .of_dry rfl, hh⟩
    | cons a l => cases hx
  · have h0 : C0.told f = if f = 0 then some (fun _ _ _ => none) else none := rfl
    rw [h0] at ht'
    split at ht'
    · cases ht'; cases hx
    · cases ht'
end Go.Vx.Seat
end
