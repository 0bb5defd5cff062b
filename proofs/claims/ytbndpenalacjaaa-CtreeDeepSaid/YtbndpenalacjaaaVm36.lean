/- Texts joined: VxEq VxAlive VyTy21 VyPack VyC1 VyC2 VyC3 VyC4 VyC5 VyC6 VyC7 VyC8 VyC9 VyC10 VyD0 VyF1 VyF2. -/
import Derived.Test.YtbndpenalacjaaaVxTold
import Derived.KernelRfl
import Derived.Test.YtbndpenalacjaaaProg
import Derived.Test.YtbndpenalacjaaaVyRun
import Derived.Test.YtbndpenalacjaaaVyFrame
/- The '==' of the tokens, the numbers and the colours is the cells' own. -/
section
namespace Go.Vx.Seat
open Go.Proofs
theorem eq_int (d : Nat) (a b : Int) (w : World) : (Op.equalIn (d + 1) 3 (.int .i64 a) (.int .i64 b)).run Try.prog w = .ok (a == b) w := by
  simp [Op.equalIn, run_underlying Try.underlying3]
theorem eq_str (d : Nat) (a b : ByteArray) (w : World) : (Op.equalIn (d + 1) 9 (.string a) (.string b)).run Try.prog w = .ok (a == b) w := by
  simp [Op.equalIn, run_underlying Try.underlying9]
theorem eq_bool (d : Nat) (a b : Bool) (w : World) : (Op.equalIn (d + 1) 4 (.bool a) (.bool b)).run Try.prog w = .ok (a == b) w := by
  simp [Op.equalIn, run_underlying Try.underlying4]
theorem ite_ok (b c : Bool) (w : World) : (if b = false then Result.ok false w else Result.ok c w) = Result.ok (b && c) w := by cases b <;> rfl
theorem heldN : Try.prog.stoodInHeld 41 = false := by kernel_rfl
theorem heldT : Try.prog.stoodInHeld 44 = false := by kernel_rfl
theorem ag3 : tyAgg Try.prog 3 = some false := by kernel_rfl
theorem ag9 : tyAgg Try.prog 9 = some false := by kernel_rfl
theorem ag4 : tyAgg Try.prog 4 = some false := by kernel_rfl
theorem agN : tyAgg Try.prog 41 = some true := by kernel_rfl
theorem agC : tyAgg Try.prog 42 = some true := by kernel_rfl
theorem szN : tySz Try.prog 41 = 3 := by kernel_rfl
theorem szC : tySz Try.prog 42 = 4 := by kernel_rfl
theorem sz3 : tySz Try.prog 3 = 1 := by kernel_rfl
theorem part_cell {t : TypeId} (h : tyAgg Try.prog t = some false) (cs : Array Value) (off : Nat) (w : World) : (part t cs off).run Try.prog w = match cs[off]? with | some v => .ok v w | none => .halt (.stuck "part: no such cell") w := by
  simp only [part, Sem.run_bind, run_isAgg h, Result.andThen]
  cases cs[off]? <;> simp
theorem part_agg {t n : TypeId} (h : tyAgg Try.prog t = some true) (hz : tySz Try.prog t = n) (cs : Array Value) (off : Nat) (w : World) : (part t cs off).run Try.prog w = .ok (.agg (cs.extract off (off + n))) w := by
  simp [part, run_isAgg h, run_sizeOf (tyAgg_info h), hz]
theorem eq_num (d : Nat) (a b : Bool) (a1 b1 a2 b2 : ByteArray) (w : World) : (Op.equalIn (d + 1 + 1) 41 (.agg #[.bool a, .string a1, .string a2]) (.agg #[.bool b, .string b1, .string b2])).run Try.prog w = .ok ((a == b) && ((a1 == b1) && (a2 == b2))) w := by
  rw [Op.equalIn]
  simp only [Sem.run_bind, run_underlying Try.underlying41, Result.andThen, run_program, heldN]
  simp only [forIn]
  simp [part_cell ag4, part_cell ag9, eq_bool, eq_str]
  simp only [ite_ok]
  cases h1 : a == b <;> cases h2 : a1 == b1 <;> cases h3 : a2 == b2 <;> simp_all
theorem eq_col (d : Nat) (a0 a1 a2 a3 b0 b1 b2 b3 : Int) (w : World) : (Op.equalIn (d + 1 + 1) 42 (.agg #[.int .i64 a0, .int .i64 a1, .int .i64 a2, .int .i64 a3]) (.agg #[.int .i64 b0, .int .i64 b1, .int .i64 b2, .int .i64 b3])).run Try.prog w =
    .ok ((a0 == b0) && ((a1 == b1) && ((a2 == b2) && (a3 == b3)))) w := by
  rw [Op.equalIn]
  simp only [Sem.run_bind, run_underlying Try.underlying42, Result.andThen, run_sizeOf (tyAgg_info ag3), sz3]
  simp [Std.Legacy.Range.forIn_eq_forIn_range', Std.Legacy.Range.size, List.range'_succ, part_cell ag3, eq_int]
  by_cases h1 : a0 = b0 <;> by_cases h2 : a1 = b1 <;> by_cases h3 : a2 = b2 <;> by_cases h4 : a3 = b3 <;> simp_all
theorem eq_tok (d : Nat) (a0 a8 a9 a10 a11 a12 b0 b8 b9 b10 b11 b12 : Int) (a1 a2 a4 a5 b1 b2 b4 b5 : ByteArray) (p3 p6 p7 q3 q6 q7 : Bool) (w : World) :
    (Op.equalIn (d + 1 + 1 + 1) 44 (.agg #[.int .i64 a0, .string a1, .string a2, .bool p3, .string a4, .string a5, .bool p6, .bool p7, .int .i64 a8, .int .i64 a9, .int .i64 a10, .int .i64 a11, .int .i64 a12])
      (.agg #[.int .i64 b0, .string b1, .string b2, .bool q3, .string b4, .string b5, .bool q6, .bool q7, .int .i64 b8, .int .i64 b9, .int .i64 b10, .int .i64 b11, .int .i64 b12])).run Try.prog w =
    .ok ((a0 == b0) && ((a1 == b1) && ((a2 == b2) && (((p3 == q3) && ((a4 == b4) && (a5 == b5))) && ((p6 == q6) && ((p7 == q7) && (((a8 == b8) && ((a9 == b9) && ((a10 == b10) && (a11 == b11)))) && (a12 == b12)))))))) w := by
  rw [Op.equalIn]
  simp only [Sem.run_bind, run_underlying Try.underlying44, Result.andThen, run_program, heldT]
  simp only [forIn]
  simp [part_cell ag4, part_cell ag9, part_cell ag3, part_agg agN szN, part_agg agC szC, eq_bool, eq_str, eq_int, eq_num, eq_col]
  by_cases h0 : ¬ a0 = b0
  · simp [h0]
  have h0 : a0 = b0 := Classical.not_not.1 h0
  cases h1 : a1 == b1
  · simp
  cases h2 : a2 == b2
  · simp
  by_cases h3 : ¬ p3 = q3
  · simp [h3]
  have h3 : p3 = q3 := Classical.not_not.1 h3
  cases h4 : a4 == b4
  · simp
  cases h5 : a5 == b5
  · simp [h3]
  by_cases h6 : ¬ p6 = q6
  · simp [h0, h3, h6]
  have h6 : p6 = q6 := Classical.not_not.1 h6
  by_cases h7 : ¬ p7 = q7
  · simp [h0, h3, h6, h7]
  have h7 : p7 = q7 := Classical.not_not.1 h7
  by_cases h8 : ¬ a8 = b8
  · simp [h0, h3, h6, h7, h8]
  have h8 : a8 = b8 := Classical.not_not.1 h8
  by_cases h9 : ¬ a9 = b9
  · simp [h0, h3, h6, h7, h8, h9]
  have h9 : a9 = b9 := Classical.not_not.1 h9
  by_cases h10 : ¬ a10 = b10
  · simp [h0, h3, h6, h7, h8, h9, h10]
  have h10 : a10 = b10 := Classical.not_not.1 h10
  by_cases h11 : ¬ a11 = b11
  · simp [h0, h3, h6, h7, h8, h9, h10, h11]
  have h11 : a11 = b11 := Classical.not_not.1 h11
  by_cases h12 : a12 = b12 <;> simp [h0, h3, h6, h7, h8, h9, h10, h11, h12]

theorem likes_int {k : IntKind} {z : Int} {zs xs : List Value} (h : likes (.int k z :: zs) xs = true) : ∃ n xs', xs = .int k n :: xs' ∧ likes zs xs' = true := by
  cases xs with
  | nil => simp [likes] at h
  | cons x xs =>
    cases x <;> simp [likes] at h
    obtain ⟨rfl, h⟩ := h
    exact ⟨_, xs, rfl, h⟩
theorem likes_str {z : ByteArray} {zs xs : List Value} (h : likes (.string z :: zs) xs = true) : ∃ n xs', xs = .string n :: xs' ∧ likes zs xs' = true := by
  cases xs with
  | nil => simp [likes] at h
  | cons x xs => cases x <;> simp [likes] at h; exact ⟨_, xs, rfl, h⟩
theorem likes_bool {z : Bool} {zs xs : List Value} (h : likes (.bool z :: zs) xs = true) : ∃ n xs', xs = .bool n :: xs' ∧ likes zs xs' = true := by
  cases xs with
  | nil => simp [likes] at h
  | cons x xs => cases x <;> simp [likes] at h; exact ⟨_, xs, rfl, h⟩
theorem likes_nil {xs : List Value} (h : likes [] xs = true) : xs = [] := by
  cases xs with
  | nil => rfl
  | cons x xs => simp [likes] at h

abbrev noStr : ByteArray := ⟨#[]⟩
theorem zeroT : tyZero Try.prog 44 = some (.agg #[.int .i64 0, .string noStr, .string noStr, .bool false, .string noStr, .string noStr, .bool false, .bool false, .int .i64 0, .int .i64 0, .int .i64 0, .int .i64 0, .int .i64 0]) := by kernel_rfl
theorem zeroN : tyZero Try.prog 41 = some (.agg #[.bool false, .string noStr, .string noStr]) := by kernel_rfl
theorem zeroC : tyZero Try.prog 42 = some (.agg #[.int .i64 0, .int .i64 0, .int .i64 0, .int .i64 0]) := by kernel_rfl

theorem likesN {xs : List Value} (h : likes [.bool false, .string noStr, .string noStr] xs = true) : ∃ a b c, xs = [.bool a, .string b, .string c] := by
  obtain ⟨a, x1, rfl, g1⟩ := likes_bool h
  obtain ⟨b, x2, rfl, g2⟩ := likes_str g1
  obtain ⟨c, x3, rfl, g3⟩ := likes_str g2
  cases likes_nil g3
  exact ⟨a, b, c, rfl⟩
theorem likesC {xs : List Value} (h : likes [.int .i64 0, .int .i64 0, .int .i64 0, .int .i64 0] xs = true) : ∃ a b c d, xs = [.int .i64 a, .int .i64 b, .int .i64 c, .int .i64 d] := by
  obtain ⟨a, x1, rfl, g1⟩ := likes_int h
  obtain ⟨b, x2, rfl, g2⟩ := likes_int g1
  obtain ⟨c, x3, rfl, g3⟩ := likes_int g2
  obtain ⟨d, x4, rfl, g4⟩ := likes_int g3
  cases likes_nil g4
  exact ⟨a, b, c, d, rfl⟩
theorem likesT {xs : List Value} (h : likes [.int .i64 0, .string noStr, .string noStr, .bool false, .string noStr, .string noStr, .bool false, .bool false, .int .i64 0, .int .i64 0, .int .i64 0, .int .i64 0, .int .i64 0] xs = true) :
    ∃ a0 a1 a2 a3 a4 a5 a6 a7 a8 a9 a10 a11 a12, xs = [.int .i64 a0, .string a1, .string a2, .bool a3, .string a4, .string a5, .bool a6, .bool a7, .int .i64 a8, .int .i64 a9, .int .i64 a10, .int .i64 a11, .int .i64 a12] := by
  obtain ⟨a0, x0, rfl, g1⟩ := likes_int h
  obtain ⟨a1, x1, rfl, g2⟩ := likes_str g1
  obtain ⟨a2, x2, rfl, g3⟩ := likes_str g2
  obtain ⟨a3, x3, rfl, g4⟩ := likes_bool g3
  obtain ⟨a4, x4, rfl, g5⟩ := likes_str g4
  obtain ⟨a5, x5, rfl, g6⟩ := likes_str g5
  obtain ⟨a6, x6, rfl, g7⟩ := likes_bool g6
  obtain ⟨a7, x7, rfl, g8⟩ := likes_bool g7
  obtain ⟨a8, x8, rfl, g9⟩ := likes_int g8
  obtain ⟨a9, x9, rfl, g10⟩ := likes_int g9
  obtain ⟨a10, x10, rfl, g11⟩ := likes_int g10
  obtain ⟨a11, x11, rfl, g12⟩ := likes_int g11
  obtain ⟨a12, x12, rfl, g13⟩ := likes_int g12
  cases likes_nil g13
  exact ⟨_, _, _, _, _, _, _, _, _, _, _, _, _, rfl⟩

theorem guard_none {t : TypeId} (h : Try.prog.eqGuardType Try.prog.depth t = false) (op : BinOp) (xo yo : Operand) (a b : Array Value) (w : World) : (eqGuard op t xo yo (.agg a) (.agg b)).run Try.prog w = .ok () w := by
  unfold eqGuard
  cases op <;> simp [h]
theorem guardT : Try.prog.eqGuardType Try.prog.depth 44 = false := by kernel_rfl
theorem guardN : Try.prog.eqGuardType Try.prog.depth 41 = false := by kernel_rfl
theorem guardC : Try.prog.eqGuardType Try.prog.depth 42 = false := by kernel_rfl

theorem arr_of {xs : Array Value} {l : List Value} (h : xs.toList = l) : xs = l.toArray := by subst h; simp

theorem eq_of_deep {t : TypeId} {x y : Value} {b : Bool} {w : World} (h : ∀ d, (Op.equalIn (d + 1 + 1 + 1) t x y).run Try.prog w = .ok b w) : (Op.equal t x y).run Try.prog w = .ok b w := by
  unfold Op.equal
  have : Op.maxDepth = 9997 + 1 + 1 + 1 := by unfold Op.maxDepth; omega
  rw [this]
  exact h 9997

theorem eqsOk : EqsOk Try.prog [44, 41, 42] := by
  intro t ht xs ys b hab xo yo w
  simp only [List.mem_cons, List.not_mem_nil, or_false] at ht
  rcases ht with rfl | rfl | rfl
  · refine ⟨guard_none guardT _ _ _ _ _ _, guard_none guardT _ _ _ _ _ _, ?_⟩
    unfold aggEq at hab
    rw [zeroT] at hab
    simp only at hab
    split at hab
    · rename_i hl
      simp only [Bool.and_eq_true] at hl
      obtain ⟨a0, a1, a2, a3, a4, a5, a6, a7, a8, a9, a10, a11, a12, hx⟩ := likesT hl.1
      obtain ⟨b0, b1, b2, b3, b4, b5, b6, b7, b8, b9, b10, b11, b12, hy⟩ := likesT hl.2
      rw [hx, hy] at hab
      simp only [cellsEq, cellEq, if_true] at hab
      cases hab
      rw [arr_of hx, arr_of hy]
      refine eq_of_deep fun d => ?_
      have := eq_tok d a0 a8 a9 a10 a11 a12 b0 b8 b9 b10 b11 b12 a1 a2 a4 a5 b1 b2 b4 b5 a3 a6 a7 b3 b6 b7 w
      rw [this]
      refine congrArg (fun q => Result.ok q w) ?_
      simp only [beq_str, Bool.and_assoc, Bool.and_true]
      rfl
    · cases hab
  · refine ⟨guard_none guardN _ _ _ _ _ _, guard_none guardN _ _ _ _ _ _, ?_⟩
    unfold aggEq at hab
    rw [zeroN] at hab
    simp only at hab
    split at hab
    · rename_i hl
      simp only [Bool.and_eq_true] at hl
      obtain ⟨a0, a1, a2, hx⟩ := likesN hl.1
      obtain ⟨b0, b1, b2, hy⟩ := likesN hl.2
      rw [hx, hy] at hab
      simp only [cellsEq, cellEq] at hab
      cases hab
      rw [arr_of hx, arr_of hy]
      refine eq_of_deep fun d => ?_
      have := eq_num (d + 1) a0 b0 a1 b1 a2 b2 w
      rw [this]
      refine congrArg (fun q => Result.ok q w) ?_
      simp only [beq_str, Bool.and_true]
    · cases hab
  · refine ⟨guard_none guardC _ _ _ _ _ _, guard_none guardC _ _ _ _ _ _, ?_⟩
    unfold aggEq at hab
    rw [zeroC] at hab
    simp only at hab
    split at hab
    · rename_i hl
      simp only [Bool.and_eq_true] at hl
      obtain ⟨a0, a1, a2, a3, hx⟩ := likesC hl.1
      obtain ⟨b0, b1, b2, b3, hy⟩ := likesC hl.2
      rw [hx, hy] at hab
      simp only [cellsEq, cellEq, if_true] at hab
      cases hab
      rw [arr_of hx, arr_of hy]
      refine eq_of_deep fun d => ?_
      have := eq_col (d + 1) a0 a1 a2 a3 b0 b1 b2 b3 w
      rw [this]
      refine congrArg (fun q => Result.ok q w) ?_
      simp only [Bool.and_true]
      rfl
    · cases hab

def zerosB (P : Program) : Bool := P.types.toList.all fun i => match i.zero with | some z => isTup z || dryV z | none => true
theorem zerosOk_of {P : Program} (h : zerosB P = true) : ZerosOk P := by
  intro t z hz
  obtain ⟨i, hi, hiz, ht⟩ := tyZero_types hz
  unfold zerosB at h
  simp only [List.all_eq_true] at h
  have hm : i ∈ P.types.toList := by
    rw [Array.getElem?_eq_some_iff] at hi
    obtain ⟨hlt, rfl⟩ := hi
    simp
  have := h i hm
  rw [hiz] at this
  simp only [ht, Bool.false_or] at this
  exact this
theorem zerosOk : ZerosOk Try.prog := zerosOk_of (by kernel_rfl)
theorem mixed : Try.prog.follows .mixedOrders = true := by kernel_rfl

noncomputable def C0 : Cx := { P := Try.prog, eqs := [44, 41, 42], told := fun f => if f = 0 then some (fun _ _ _ => none) else none, top := 101 }
def fnsB (P : Program) : Nat → Bool
  | 0 => true
  | f + 1 => fnsB P f && (f == 0 || (match P.funcs.toList[f]? with | some fn => okFn P fn | none => true))
theorem fnsB_all {P : Program} : ∀ {n : Nat}, fnsB P n = true → ∀ f fn, f < n → f ≠ 0 → P.funcs[f]? = some fn → okFn P fn = true
  | 0, _, f, fn, hf, _, _ => by omega
  | n + 1, h, f, fn, hf, hs, hfn => by
    simp only [fnsB, Bool.and_eq_true] at h
    by_cases e : f = n
    · subst e
      have : P.funcs.toList[f]? = some fn := by simpa using hfn
      have h2 := h.2
      rw [this] at h2
      simpa [hs] using h2
    · exact fnsB_all h.1 f fn (by omega) hs hfn
theorem fns0 : fnsB Try.prog 101 = true := by kernel_rfl
theorem told0 (f : FuncId) : C0.told f = if f = 0 then some (fun _ _ _ => none) else none := rfl
theorem good0 : Good C0 := by
  refine ⟨mixed, eqsOk, zerosOk, fun f fn hf ht hfn => ?_, fun f g h lo args h1 v h' hx => ?_, fun base f g h lo f' args h1 v h' hx => ?_⟩
  · refine fnsB_all fns0 f fn hf (fun e => ?_) hfn
    rw [told0, if_pos e] at ht; cases ht
  · rw [told0] at h
    split at h <;> cases h
    cases hx
  · rw [told0] at h
    split at h <;> cases h
    simp at hx
end Go.Vx.Seat
end
/- The law's example is alive: the kernel runs it. -/
section
namespace Go.Vx.Seat
open Go.Proofs
def isTrue : Option (Value × H) → Bool | some (.bool true, _) => true | _ => false
theorem isTrue_some {r : Option (Value × H)} (h : isTrue r = true) : ∃ h', r = some (.bool true, h') := by
  unfold isTrue at h
  split at h
  · exact ⟨_, rfl⟩
  · cases h
theorem alive0 : isTrue (xfun C0 3000 0 8 [] ⟨0, []⟩) = true := by kernel_rfl
noncomputable def C1 : Cx := C0.tell 8 (tell0 (.bool true))
theorem good1 : Good C1 := by
  obtain ⟨h', h⟩ := isTrue_some alive0
  exact good_tell0 good0 h rfl
end Go.Vx.Seat
end
/- Facts about the types of the program. (printed by gen_ty.py) -/
section
open Go Go.Vx Go.Proofs
namespace Go.Vx.Seat
theorem tyA0 : tySz Try.prog 2 = 1 ∧
  tyBytes Try.prog 2 = 8 ∧
  tyAgg Try.prog 2 = some false ∧
  tyIntOrNone Try.prog 2 = true ∧
  tyIsStr Try.prog 2 = false ∧
  tyInt Try.prog 2 = some .i64 ∧
  tySz Try.prog 3 = 1 ∧
  tyBytes Try.prog 3 = 8 ∧
  tyAgg Try.prog 3 = some false ∧
  tyIntOrNone Try.prog 3 = true ∧
  tyIsStr Try.prog 3 = false ∧
  tyInt Try.prog 3 = some .i64 ∧
  tySz Try.prog 4 = 1 ∧
  tyBytes Try.prog 4 = 1 ∧
  tyAgg Try.prog 4 = some false ∧
  tyIntOrNone Try.prog 4 = false ∧
  tyIsStr Try.prog 4 = false ∧
  tySz Try.prog 5 = 1 ∧
  tyBytes Try.prog 5 = 1 ∧
  tyAgg Try.prog 5 = some false ∧
  tyIntOrNone Try.prog 5 = true ∧
  tyIsStr Try.prog 5 = false ∧
  tyInt Try.prog 5 = some .u8 ∧
  tySz Try.prog 9 = 1 ∧
  tyBytes Try.prog 9 = 16 ∧
  tyAgg Try.prog 9 = some false ∧
  tyIntOrNone Try.prog 9 = false ∧
  tyIsStr Try.prog 9 = true ∧
  tySz Try.prog 21 = 1 ∧
  tyBytes Try.prog 21 = 4 ∧
  tyAgg Try.prog 21 = some false ∧
  tyIntOrNone Try.prog 21 = true ∧
  tyIsStr Try.prog 21 = false ∧
  tyInt Try.prog 21 = some .i32 ∧
  tySz Try.prog 22 = 1 ∧
  tyBytes Try.prog 22 = 24 ∧
  tyAgg Try.prog 22 = some false ∧
  tyIntOrNone Try.prog 22 = false ∧
  tyIsStr Try.prog 22 = false ∧
  tyElem Try.prog 22 = some 44 ∧
  tySz Try.prog 23 = 1 ∧
  tyBytes Try.prog 23 = 24 ∧
  tyAgg Try.prog 23 = some false ∧
  tyIntOrNone Try.prog 23 = false ∧
  tyIsStr Try.prog 23 = false ∧
  tyElem Try.prog 23 = some 47 ∧
  tySz Try.prog 32 = 1 ∧
  tyBytes Try.prog 32 = 24 ∧
  tyAgg Try.prog 32 = some false ∧
  tyIntOrNone Try.prog 32 = false ∧
  tyIsStr Try.prog 32 = false ∧
  tyElem Try.prog 32 = some 5 ∧
  tySz Try.prog 37 = 1 ∧
  tyBytes Try.prog 37 = 24 ∧
  tyAgg Try.prog 37 = some false ∧
  tyIntOrNone Try.prog 37 = false ∧
  tyIsStr Try.prog 37 = false ∧
  tyElem Try.prog 37 = some 39 ∧
  tySz Try.prog 39 = 1 ∧
  tyBytes Try.prog 39 = 24 :=
  ⟨by kernel_rfl, by kernel_rfl, by kernel_rfl, by kernel_rfl, by kernel_rfl, by kernel_rfl, by kernel_rfl, by kernel_rfl, by kernel_rfl, by kernel_rfl, by kernel_rfl, by kernel_rfl, by kernel_rfl, by kernel_rfl, by kernel_rfl, by kernel_rfl, by kernel_rfl, by kernel_rfl, by kernel_rfl, by kernel_rfl, by kernel_rfl, by kernel_rfl, by kernel_rfl, by kernel_rfl, by kernel_rfl, by kernel_rfl, by kernel_rfl, by kernel_rfl, by kernel_rfl, by kernel_rfl, by kernel_rfl, by kernel_rfl, by kernel_rfl, by kernel_rfl, by kernel_rfl, by kernel_rfl, by kernel_rfl, by kernel_rfl, by kernel_rfl, by kernel_rfl, by kernel_rfl, by kernel_rfl, by kernel_rfl, by kernel_rfl, by kernel_rfl, by kernel_rfl, by kernel_rfl, by kernel_rfl, by kernel_rfl, by kernel_rfl, by kernel_rfl, by kernel_rfl, by kernel_rfl, by kernel_rfl, by kernel_rfl, by kernel_rfl, by kernel_rfl, by kernel_rfl, by kernel_rfl, by kernel_rfl⟩
theorem tyA1 : tyAgg Try.prog 39 = some false ∧
  tyIntOrNone Try.prog 39 = false ∧
  tyIsStr Try.prog 39 = false ∧
  tyElem Try.prog 39 = some 3 ∧
  tySz Try.prog 40 = 3 ∧
  tyBytes Try.prog 40 = 40 ∧
  tyAgg Try.prog 40 = some true ∧
  tyIntOrNone Try.prog 40 = false ∧
  tyIsStr Try.prog 40 = false ∧
  tySz Try.prog 41 = 3 ∧
  tyBytes Try.prog 41 = 40 ∧
  tyAgg Try.prog 41 = some true ∧
  tyIntOrNone Try.prog 41 = false ∧
  tyIsStr Try.prog 41 = false ∧
  tySz Try.prog 42 = 4 ∧
  tyBytes Try.prog 42 = 32 ∧
  tyAgg Try.prog 42 = some true ∧
  tyIntOrNone Try.prog 42 = false ∧
  tyIsStr Try.prog 42 = false ∧
  tySz Try.prog 43 = 13 ∧
  tyBytes Try.prog 43 = 128 ∧
  tyAgg Try.prog 43 = some true ∧
  tyIntOrNone Try.prog 43 = false ∧
  tyIsStr Try.prog 43 = false ∧
  tySz Try.prog 44 = 13 ∧
  tyBytes Try.prog 44 = 128 ∧
  tyAgg Try.prog 44 = some true ∧
  tyIntOrNone Try.prog 44 = false ∧
  tyIsStr Try.prog 44 = false ∧
  tySz Try.prog 46 = 9 ∧
  tyBytes Try.prog 46 = 104 ∧
  tyAgg Try.prog 46 = some true ∧
  tyIntOrNone Try.prog 46 = false ∧
  tyIsStr Try.prog 46 = false ∧
  tySz Try.prog 47 = 9 ∧
  tyBytes Try.prog 47 = 104 ∧
  tyAgg Try.prog 47 = some true ∧
  tyIntOrNone Try.prog 47 = false ∧
  tyIsStr Try.prog 47 = false ∧
  tySz Try.prog 52 = 1 ∧
  tyBytes Try.prog 52 = 8 ∧
  tyAgg Try.prog 52 = some false ∧
  tyIntOrNone Try.prog 52 = false ∧
  tyIsStr Try.prog 52 = false ∧
  tySz Try.prog 53 = 1 ∧
  tyBytes Try.prog 53 = 24 ∧
  tyAgg Try.prog 53 = some false ∧
  tyIntOrNone Try.prog 53 = false ∧
  tyIsStr Try.prog 53 = false ∧
  tyElem Try.prog 53 = some 70 ∧
  tySz Try.prog 55 = 4 ∧
  tyBytes Try.prog 55 = 80 ∧
  tyAgg Try.prog 55 = some true ∧
  tyIntOrNone Try.prog 55 = false ∧
  tyIsStr Try.prog 55 = false ∧
  tySz Try.prog 56 = 4 ∧
  tyBytes Try.prog 56 = 80 ∧
  tyAgg Try.prog 56 = some true ∧
  tyIntOrNone Try.prog 56 = false ∧
  tyIsStr Try.prog 56 = false :=
  ⟨by kernel_rfl, by kernel_rfl, by kernel_rfl, by kernel_rfl, by kernel_rfl, by kernel_rfl, by kernel_rfl, by kernel_rfl, by kernel_rfl, by kernel_rfl, by kernel_rfl, by kernel_rfl, by kernel_rfl, by kernel_rfl, by kernel_rfl, by kernel_rfl, by kernel_rfl, by kernel_rfl, by kernel_rfl, by kernel_rfl, by kernel_rfl, by kernel_rfl, by kernel_rfl, by kernel_rfl, by kernel_rfl, by kernel_rfl, by kernel_rfl, by kernel_rfl, by kernel_rfl, by kernel_rfl, by kernel_rfl, by kernel_rfl, by kernel_rfl, by kernel_rfl, by kernel_rfl, by kernel_rfl, by kernel_rfl, by kernel_rfl, by kernel_rfl, by kernel_rfl, by kernel_rfl, by kernel_rfl, by kernel_rfl, by kernel_rfl, by kernel_rfl, by kernel_rfl, by kernel_rfl, by kernel_rfl, by kernel_rfl, by kernel_rfl, by kernel_rfl, by kernel_rfl, by kernel_rfl, by kernel_rfl, by kernel_rfl, by kernel_rfl, by kernel_rfl, by kernel_rfl, by kernel_rfl, by kernel_rfl⟩
theorem tyA2 : tySz Try.prog 58 = 1 ∧
  tyBytes Try.prog 58 = 8 ∧
  tyAgg Try.prog 58 = some false ∧
  tyIntOrNone Try.prog 58 = false ∧
  tyIsStr Try.prog 58 = false ∧
  tySz Try.prog 59 = 4 ∧
  tyBytes Try.prog 59 = 80 ∧
  tyAgg Try.prog 59 = some true ∧
  tyIntOrNone Try.prog 59 = false ∧
  tyIsStr Try.prog 59 = false ∧
  tySz Try.prog 60 = 4 ∧
  tyBytes Try.prog 60 = 80 ∧
  tyAgg Try.prog 60 = some true ∧
  tyIntOrNone Try.prog 60 = false ∧
  tyIsStr Try.prog 60 = false ∧
  tySz Try.prog 64 = 1 ∧
  tyBytes Try.prog 64 = 24 ∧
  tyAgg Try.prog 64 = some false ∧
  tyIntOrNone Try.prog 64 = false ∧
  tyIsStr Try.prog 64 = false ∧
  tyElem Try.prog 64 = some 81 ∧
  tySz Try.prog 69 = 3 ∧
  tyBytes Try.prog 69 = 16 ∧
  tyAgg Try.prog 69 = some true ∧
  tyIntOrNone Try.prog 69 = false ∧
  tyIsStr Try.prog 69 = false ∧
  tySz Try.prog 70 = 3 ∧
  tyBytes Try.prog 70 = 16 ∧
  tyAgg Try.prog 70 = some true ∧
  tyIntOrNone Try.prog 70 = false ∧
  tyIsStr Try.prog 70 = false ∧
  tySz Try.prog 80 = 2 ∧
  tyBytes Try.prog 80 = 16 ∧
  tyAgg Try.prog 80 = some true ∧
  tyIntOrNone Try.prog 80 = false ∧
  tyIsStr Try.prog 80 = false ∧
  tySz Try.prog 81 = 2 ∧
  tyBytes Try.prog 81 = 16 ∧
  tyAgg Try.prog 81 = some true ∧
  tyIntOrNone Try.prog 81 = false ∧
  tyIsStr Try.prog 81 = false ∧
  tySz Try.prog 88 = 1 ∧
  tyBytes Try.prog 88 = 24 ∧
  tyAgg Try.prog 88 = some false ∧
  tyIntOrNone Try.prog 88 = false ∧
  tyIsStr Try.prog 88 = false ∧
  tyElem Try.prog 88 = some 9 ∧
  tySz Try.prog 100 = 1 ∧
  tyBytes Try.prog 100 = 8 ∧
  tyAgg Try.prog 100 = some false ∧
  tyIntOrNone Try.prog 100 = true ∧
  tyIsStr Try.prog 100 = false ∧
  tyInt Try.prog 100 = some .u64 ∧
  tySz Try.prog 126 = 1 ∧
  tyBytes Try.prog 126 = 4 ∧
  tyAgg Try.prog 126 = some false ∧
  tyIntOrNone Try.prog 126 = true ∧
  tyIsStr Try.prog 126 = false ∧
  tyInt Try.prog 126 = some .u32 ∧
  tySz Try.prog 130 = 1 :=
  ⟨by kernel_rfl, by kernel_rfl, by kernel_rfl, by kernel_rfl, by kernel_rfl, by kernel_rfl, by kernel_rfl, by kernel_rfl, by kernel_rfl, by kernel_rfl, by kernel_rfl, by kernel_rfl, by kernel_rfl, by kernel_rfl, by kernel_rfl, by kernel_rfl, by kernel_rfl, by kernel_rfl, by kernel_rfl, by kernel_rfl, by kernel_rfl, by kernel_rfl, by kernel_rfl, by kernel_rfl, by kernel_rfl, by kernel_rfl, by kernel_rfl, by kernel_rfl, by kernel_rfl, by kernel_rfl, by kernel_rfl, by kernel_rfl, by kernel_rfl, by kernel_rfl, by kernel_rfl, by kernel_rfl, by kernel_rfl, by kernel_rfl, by kernel_rfl, by kernel_rfl, by kernel_rfl, by kernel_rfl, by kernel_rfl, by kernel_rfl, by kernel_rfl, by kernel_rfl, by kernel_rfl, by kernel_rfl, by kernel_rfl, by kernel_rfl, by kernel_rfl, by kernel_rfl, by kernel_rfl, by kernel_rfl, by kernel_rfl, by kernel_rfl, by kernel_rfl, by kernel_rfl, by kernel_rfl, by kernel_rfl⟩
theorem tyA3 : tyBytes Try.prog 130 = 8 ∧
  tyAgg Try.prog 130 = some false ∧
  tyIntOrNone Try.prog 130 = false ∧
  tyIsStr Try.prog 130 = false ∧
  tySz Try.prog 135 = 1 ∧
  tyBytes Try.prog 135 = 8 ∧
  tyAgg Try.prog 135 = some false ∧
  tyIntOrNone Try.prog 135 = false ∧
  tyIsStr Try.prog 135 = false :=
  ⟨by kernel_rfl, by kernel_rfl, by kernel_rfl, by kernel_rfl, by kernel_rfl, by kernel_rfl, by kernel_rfl, by kernel_rfl, by kernel_rfl⟩
theorem tyU0 : Try.prog.underlying 2 = some (.int .i64) ∧
  Try.prog.underlying 3 = some (.int .i64) ∧
  Try.prog.underlying 4 = some (.bool) ∧
  Try.prog.underlying 5 = some (.int .u8) ∧
  Try.prog.underlying 9 = some (.string) ∧
  Try.prog.underlying 21 = some (.int .i32) ∧
  Try.prog.underlying 22 = some (.slice 44) ∧
  Try.prog.underlying 23 = some (.slice 47) ∧
  Try.prog.underlying 32 = some (.slice 5) ∧
  Try.prog.underlying 37 = some (.slice 39) ∧
  Try.prog.underlying 39 = some (.slice 3) ∧
  Try.prog.underlying 42 = some (.array 4 3) ∧
  Try.prog.underlying 52 = some (.pointer 56) ∧
  Try.prog.underlying 53 = some (.slice 70) ∧
  Try.prog.underlying 58 = some (.pointer 60) ∧
  Try.prog.underlying 64 = some (.slice 81) ∧
  Try.prog.underlying 88 = some (.slice 9) ∧
  Try.prog.underlying 100 = some (.int .u64) ∧
  Try.prog.underlying 126 = some (.int .u32) ∧
  Try.prog.underlying 130 = some (.pointer 5) ∧
  Try.prog.underlying 135 = some (.unsafePointer) :=
  ⟨by kernel_rfl, by kernel_rfl, by kernel_rfl, by kernel_rfl, by kernel_rfl, by kernel_rfl, by kernel_rfl, by kernel_rfl, by kernel_rfl, by kernel_rfl, by kernel_rfl, by kernel_rfl, by kernel_rfl, by kernel_rfl, by kernel_rfl, by kernel_rfl, by kernel_rfl, by kernel_rfl, by kernel_rfl, by kernel_rfl, by kernel_rfl⟩
theorem tyF0 : tyField Try.prog 40 0 = some (0, 4) ∧
  tyField Try.prog 40 1 = some (1, 9) ∧
  tyField Try.prog 40 2 = some (2, 9) ∧
  tyFields Try.prog 40 = some [(0, 1), (1, 1), (2, 1)] ∧
  tyField Try.prog 41 0 = some (0, 4) ∧
  tyField Try.prog 41 1 = some (1, 9) ∧
  tyField Try.prog 41 2 = some (2, 9) ∧
  tyFields Try.prog 41 = some [(0, 1), (1, 1), (2, 1)] ∧
  tyArr Try.prog 42 = some (4, 3) ∧
  tyFields Try.prog 42 = none ∧
  tyField Try.prog 43 0 = some (0, 3) ∧
  tyField Try.prog 43 1 = some (1, 9) ∧
  tyField Try.prog 43 2 = some (2, 9) ∧
  tyField Try.prog 43 3 = some (3, 41) ∧
  tyField Try.prog 43 4 = some (6, 4) ∧
  tyField Try.prog 43 5 = some (7, 4) ∧
  tyField Try.prog 43 6 = some (8, 42) ∧
  tyField Try.prog 43 7 = some (12, 3) ∧
  tyFields Try.prog 43 = some [(0, 1), (1, 1), (2, 1), (3, 3), (6, 1), (7, 1), (8, 4), (12, 1)] ∧
  tyField Try.prog 44 0 = some (0, 3) ∧
  tyField Try.prog 44 1 = some (1, 9) ∧
  tyField Try.prog 44 2 = some (2, 9) ∧
  tyField Try.prog 44 3 = some (3, 41) ∧
  tyField Try.prog 44 4 = some (6, 4) ∧
  tyField Try.prog 44 5 = some (7, 4) ∧
  tyField Try.prog 44 6 = some (8, 42) ∧
  tyField Try.prog 44 7 = some (12, 3) ∧
  tyFields Try.prog 44 = some [(0, 1), (1, 1), (2, 1), (3, 3), (6, 1), (7, 1), (8, 4), (12, 1)] ∧
  tyField Try.prog 46 0 = some (0, 3) ∧
  tyField Try.prog 46 1 = some (1, 22) ∧
  tyField Try.prog 46 2 = some (2, 22) ∧
  tyField Try.prog 46 3 = some (3, 23) ∧
  tyField Try.prog 46 4 = some (4, 4) ∧
  tyField Try.prog 46 5 = some (5, 4) ∧
  tyField Try.prog 46 6 = some (6, 4) ∧
  tyField Try.prog 46 7 = some (7, 3) ∧
  tyField Try.prog 46 8 = some (8, 3) ∧
  tyFields Try.prog 46 = some [(0, 1), (1, 1), (2, 1), (3, 1), (4, 1), (5, 1), (6, 1), (7, 1), (8, 1)] ∧
  tyField Try.prog 47 0 = some (0, 3) ∧
  tyField Try.prog 47 1 = some (1, 22) ∧
  tyField Try.prog 47 2 = some (2, 22) ∧
  tyField Try.prog 47 3 = some (3, 23) ∧
  tyField Try.prog 47 4 = some (4, 4) ∧
  tyField Try.prog 47 5 = some (5, 4) ∧
  tyField Try.prog 47 6 = some (6, 4) ∧
  tyField Try.prog 47 7 = some (7, 3) ∧
  tyField Try.prog 47 8 = some (8, 3) ∧
  tyFields Try.prog 47 = some [(0, 1), (1, 1), (2, 1), (3, 1), (4, 1), (5, 1), (6, 1), (7, 1), (8, 1)] ∧
  tyField Try.prog 55 0 = some (0, 22) ∧
  tyField Try.prog 55 1 = some (1, 53) ∧
  tyField Try.prog 55 2 = some (2, 39) ∧
  tyField Try.prog 55 3 = some (3, 3) ∧
  tyFields Try.prog 55 = some [(0, 1), (1, 1), (2, 1), (3, 1)] ∧
  tyField Try.prog 56 0 = some (0, 22) ∧
  tyField Try.prog 56 1 = some (1, 53) ∧
  tyField Try.prog 56 2 = some (2, 39) ∧
  tyField Try.prog 56 3 = some (3, 3) ∧
  tyFields Try.prog 56 = some [(0, 1), (1, 1), (2, 1), (3, 1)] ∧
  tyField Try.prog 59 0 = some (0, 22) ∧
  tyField Try.prog 59 1 = some (1, 37) :=
  ⟨by kernel_rfl, by kernel_rfl, by kernel_rfl, by kernel_rfl, by kernel_rfl, by kernel_rfl, by kernel_rfl, by kernel_rfl, by kernel_rfl, by kernel_rfl, by kernel_rfl, by kernel_rfl, by kernel_rfl, by kernel_rfl, by kernel_rfl, by kernel_rfl, by kernel_rfl, by kernel_rfl, by kernel_rfl, by kernel_rfl, by kernel_rfl, by kernel_rfl, by kernel_rfl, by kernel_rfl, by kernel_rfl, by kernel_rfl, by kernel_rfl, by kernel_rfl, by kernel_rfl, by kernel_rfl, by kernel_rfl, by kernel_rfl, by kernel_rfl, by kernel_rfl, by kernel_rfl, by kernel_rfl, by kernel_rfl, by kernel_rfl, by kernel_rfl, by kernel_rfl, by kernel_rfl, by kernel_rfl, by kernel_rfl, by kernel_rfl, by kernel_rfl, by kernel_rfl, by kernel_rfl, by kernel_rfl, by kernel_rfl, by kernel_rfl, by kernel_rfl, by kernel_rfl, by kernel_rfl, by kernel_rfl, by kernel_rfl, by kernel_rfl, by kernel_rfl, by kernel_rfl, by kernel_rfl, by kernel_rfl⟩
theorem tyF1 : tyField Try.prog 59 2 = some (2, 39) ∧
  tyField Try.prog 59 3 = some (3, 3) ∧
  tyFields Try.prog 59 = some [(0, 1), (1, 1), (2, 1), (3, 1)] ∧
  tyField Try.prog 60 0 = some (0, 22) ∧
  tyField Try.prog 60 1 = some (1, 37) ∧
  tyField Try.prog 60 2 = some (2, 39) ∧
  tyField Try.prog 60 3 = some (3, 3) ∧
  tyFields Try.prog 60 = some [(0, 1), (1, 1), (2, 1), (3, 1)] ∧
  tyField Try.prog 69 0 = some (0, 3) ∧
  tyField Try.prog 69 1 = some (1, 4) ∧
  tyField Try.prog 69 2 = some (2, 4) ∧
  tyFields Try.prog 69 = some [(0, 1), (1, 1), (2, 1)] ∧
  tyField Try.prog 70 0 = some (0, 3) ∧
  tyField Try.prog 70 1 = some (1, 4) ∧
  tyField Try.prog 70 2 = some (2, 4) ∧
  tyFields Try.prog 70 = some [(0, 1), (1, 1), (2, 1)] ∧
  tyField Try.prog 80 0 = some (0, 3) ∧
  tyField Try.prog 80 1 = some (1, 3) ∧
  tyFields Try.prog 80 = some [(0, 1), (1, 1)] ∧
  tyField Try.prog 81 0 = some (0, 3) ∧
  tyField Try.prog 81 1 = some (1, 3) ∧
  tyFields Try.prog 81 = some [(0, 1), (1, 1)] :=
  ⟨by kernel_rfl, by kernel_rfl, by kernel_rfl, by kernel_rfl, by kernel_rfl, by kernel_rfl, by kernel_rfl, by kernel_rfl, by kernel_rfl, by kernel_rfl, by kernel_rfl, by kernel_rfl, by kernel_rfl, by kernel_rfl, by kernel_rfl, by kernel_rfl, by kernel_rfl, by kernel_rfl, by kernel_rfl, by kernel_rfl, by kernel_rfl, by kernel_rfl⟩
theorem tyZ0 : yzero Try.prog 2 = some [.int .i64 0] ∧
  yzero Try.prog 3 = some [.int .i64 0] ∧
  yzero Try.prog 4 = some [.bool false] ∧
  yzero Try.prog 5 = some [.int .u8 0] ∧
  yzero Try.prog 9 = some [.string ⟨#[]⟩] ∧
  yzero Try.prog 21 = some [.int .i32 0] ∧
  yzero Try.prog 22 = some [.slice none 0 0] ∧
  yzero Try.prog 23 = some [.slice none 0 0] ∧
  yzero Try.prog 32 = some [.slice none 0 0] ∧
  yzero Try.prog 37 = some [.slice none 0 0] ∧
  yzero Try.prog 39 = some [.slice none 0 0] ∧
  yzero Try.prog 40 = some [.bool false, .string ⟨#[]⟩, .string ⟨#[]⟩] ∧
  yzero Try.prog 41 = some [.bool false, .string ⟨#[]⟩, .string ⟨#[]⟩] ∧
  yzero Try.prog 42 = some [.int .i64 0, .int .i64 0, .int .i64 0, .int .i64 0] ∧
  yzero Try.prog 43 = some [.int .i64 0, .string ⟨#[]⟩, .string ⟨#[]⟩, .bool false, .string ⟨#[]⟩, .string ⟨#[]⟩, .bool false, .bool false, .int .i64 0, .int .i64 0, .int .i64 0, .int .i64 0, .int .i64 0] ∧
  yzero Try.prog 44 = some [.int .i64 0, .string ⟨#[]⟩, .string ⟨#[]⟩, .bool false, .string ⟨#[]⟩, .string ⟨#[]⟩, .bool false, .bool false, .int .i64 0, .int .i64 0, .int .i64 0, .int .i64 0, .int .i64 0] ∧
  yzero Try.prog 46 = some [.int .i64 0, .slice none 0 0, .slice none 0 0, .slice none 0 0, .bool false, .bool false, .bool false, .int .i64 0, .int .i64 0] ∧
  yzero Try.prog 47 = some [.int .i64 0, .slice none 0 0, .slice none 0 0, .slice none 0 0, .bool false, .bool false, .bool false, .int .i64 0, .int .i64 0] ∧
  yzero Try.prog 52 = some [.pointer none] ∧
  yzero Try.prog 53 = some [.slice none 0 0] ∧
  yzero Try.prog 55 = some [.slice none 0 0, .slice none 0 0, .slice none 0 0, .int .i64 0] ∧
  yzero Try.prog 56 = some [.slice none 0 0, .slice none 0 0, .slice none 0 0, .int .i64 0] ∧
  yzero Try.prog 58 = some [.pointer none] ∧
  yzero Try.prog 59 = some [.slice none 0 0, .slice none 0 0, .slice none 0 0, .int .i64 0] ∧
  yzero Try.prog 60 = some [.slice none 0 0, .slice none 0 0, .slice none 0 0, .int .i64 0] ∧
  yzero Try.prog 64 = some [.slice none 0 0] ∧
  yzero Try.prog 69 = some [.int .i64 0, .bool false, .bool false] ∧
  yzero Try.prog 70 = some [.int .i64 0, .bool false, .bool false] ∧
  yzero Try.prog 80 = some [.int .i64 0, .int .i64 0] ∧
  yzero Try.prog 81 = some [.int .i64 0, .int .i64 0] ∧
  yzero Try.prog 88 = some [.slice none 0 0] ∧
  yzero Try.prog 100 = some [.int .u64 0] ∧
  yzero Try.prog 126 = some [.int .u32 0] ∧
  yzero Try.prog 130 = some [.pointer none] ∧
  yzero Try.prog 135 = some [.pointer none] :=
  ⟨by kernel_rfl, by kernel_rfl, by kernel_rfl, by kernel_rfl, by kernel_rfl, by kernel_rfl, by kernel_rfl, by kernel_rfl, by kernel_rfl, by kernel_rfl, by kernel_rfl, by kernel_rfl, by kernel_rfl, by kernel_rfl, by kernel_rfl, by kernel_rfl, by kernel_rfl, by kernel_rfl, by kernel_rfl, by kernel_rfl, by kernel_rfl, by kernel_rfl, by kernel_rfl, by kernel_rfl, by kernel_rfl, by kernel_rfl, by kernel_rfl, by kernel_rfl, by kernel_rfl, by kernel_rfl, by kernel_rfl, by kernel_rfl, by kernel_rfl, by kernel_rfl, by kernel_rfl⟩
end Go.Vx.Seat
end
/- The run set, packed. -/
section
open Go Go.Vx Go.Proofs
set_option linter.unusedVariables false
namespace Go.Vx.Seat
theorem C1_P : C1.P = Try.prog := rfl
theorem yP : type_of% (And.intro (And.intro (And.intro (And.intro (@Rw_skip) (And.intro (@Rw_ret) (@Rw_exit))) (And.intro (@Rw_seq) (And.intro (@Rw_block) (@Rw_cond)))) (And.intro (And.intro (@Rw_region) (And.intro (@Rw_drawn) (@Rw_loop))) (And.intro (@Rc_true) (And.intro (@Rc_false) (@kf_nil))))) (And.intro (And.intro (And.intro (@kf_seq) (And.intro (@kf_seq_exit) (@kf_seq_ret))) (And.intro (@kf_blk) (And.intro (@kf_blk_ret) (@kf_blk_self)))) (And.intro (And.intro (@kf_blk_exit) (And.intro (@ythen_next) (@ythen_ret))) (And.intro (@ythen_exit) (And.intro (@gsOf_nil) (@gsOf_cons)))))) := And.intro (And.intro (And.intro (And.intro (@Rw_skip) (And.intro (@Rw_ret) (@Rw_exit))) (And.intro (@Rw_seq) (And.intro (@Rw_block) (@Rw_cond)))) (And.intro (And.intro (@Rw_region) (And.intro (@Rw_drawn) (@Rw_loop))) (And.intro (@Rc_true) (And.intro (@Rc_false) (@kf_nil))))) (And.intro (And.intro (And.intro (@kf_seq) (And.intro (@kf_seq_exit) (@kf_seq_ret))) (And.intro (@kf_blk) (And.intro (@kf_blk_ret) (@kf_blk_self)))) (And.intro (And.intro (@kf_blk_exit) (And.intro (@ythen_next) (@ythen_ret))) (And.intro (@ythen_exit) (And.intro (@gsOf_nil) (@gsOf_cons)))))
theorem yT : type_of% (And.intro (And.intro (And.intro (And.intro (And.intro (And.intro (And.intro (And.intro (@Rg_nil) (@Rg_none)) (And.intro (@Rg_some) (@Rt_nil))) (And.intro (And.intro (@Rt_none) (@Rt_some)) (And.intro (@mk_eq) (And.intro (@Rc_true) (@Rc_false))))) (And.intro (And.intro (And.intro (@Ri_true) (@Ri_false)) (And.intro (@Ro_val) (@Ro_call))) (And.intro (And.intro (@Rti_true) (@Rti_false)) (And.intro (@Rtf_true) (And.intro (@Rtk_some) (@Rto_val)))))) (And.intro (And.intro (And.intro (And.intro (@Rto_call) (@yput_some)) (And.intro (@yput_none) (@yv_tmp))) (And.intro (And.intro (@yv_const) (@yv_func)) (And.intro (@ofc_int) (And.intro (@ofc_bool) (@ofc_str))))) (And.intro (And.intro (And.intro (@ofc_nil) (@ofc_np)) (And.intro (@ydry_int) (And.intro (@ydry_bool) (@ydry_str)))) (And.intro (And.intro (@ydry_nil) (@yRes_some)) (And.intro (@yNew_eq) (And.intro (@ygd_some) (@ygb_bool))))))) (And.intro (And.intro (And.intro (And.intro (And.intro (@ygb_skip) (@nth_zero)) (And.intro (@nth_succ) (@nthD_zero))) (And.intro (And.intro (@nthD_succ) (@List.set_cons_zero.{0})) (And.intro (@List.set_cons_succ.{0}) (And.intro (@List.map_cons.{0, 0}) (@List.map_nil.{0, 0}))))) (And.intro (And.intro (And.intro (@List.length_cons.{0}) (@List.length_nil.{0})) (And.intro (@List.cons_append.{0}) (@List.nil_append.{0}))) (And.intro (And.intro (@List.append_nil.{0}) (@Nat.zero_add)) (And.intro (@Nat.add_zero) (And.intro (@List.drop_zero.{0}) (@List.drop_succ_cons.{0})))))) (And.intro (And.intro (And.intro (And.intro (@List.take_succ_cons.{0}) (@List.take_zero.{0})) (And.intro (@bb_tt) (@bb_tf))) (And.intro (And.intro (@bb_ft) (@bb_ff)) (And.intro (@Bool.not_true) (And.intro (@Bool.not_false) (@if_true.{1}))))) (And.intro (And.intro (And.intro (@if_false.{1}) (@Bool.false_eq_true)) (And.intro (@yPick_true) (And.intro (@yPick_false) (@List.isEmpty_nil.{0})))) (And.intro (And.intro (@Bool.and_self) (@C1_P)) (And.intro (@tyA0) (And.intro (@tyA1) (@tyA2)))))))) (And.intro (And.intro (And.intro (And.intro (And.intro (And.intro (@tyA3) (@tyU0)) (And.intro (@tyF0) (@tyF1))) (And.intro (And.intro (@tyZ0) (@yres1)) (And.intro (@ynt_p) (And.intro (@yone_one) (@Option.some.injEq.{0}))))) (And.intro (And.intro (And.intro (@exists_eq_left'.{1}) (@Bool.or_false)) (And.intro (@Bool.or_true) (@true_and))) (And.intro (And.intro (@and_true) (@ne_eq.{1})) (And.intro (@not_false_eq_true) (And.intro (@and_self) (@Nat.one_ne_zero)))))) (And.intro (And.intro (And.intro (And.intro (@ret_ok) (@or_true)) (And.intro (@false_or) (@ychk.eq_1))) (And.intro (And.intro (@ychk.eq_2) (@ychk.eq_3)) (And.intro (@ychk.eq_4) (And.intro (@ychk.eq_5) (@yskip.eq_1))))) (And.intro (And.intro (And.intro (@yskip.eq_2) (@yskip.eq_3)) (And.intro (@yskip.eq_5) (And.intro (@yidle.eq_1) (@yidle.eq_2)))) (And.intro (And.intro (@Nat.le_refl) (@List.length_map.{0, 0})) (And.intro (@take_map_len) (And.intro (@imp_self) (@implies_true.{1}))))))) (And.intro (And.intro (And.intro (And.intro (And.intro (@implies_true.{0}) (@not_true_eq_false)) (And.intro (@List.replicate_succ.{0}) (@List.replicate_zero.{0}))) (And.intro (And.intro (@Nat.zero_le) (@Nat.zero_lt_succ)) (And.intro (@List.contains_cons.{0}) (And.intro (@List.contains_nil.{0}) (@Bool.false_or))))) (And.intro (And.intro (And.intro (@Bool.true_or) (@List.any_cons.{0})) (And.intro (@List.any_nil.{0}) (@Option.isNone_some.{0}))) (And.intro (And.intro (@Option.isNone_none.{0}) (@ynt_own)) (And.intro (@ynt_agg) (And.intro (@renV.eq_1) (@renV.eq_2)))))) (And.intro (And.intro (And.intro (And.intro (@renV.eq_3) (@renC.eq_1)) (And.intro (@renC.eq_2) (@renC.eq_3))) (And.intro (And.intro (@renC.eq_4) (@renC.eq_5)) (And.intro (@slotIx_nil) (And.intro (@slotIx_cons) (@take_map_snoc))))) (And.intro (And.intro (And.intro (@snoc_len) (@Option.map_some.{0, 0})) (And.intro (@Option.map_none.{0, 0}) (And.intro (@Int.toNat_natCast) (@Int.toNat_zero)))) (And.intro (And.intro (@Nat.sub_zero) (@Int.le_refl)) (And.intro (@nn) (And.intro (@yone_two) (@List.set_set.{0}))))))))) (And.intro (And.intro (And.intro (And.intro (And.intro (And.intro (And.intro (@List.length_set.{0}) (@List.getElem?_cons_zero.{0})) (And.intro (@List.getElem?_cons_succ.{0}) (@yresults.eq_2))) (And.intro (And.intro (@yresults.eq_1) (@yresult.eq_1)) (And.intro (@yresult.eq_2) (And.intro (@yop.eq_1) (@yop.eq_2))))) (And.intro (And.intro (And.intro (@yop.eq_3) (@yop.eq_4)) (And.intro (@yop.eq_5) (@yop.eq_6))) (And.intro (And.intro (@yop.eq_7) (@yop.eq_8)) (And.intro (@yop.eq_9) (And.intro (@yop.eq_10) (@yop.eq_11)))))) (And.intro (And.intro (And.intro (And.intro (@yop.eq_12) (@yop.eq_13)) (And.intro (@yop.eq_14) (@yop.eq_15))) (And.intro (And.intro (@yop.eq_16) (@yop.eq_17)) (And.intro (@yop.eq_18) (And.intro (@yop.eq_19) (@yop.eq_20))))) (And.intro (And.intro (And.intro (@yop.eq_21) (@yop.eq_22)) (And.intro (@yop.eq_23) (And.intro (@yop.eq_24) (@yAlloc.eq_1)))) (And.intro (And.intro (@yBox.eq_1) (@ycl.eq_1)) (And.intro (@ycl.eq_2) (And.intro (@ycl.eq_3) (@ycl.eq_4))))))) (And.intro (And.intro (And.intro (And.intro (And.intro (@yLoad.eq_1) (@ycells.eq_1)) (And.intro (@ycells.eq_2) (@ycells.eq_3))) (And.intro (And.intro (@yNil.eq_1) (@yNil.eq_2)) (And.intro (@yNil.eq_3) (And.intro (@yBin.eq_1) (@yUn.eq_1))))) (And.intro (And.intro (And.intro (@dvA.eq_1) (@dvA.eq_2)) (And.intro (@dvA.eq_3) (@dvs.eq_1))) (And.intro (And.intro (@dvs.eq_2) (@dvs.eq_3)) (And.intro (@dv.eq_1) (And.intro (@dv.eq_2) (@yFieldAddr.eq_1)))))) (And.intro (And.intro (And.intro (And.intro (@yField.eq_1) (@yField.eq_2)) (And.intro (@yPart.eq_1) (@yIndexAddr.eq_1))) (And.intro (And.intro (@yIndex.eq_1) (@yExtract.eq_1)) (And.intro (@yExtract.eq_2) (And.intro (@yLen.eq_1) (@yLen.eq_2))))) (And.intro (And.intro (And.intro (@yLen.eq_3) (@yLen.eq_4)) (And.intro (@yCall.eq_1) (And.intro (@xbin.eq_1) (@xbin.eq_2)))) (And.intro (And.intro (@xbin.eq_3) (@xbin.eq_4)) (And.intro (@xbin.eq_5) (And.intro (@xbin.eq_6) (@xbin.eq_7)))))))) (And.intro (And.intro (And.intro (And.intro (And.intro (And.intro (@xbin.eq_8) (@xbin.eq_9)) (And.intro (@xbinI.eq_1) (@xbinI.eq_2))) (And.intro (And.intro (@xbinI.eq_3) (@xint.eq_1)) (And.intro (@xint.eq_2) (And.intro (@xint.eq_3) (@xint.eq_4))))) (And.intro (And.intro (And.intro (@xint.eq_5) (@xint.eq_6)) (And.intro (@xint.eq_7) (@xint.eq_8))) (And.intro (And.intro (@xint.eq_9) (@xint.eq_10)) (And.intro (@xint.eq_11) (And.intro (@xint.eq_12) (@xint.eq_13)))))) (And.intro (And.intro (And.intro (And.intro (@xint.eq_14) (@xint.eq_15)) (And.intro (@xun.eq_1) (@xun.eq_2))) (And.intro (And.intro (@xun.eq_3) (@xbinB.eq_1)) (And.intro (@xbinB.eq_2) (And.intro (@xbinB.eq_3) (@yguard.eq_1))))) (And.intro (And.intro (And.intro (@yStore.eq_1) (@yStore.eq_2)) (And.intro (@ySlice.eq_1) (And.intro (@ySlice.eq_2) (@ySlice.eq_3)))) (And.intro (And.intro (@ySlice.eq_4) (@yAppend.eq_1)) (And.intro (@yBuild.eq_1) (And.intro (@yfill.eq_1) (@yfill.eq_2))))))) (And.intro (And.intro (And.intro (And.intro (And.intro (@yels.eq_1) (@yels.eq_2)) (And.intro (@ypc.eq_1) (@ypc.eq_2))) (And.intro (And.intro (@ypc.eq_3) (@pcs.eq_1)) (And.intro (@pcs.eq_2) (And.intro (@pcs.eq_3) (@gsplice.eq_1))))) (And.intro (And.intro (And.intro (@gsplice.eq_1) (@ySource.eq_1)) (And.intro (@ySource.eq_2) (@ySource.eq_3))) (And.intro (And.intro (@yrow.eq_1) (@yrow.eq_2)) (And.intro (@yrow.eq_3) (And.intro (@yMake.eq_1) (@yBuildSlice.eq_1)))))) (And.intro (And.intro (And.intro (And.intro (@yConvert.eq_1) (@low.eq_1)) (And.intro (@low.eq_2) (@low.eq_3))) (And.intro (And.intro (@yfzC.eq_1) (@yfzC.eq_2)) (And.intro (@yfzC.eq_3) (And.intro (@yfzL.eq_1) (@yfzL.eq_2))))) (And.intro (And.intro (And.intro (@yfzV.eq_1) (@yfzV.eq_2)) (And.intro (@yfzV.eq_3) (And.intro (@yfzP.eq_1) (@yfzP.eq_2)))) (And.intro (And.intro (@yBuildRow.eq_1) (@yBuildRow.eq_2)) (And.intro (@yfrz.eq_1) (And.intro (@yfrz.eq_2) (@pds.eq_1)))))))))) := And.intro (And.intro (And.intro (And.intro (And.intro (And.intro (And.intro (And.intro (@Rg_nil) (@Rg_none)) (And.intro (@Rg_some) (@Rt_nil))) (And.intro (And.intro (@Rt_none) (@Rt_some)) (And.intro (@mk_eq) (And.intro (@Rc_true) (@Rc_false))))) (And.intro (And.intro (And.intro (@Ri_true) (@Ri_false)) (And.intro (@Ro_val) (@Ro_call))) (And.intro (And.intro (@Rti_true) (@Rti_false)) (And.intro (@Rtf_true) (And.intro (@Rtk_some) (@Rto_val)))))) (And.intro (And.intro (And.intro (And.intro (@Rto_call) (@yput_some)) (And.intro (@yput_none) (@yv_tmp))) (And.intro (And.intro (@yv_const) (@yv_func)) (And.intro (@ofc_int) (And.intro (@ofc_bool) (@ofc_str))))) (And.intro (And.intro (And.intro (@ofc_nil) (@ofc_np)) (And.intro (@ydry_int) (And.intro (@ydry_bool) (@ydry_str)))) (And.intro (And.intro (@ydry_nil) (@yRes_some)) (And.intro (@yNew_eq) (And.intro (@ygd_some) (@ygb_bool))))))) (And.intro (And.intro (And.intro (And.intro (And.intro (@ygb_skip) (@nth_zero)) (And.intro (@nth_succ) (@nthD_zero))) (And.intro (And.intro (@nthD_succ) (@List.set_cons_zero.{0})) (And.intro (@List.set_cons_succ.{0}) (And.intro (@List.map_cons.{0, 0}) (@List.map_nil.{0, 0}))))) (And.intro (And.intro (And.intro (@List.length_cons.{0}) (@List.length_nil.{0})) (And.intro (@List.cons_append.{0}) (@List.nil_append.{0}))) (And.intro (And.intro (@List.append_nil.{0}) (@Nat.zero_add)) (And.intro (@Nat.add_zero) (And.intro (@List.drop_zero.{0}) (@List.drop_succ_cons.{0})))))) (And.intro (And.intro (And.intro (And.intro (@List.take_succ_cons.{0}) (@List.take_zero.{0})) (And.intro (@bb_tt) (@bb_tf))) (And.intro (And.intro (@bb_ft) (@bb_ff)) (And.intro (@Bool.not_true) (And.intro (@Bool.not_false) (@if_true.{1}))))) (And.intro (And.intro (And.intro (@if_false.{1}) (@Bool.false_eq_true)) (And.intro (@yPick_true) (And.intro (@yPick_false) (@List.isEmpty_nil.{0})))) (And.intro (And.intro (@Bool.and_self) (@C1_P)) (And.intro (@tyA0) (And.intro (@tyA1) (@tyA2)))))))) (And.intro (And.intro (And.intro (And.intro (And.intro (And.intro (@tyA3) (@tyU0)) (And.intro (@tyF0) (@tyF1))) (And.intro (And.intro (@tyZ0) (@yres1)) (And.intro (@ynt_p) (And.intro (@yone_one) (@Option.some.injEq.{0}))))) (And.intro (And.intro (And.intro (@exists_eq_left'.{1}) (@Bool.or_false)) (And.intro (@Bool.or_true) (@true_and))) (And.intro (And.intro (@and_true) (@ne_eq.{1})) (And.intro (@not_false_eq_true) (And.intro (@and_self) (@Nat.one_ne_zero)))))) (And.intro (And.intro (And.intro (And.intro (@ret_ok) (@or_true)) (And.intro (@false_or) (@ychk.eq_1))) (And.intro (And.intro (@ychk.eq_2) (@ychk.eq_3)) (And.intro (@ychk.eq_4) (And.intro (@ychk.eq_5) (@yskip.eq_1))))) (And.intro (And.intro (And.intro (@yskip.eq_2) (@yskip.eq_3)) (And.intro (@yskip.eq_5) (And.intro (@yidle.eq_1) (@yidle.eq_2)))) (And.intro (And.intro (@Nat.le_refl) (@List.length_map.{0, 0})) (And.intro (@take_map_len) (And.intro (@imp_self) (@implies_true.{1}))))))) (And.intro (And.intro (And.intro (And.intro (And.intro (@implies_true.{0}) (@not_true_eq_false)) (And.intro (@List.replicate_succ.{0}) (@List.replicate_zero.{0}))) (And.intro (And.intro (@Nat.zero_le) (@Nat.zero_lt_succ)) (And.intro (@List.contains_cons.{0}) (And.intro (@List.contains_nil.{0}) (@Bool.false_or))))) (And.intro (And.intro (And.intro (@Bool.true_or) (@List.any_cons.{0})) (And.intro (@List.any_nil.{0}) (@Option.isNone_some.{0}))) (And.intro (And.intro (@Option.isNone_none.{0}) (@ynt_own)) (And.intro (@ynt_agg) (And.intro (@renV.eq_1) (@renV.eq_2)))))) (And.intro (And.intro (And.intro (And.intro (@renV.eq_3) (@renC.eq_1)) (And.intro (@renC.eq_2) (@renC.eq_3))) (And.intro (And.intro (@renC.eq_4) (@renC.eq_5)) (And.intro (@slotIx_nil) (And.intro (@slotIx_cons) (@take_map_snoc))))) (And.intro (And.intro (And.intro (@snoc_len) (@Option.map_some.{0, 0})) (And.intro (@Option.map_none.{0, 0}) (And.intro (@Int.toNat_natCast) (@Int.toNat_zero)))) (And.intro (And.intro (@Nat.sub_zero) (@Int.le_refl)) (And.intro (@nn) (And.intro (@yone_two) (@List.set_set.{0}))))))))) (And.intro (And.intro (And.intro (And.intro (And.intro (And.intro (And.intro (@List.length_set.{0}) (@List.getElem?_cons_zero.{0})) (And.intro (@List.getElem?_cons_succ.{0}) (@yresults.eq_2))) (And.intro (And.intro (@yresults.eq_1) (@yresult.eq_1)) (And.intro (@yresult.eq_2) (And.intro (@yop.eq_1) (@yop.eq_2))))) (And.intro (And.intro (And.intro (@yop.eq_3) (@yop.eq_4)) (And.intro (@yop.eq_5) (@yop.eq_6))) (And.intro (And.intro (@yop.eq_7) (@yop.eq_8)) (And.intro (@yop.eq_9) (And.intro (@yop.eq_10) (@yop.eq_11)))))) (And.intro (And.intro (And.intro (And.intro (@yop.eq_12) (@yop.eq_13)) (And.intro (@yop.eq_14) (@yop.eq_15))) (And.intro (And.intro (@yop.eq_16) (@yop.eq_17)) (And.intro (@yop.eq_18) (And.intro (@yop.eq_19) (@yop.eq_20))))) (And.intro (And.intro (And.intro (@yop.eq_21) (@yop.eq_22)) (And.intro (@yop.eq_23) (And.intro (@yop.eq_24) (@yAlloc.eq_1)))) (And.intro (And.intro (@yBox.eq_1) (@ycl.eq_1)) (And.intro (@ycl.eq_2) (And.intro (@ycl.eq_3) (@ycl.eq_4))))))) (And.intro (And.intro (And.intro (And.intro (And.intro (@yLoad.eq_1) (@ycells.eq_1)) (And.intro (@ycells.eq_2) (@ycells.eq_3))) (And.intro (And.intro (@yNil.eq_1) (@yNil.eq_2)) (And.intro (@yNil.eq_3) (And.intro (@yBin.eq_1) (@yUn.eq_1))))) (And.intro (And.intro (And.intro (@dvA.eq_1) (@dvA.eq_2)) (And.intro (@dvA.eq_3) (@dvs.eq_1))) (And.intro (And.intro (@dvs.eq_2) (@dvs.eq_3)) (And.intro (@dv.eq_1) (And.intro (@dv.eq_2) (@yFieldAddr.eq_1)))))) (And.intro (And.intro (And.intro (And.intro (@yField.eq_1) (@yField.eq_2)) (And.intro (@yPart.eq_1) (@yIndexAddr.eq_1))) (And.intro (And.intro (@yIndex.eq_1) (@yExtract.eq_1)) (And.intro (@yExtract.eq_2) (And.intro (@yLen.eq_1) (@yLen.eq_2))))) (And.intro (And.intro (And.intro (@yLen.eq_3) (@yLen.eq_4)) (And.intro (@yCall.eq_1) (And.intro (@xbin.eq_1) (@xbin.eq_2)))) (And.intro (And.intro (@xbin.eq_3) (@xbin.eq_4)) (And.intro (@xbin.eq_5) (And.intro (@xbin.eq_6) (@xbin.eq_7)))))))) (And.intro (And.intro (And.intro (And.intro (And.intro (And.intro (@xbin.eq_8) (@xbin.eq_9)) (And.intro (@xbinI.eq_1) (@xbinI.eq_2))) (And.intro (And.intro (@xbinI.eq_3) (@xint.eq_1)) (And.intro (@xint.eq_2) (And.intro (@xint.eq_3) (@xint.eq_4))))) (And.intro (And.intro (And.intro (@xint.eq_5) (@xint.eq_6)) (And.intro (@xint.eq_7) (@xint.eq_8))) (And.intro (And.intro (@xint.eq_9) (@xint.eq_10)) (And.intro (@xint.eq_11) (And.intro (@xint.eq_12) (@xint.eq_13)))))) (And.intro (And.intro (And.intro (And.intro (@xint.eq_14) (@xint.eq_15)) (And.intro (@xun.eq_1) (@xun.eq_2))) (And.intro (And.intro (@xun.eq_3) (@xbinB.eq_1)) (And.intro (@xbinB.eq_2) (And.intro (@xbinB.eq_3) (@yguard.eq_1))))) (And.intro (And.intro (And.intro (@yStore.eq_1) (@yStore.eq_2)) (And.intro (@ySlice.eq_1) (And.intro (@ySlice.eq_2) (@ySlice.eq_3)))) (And.intro (And.intro (@ySlice.eq_4) (@yAppend.eq_1)) (And.intro (@yBuild.eq_1) (And.intro (@yfill.eq_1) (@yfill.eq_2))))))) (And.intro (And.intro (And.intro (And.intro (And.intro (@yels.eq_1) (@yels.eq_2)) (And.intro (@ypc.eq_1) (@ypc.eq_2))) (And.intro (And.intro (@ypc.eq_3) (@pcs.eq_1)) (And.intro (@pcs.eq_2) (And.intro (@pcs.eq_3) (@gsplice.eq_1))))) (And.intro (And.intro (And.intro (@gsplice.eq_1) (@ySource.eq_1)) (And.intro (@ySource.eq_2) (@ySource.eq_3))) (And.intro (And.intro (@yrow.eq_1) (@yrow.eq_2)) (And.intro (@yrow.eq_3) (And.intro (@yMake.eq_1) (@yBuildSlice.eq_1)))))) (And.intro (And.intro (And.intro (And.intro (@yConvert.eq_1) (@low.eq_1)) (And.intro (@low.eq_2) (@low.eq_3))) (And.intro (And.intro (@yfzC.eq_1) (@yfzC.eq_2)) (And.intro (@yfzC.eq_3) (And.intro (@yfzL.eq_1) (@yfzL.eq_2))))) (And.intro (And.intro (And.intro (@yfzV.eq_1) (@yfzV.eq_2)) (And.intro (@yfzV.eq_3) (And.intro (@yfzP.eq_1) (@yfzP.eq_2)))) (And.intro (And.intro (@yBuildRow.eq_1) (@yBuildRow.eq_2)) (And.intro (@yfrz.eq_1) (And.intro (@yfrz.eq_2) (@pds.eq_1)))))))))
theorem yE : type_of% (And.intro (And.intro (And.intro (And.intro (And.intro (@yren.eq_1) (@yren.eq_2)) (And.intro (@yren.eq_3) (And.intro (@yren.eq_4) (@renV.eq_1)))) (And.intro (And.intro (@renV.eq_2) (And.intro (@renV.eq_3) (@renC.eq_1))) (And.intro (@renC.eq_2) (And.intro (@renC.eq_3) (@renC.eq_4))))) (And.intro (And.intro (And.intro (@renC.eq_5) (@renE.eq_1)) (And.intro (@renE.eq_2) (And.intro (@renE.eq_3) (@renS.eq_1)))) (And.intro (And.intro (@renB.eq_1) (And.intro (@renB.eq_2) (@renB.eq_3))) (And.intro (@slotIx_nil) (And.intro (@slotIx_cons) (@nth_zero)))))) (And.intro (And.intro (And.intro (And.intro (@nth_succ) (@yrow.eq_1)) (And.intro (@yrow.eq_2) (And.intro (@if_true.{1}) (@if_false.{1})))) (And.intro (And.intro (@List.map_cons.{0, 0}) (And.intro (@List.map_nil.{0, 0}) (@Nat.zero_add))) (And.intro (@Nat.add_zero) (And.intro (@Nat.le_refl) (@and_self))))) (And.intro (And.intro (And.intro (@and_true) (And.intro (@true_and) (@List.drop_zero.{0}))) (And.intro (@take_map_len) (And.intro (@take_map_snoc) (@snoc_len)))) (And.intro (And.intro (@List.length_map.{0, 0}) (And.intro (@List.length_append.{0}) (@List.length_cons.{0}))) (And.intro (@List.length_nil.{0}) (And.intro (@Nat.one_ne_zero) (@List.set_set.{0}))))))) := And.intro (And.intro (And.intro (And.intro (And.intro (@yren.eq_1) (@yren.eq_2)) (And.intro (@yren.eq_3) (And.intro (@yren.eq_4) (@renV.eq_1)))) (And.intro (And.intro (@renV.eq_2) (And.intro (@renV.eq_3) (@renC.eq_1))) (And.intro (@renC.eq_2) (And.intro (@renC.eq_3) (@renC.eq_4))))) (And.intro (And.intro (And.intro (@renC.eq_5) (@renE.eq_1)) (And.intro (@renE.eq_2) (And.intro (@renE.eq_3) (@renS.eq_1)))) (And.intro (And.intro (@renB.eq_1) (And.intro (@renB.eq_2) (@renB.eq_3))) (And.intro (@slotIx_nil) (And.intro (@slotIx_cons) (@nth_zero)))))) (And.intro (And.intro (And.intro (And.intro (@nth_succ) (@yrow.eq_1)) (And.intro (@yrow.eq_2) (And.intro (@if_true.{1}) (@if_false.{1})))) (And.intro (And.intro (@List.map_cons.{0, 0}) (And.intro (@List.map_nil.{0, 0}) (@Nat.zero_add))) (And.intro (@Nat.add_zero) (And.intro (@Nat.le_refl) (@and_self))))) (And.intro (And.intro (And.intro (@and_true) (And.intro (@true_and) (@List.drop_zero.{0}))) (And.intro (@take_map_len) (And.intro (@take_map_snoc) (@snoc_len)))) (And.intro (And.intro (@List.length_map.{0, 0}) (And.intro (@List.length_append.{0}) (@List.length_cons.{0}))) (And.intro (@List.length_nil.{0}) (And.intro (@Nat.one_ne_zero) (@List.set_set.{0}))))))
end Go.Vx.Seat
end
/- The style sheet's small functions, among values as they are. -/
section
open Go Go.Vx Go.Proofs
set_option linter.unusedSimpArgs false
set_option linter.unusedVariables false
set_option maxRecDepth 10000
set_option maxHeartbeats 4000000
namespace Go.Vx.Seat
attribute [local congr] Rg_at Rt_at Ro_at Ri_at Rc_at Rto_at Rtk_at Rtf_at Rti_at
attribute [local irreducible] Rg Rt Ro Ri Rc Rto Rtk Rtf Rti Rw Rl Rd Rcall Rtcall kf
theorem C1_eqs : C1.eqs = C0.eqs := rfl
theorem fn34 : nth C1.P.funcs.toList 34 = some Try.f34 := by kernel_rfl
theorem fn39 : nth C1.P.funcs.toList 39 = some Try.f39 := by kernel_rfl
theorem fn37 : nth C1.P.funcs.toList 37 = some Try.f37 := by kernel_rfl
theorem fn40 : nth C1.P.funcs.toList 40 = some Try.f40 := by kernel_rfl
theorem fn41 : nth C1.P.funcs.toList 41 = some Try.f41 := by kernel_rfl
theorem fn57 : nth C1.P.funcs.toList 57 = some Try.f57 := by kernel_rfl
theorem fn35 : nth C1.P.funcs.toList 35 = some Try.f35 := by kernel_rfl
theorem fn36 : nth C1.P.funcs.toList 36 = some Try.f36 := by kernel_rfl
theorem eqI_true (n : Int) : eqI n n = true := by rw [eqI_eq]; simp
theorem eqI_false {a b : Int} (h : a ≠ b) : eqI a b = false := by rw [eqI_eq]; simp [h]
theorem leI_true {a b : Int} (h : a ≤ b) : leI a b = true := by rw [leI_eq]; simp [h]
theorem leI_false {a b : Int} (h : ¬ a ≤ b) : leI a b = false := by rw [leI_eq]; simp [h]
theorem wrap_nat {i : Nat} (h : i < 9000000000000000000) : wrapK .i64 ((i : Nat) : Int) = (i : Nat) := by rw [wrapK_eq, IntKind.wrap_i64]; omega
theorem wrap_succ {i : Nat} (h : i < 9000000000000000000) : wrapK .i64 (((i : Nat) : Int) + 1) = ((i + 1 : Nat) : Int) := by rw [wrapK_eq, IntKind.wrap_i64]; omega
theorem wrap_int {x : Int} (h1 : -9000000000000000000 ≤ x) (h2 : x ≤ 9000000000000000000) : wrapK .i64 x = x := by rw [wrapK_eq, IntKind.wrap_i64]; omega
theorem wrap_pred {i : Nat} (h0 : 0 < i) (h : i < 9000000000000000000) : wrapK .i64 (((i : Nat) : Int) - 1) = ((i - 1 : Nat) : Int) := by rw [wrapK_eq, IntKind.wrap_i64]; omega
/-- A number's cell; a row of numbers. -/
def ei (n : Int) : List PC := [.d (.int .i64 n)]
abbrev rI (l : List Int) : PC := .row 1 (l.map ei)
/-- A row of rows of numbers. -/
def e2 (l : List Int) : List PC := [rI l]
abbrev rII (l : List (List Int)) : PC := .row 1 (l.map e2)
/-- A token. -/
structure Tok where
  kind : Int
  text : ByteArray
  unit : ByteArray
  neg : Bool
  digits : ByteArray
  exp : ByteArray
  flag : Bool
  sign : Bool
  c0 : Int
  c1 : Int
  c2 : Int
  c3 : Int
  start : Int
def Tok.pc (t : Tok) : List PC :=
  [.d (.int .i64 t.kind), .d (.string t.text), .d (.string t.unit), .d (.bool t.neg), .d (.string t.digits), .d (.string t.exp), .d (.bool t.flag), .d (.bool t.sign), .d (.int .i64 t.c0), .d (.int .i64 t.c1), .d (.int .i64 t.c2), .d (.int .i64 t.c3), .d (.int .i64 t.start)]
def Tok.cs (t : Tok) : List Ce := t.pc.map .p
abbrev Tok.yv (t : Tok) : YV := .agg t.cs
abbrev rT (l : List Tok) : PC := .row 13 (l.map Tok.pc)
instance : Inhabited Tok := ⟨⟨0, ⟨#[]⟩, ⟨#[]⟩, false, ⟨#[]⟩, ⟨#[]⟩, false, false, 0, 0, 0, 0, 0⟩⟩
theorem get_map {α β : Type} {f : α → β} {l : List α} {i : Nat} {a : α} (h : l[i]? = some a) : (l.map f)[i]? = some (f a) := by simp [h]
theorem get_lt {α : Type} {l : List α} {i : Nat} (h : i < l.length) : ∃ a, l[i]? = some a := ⟨l[i], List.getElem?_eq_getElem h⟩

def closes (k : Int) : Int := if k = 2 ∨ k = 21 then 22 else if k = 23 then 24 else if k = 19 then 20 else 0
theorem closes_spec (k : Int) : PCall C1 34 [yd (.int .i64 k)] fun y => y = yd (.int .i64 (closes k)) := by
  refine Pf (by rfl) (by rfl) fn34 (by rfl) ?_
  simp only [Try.f34, List.length_cons, List.length_nil, List.replicate, List.cons_append, List.nil_append]
  simp -implicitDefEqProofs only [↓yP, yT, Nat.reduceAdd, Nat.reduceMul, Nat.reduceSub, Nat.reduceLeDiff, Nat.reduceEqDiff, reduceCtorEq, Nat.reduceBEq]
  unfold closes
  by_cases h1 : k = 2
  · subst h1
    simp [eqI_eq, ↓yP, yT, Nat.reduceAdd, Nat.reduceMul, Nat.reduceSub, Nat.reduceLeDiff, Nat.reduceEqDiff, reduceCtorEq, Nat.reduceBEq]
  by_cases h2 : k = 21
  · subst h2
    simp [eqI_eq, ↓yP, yT, Nat.reduceAdd, Nat.reduceMul, Nat.reduceSub, Nat.reduceLeDiff, Nat.reduceEqDiff, reduceCtorEq, Nat.reduceBEq]
  by_cases h3 : k = 23
  · subst h3
    simp [eqI_eq, ↓yP, yT, Nat.reduceAdd, Nat.reduceMul, Nat.reduceSub, Nat.reduceLeDiff, Nat.reduceEqDiff, reduceCtorEq, Nat.reduceBEq]
  by_cases h4 : k = 19
  · subst h4
    simp [eqI_eq, ↓yP, yT, Nat.reduceAdd, Nat.reduceMul, Nat.reduceSub, Nat.reduceLeDiff, Nat.reduceEqDiff, reduceCtorEq, Nat.reduceBEq]
  simp [eqI_eq, h1, h2, h3, h4, ↓yP, yT, Nat.reduceAdd, Nat.reduceMul, Nat.reduceSub, Nat.reduceLeDiff, Nat.reduceEqDiff, reduceCtorEq, Nat.reduceBEq]
theorem closer_spec (k : Int) : PCall C1 39 [yd (.int .i64 k)] fun y => y = yd (.int .i64 (closes k)) := by
  refine Pf (by rfl) (by rfl) fn39 (by rfl) ?_
  simp only [Try.f39, List.length_cons, List.length_nil, List.replicate, List.cons_append, List.nil_append]
  simp -implicitDefEqProofs only [↓yP, yT, Nat.reduceAdd, Nat.reduceMul, Nat.reduceSub, Nat.reduceLeDiff, Nat.reduceEqDiff, reduceCtorEq, Nat.reduceBEq]
  unfold closes
  by_cases h1 : k = 2
  · subst h1
    simp [eqI_eq, ↓yP, yT, Nat.reduceAdd, Nat.reduceMul, Nat.reduceSub, Nat.reduceLeDiff, Nat.reduceEqDiff, reduceCtorEq, Nat.reduceBEq]
  by_cases h2 : k = 21
  · subst h2
    simp [eqI_eq, ↓yP, yT, Nat.reduceAdd, Nat.reduceMul, Nat.reduceSub, Nat.reduceLeDiff, Nat.reduceEqDiff, reduceCtorEq, Nat.reduceBEq]
  by_cases h3 : k = 23
  · subst h3
    simp [eqI_eq, ↓yP, yT, Nat.reduceAdd, Nat.reduceMul, Nat.reduceSub, Nat.reduceLeDiff, Nat.reduceEqDiff, reduceCtorEq, Nat.reduceBEq]
  by_cases h4 : k = 19
  · subst h4
    simp [eqI_eq, ↓yP, yT, Nat.reduceAdd, Nat.reduceMul, Nat.reduceSub, Nat.reduceLeDiff, Nat.reduceEqDiff, reduceCtorEq, Nat.reduceBEq]
  simp [eqI_eq, h1, h2, h3, h4, ↓yP, yT, Nat.reduceAdd, Nat.reduceMul, Nat.reduceSub, Nat.reduceLeDiff, Nat.reduceEqDiff, reduceCtorEq, Nat.reduceBEq]

def quiet (k : Int) : Bool := decide (k = 13) || decide (k = 25)
def partK (k : Int) : Bool := decide (k = 19) || decide (k = 20) || decide (k = 17)
theorem quiet_spec (t : Tok) : PCall C1 37 [t.yv] fun y => y = yd (.bool (quiet t.kind)) := by
  refine Pf (by rfl) (by rfl) fn37 (by rfl) ?_
  simp only [Try.f37, List.length_cons, List.length_nil, List.replicate, List.cons_append, List.nil_append]
  simp only [Tok.yv, Tok.cs, Tok.pc, List.map_cons, List.map_nil]
  unfold quiet
  by_cases h1 : t.kind = 13
  · simp -implicitDefEqProofs only [↓yP, yT, Nat.reduceAdd, Nat.reduceMul, Nat.reduceSub, Nat.reduceLeDiff, Nat.reduceEqDiff, reduceCtorEq, Nat.reduceBEq, h1, eqI_true]
    simp
  · simp -implicitDefEqProofs only [↓yP, yT, Nat.reduceAdd, Nat.reduceMul, Nat.reduceSub, Nat.reduceLeDiff, Nat.reduceEqDiff, reduceCtorEq, Nat.reduceBEq, eqI_false h1]
    simp [h1, eqI_eq]
theorem blank_spec (t : Tok) : PCall C1 40 [t.yv] fun y => y = yd (.bool (quiet t.kind)) := by
  refine Pf (by rfl) (by rfl) fn40 (by rfl) ?_
  simp only [Try.f40, List.length_cons, List.length_nil, List.replicate, List.cons_append, List.nil_append]
  simp only [Tok.yv, Tok.cs, Tok.pc, List.map_cons, List.map_nil]
  unfold quiet
  by_cases h1 : t.kind = 13
  · simp -implicitDefEqProofs only [↓yP, yT, Nat.reduceAdd, Nat.reduceMul, Nat.reduceSub, Nat.reduceLeDiff, Nat.reduceEqDiff, reduceCtorEq, Nat.reduceBEq, h1, eqI_true]
    simp
  · simp -implicitDefEqProofs only [↓yP, yT, Nat.reduceAdd, Nat.reduceMul, Nat.reduceSub, Nat.reduceLeDiff, Nat.reduceEqDiff, reduceCtorEq, Nat.reduceBEq, eqI_false h1]
    simp [h1, eqI_eq]
theorem cpart_spec (t : Tok) : PCall C1 41 [t.yv] fun y => y = yd (.bool (partK t.kind)) := by
  refine Pf (by rfl) (by rfl) fn41 (by rfl) ?_
  simp only [Try.f41, List.length_cons, List.length_nil, List.replicate, List.cons_append, List.nil_append]
  simp only [Tok.yv, Tok.cs, Tok.pc, List.map_cons, List.map_nil]
  unfold partK
  by_cases h1 : t.kind = 19
  · simp -implicitDefEqProofs only [↓yP, yT, Nat.reduceAdd, Nat.reduceMul, Nat.reduceSub, Nat.reduceLeDiff, Nat.reduceEqDiff, reduceCtorEq, Nat.reduceBEq, h1, eqI_true]
    simp
  by_cases h2 : t.kind = 20
  · have e1 : eqI t.kind 19 = false := eqI_false h1
    have e2 : eqI t.kind 20 = true := by rw [h2]; rfl
    simp -implicitDefEqProofs only [↓yP, yT, Nat.reduceAdd, Nat.reduceMul, Nat.reduceSub, Nat.reduceLeDiff, Nat.reduceEqDiff, reduceCtorEq, Nat.reduceBEq, e1, e2]
    simp [h2]
  · simp -implicitDefEqProofs only [↓yP, yT, Nat.reduceAdd, Nat.reduceMul, Nat.reduceSub, Nat.reduceLeDiff, Nat.reduceEqDiff, reduceCtorEq, Nat.reduceBEq, eqI_false h1, eqI_false h2]
    simp [h1, h2, eqI_eq]

theorem in_spec (l : List Int) (n : Int) (hl : l.length ≤ 100000000) : PCall C1 57 [.c (.p (rI l)), yd (.int .i64 n)] fun y => y = yd (.bool (l.contains n)) := by
  refine Pf (by rfl) (by rfl) fn57 (by rfl) ?_
  simp only [Try.f57, List.length_cons, List.length_nil, List.replicate, List.cons_append, List.nil_append]
  simp -implicitDefEqProofs only [↓yP, yT, Nat.reduceAdd, Nat.reduceMul, Nat.reduceSub, Nat.reduceLeDiff, Nat.reduceEqDiff, reduceCtorEq, Nat.reduceBEq]
  refine Rl_inv (fun d e s => ∃ i : Nat, e = [.c (.p (rI l)), yd (.int .i64 n), .c .top, .c .top, .c .top, yd (.int .i64 i), .c .top, .c .top, .c .top, .c .top, .c .top, .c .top, .c .top, .c .top, .c .top, .c .top, .c .top, .c .top] ∧ s = [] ∧ i + d = l.length ∧ ∀ (j : Nat) (a : Int), j < i → l[j]? = some a → a ≠ n) [true, true, false, false, false, true] l.length [] (by decide) (pinned_zero _) ⟨0, rfl, rfl, by omega, fun j a hj => by omega⟩ ?_
  rintro d e s ⟨i, rfl, rfl, hd, hne⟩
  by_cases hi : i < l.length
  · obtain ⟨a, ha⟩ := get_lt hi
    have t1 : leI (l.length : Nat) (i : Nat) = false := leI_false (by omega)
    by_cases he : a = n
    · simp -implicitDefEqProofs only [↓yP, yT, Nat.reduceAdd, Nat.reduceMul, Nat.reduceSub, Nat.reduceLeDiff, Nat.reduceEqDiff, reduceCtorEq, Nat.reduceBEq, List.length_map, t1, nn, Int.toNat_natCast, get_map ha, ei, he, eqI_true]
      simp [List.mem_of_getElem? (he ▸ ha)]
    · simp -implicitDefEqProofs only [↓yP, yT, Nat.reduceAdd, Nat.reduceMul, Nat.reduceSub, Nat.reduceLeDiff, Nat.reduceEqDiff, reduceCtorEq, Nat.reduceBEq, List.length_map, t1, nn, Int.toNat_natCast, get_map ha, ei, eqI_false he, wrap_succ (show i < 9000000000000000000 by omega)]
      refine ⟨d - 1, [], by omega, by decide, pinned_zero _, i + 1, rfl, rfl, by omega, fun j b hj hb => ?_⟩
      by_cases e : j = i
      · subst e; rw [ha] at hb; cases hb; exact he
      · exact hne j b (by omega) hb
  · have t1 : leI (l.length : Nat) (i : Nat) = true := leI_true (by omega)
    simp -implicitDefEqProofs only [↓yP, yT, Nat.reduceAdd, Nat.reduceMul, Nat.reduceSub, Nat.reduceLeDiff, Nat.reduceEqDiff, reduceCtorEq, Nat.reduceBEq, List.length_map, t1]
    have : n ∉ l := fun hm => by
      obtain ⟨j, hj, he⟩ := List.getElem_of_mem hm
      exact hne j n (by omega) (by rw [List.getElem?_eq_getElem hj, he]) rfl
    simp [this]
end Go.Vx.Seat
end
/- blocks, part, Nest. -/
section
open Go Go.Vx Go.Proofs
set_option linter.unusedSimpArgs false
set_option linter.unusedVariables false
set_option maxRecDepth 10000
set_option maxHeartbeats 4000000
namespace Go.Vx.Seat
attribute [local congr] Rg_at Rt_at Ro_at Ri_at Rc_at Rto_at Rtk_at Rtf_at Rti_at
attribute [local irreducible] Rg Rt Ro Ri Rc Rto Rtk Rtf Rti Rw Rl Rd Rcall Rtcall kf
theorem fn19 : nth C1.P.funcs.toList 19 = some Try.f19 := by kernel_rfl
def allBlocks (l : List Int) : Bool := l.all fun k => decide (k = 20)
theorem blocks_spec (l : List Int) (hl : l.length ≤ 100000000) : PCall C1 35 [.c (.p (rI l))] fun y => y = yd (.bool (allBlocks l)) := by
  refine Pf (by rfl) (by rfl) fn35 (by rfl) ?_
  simp only [Try.f35, List.length_cons, List.length_nil, List.replicate, List.cons_append, List.nil_append]
  simp -implicitDefEqProofs only [↓yP, yT, Nat.reduceAdd, Nat.reduceMul, Nat.reduceSub, Nat.reduceLeDiff, Nat.reduceEqDiff, reduceCtorEq, Nat.reduceBEq]
  refine Rl_inv (fun d e s => ∃ i : Nat, e = [.c (.p (rI l)), .c .top, .c .top, yd (.int .i64 i), .c .top, .c .top, .c .top, .c .top, .c .top, .c .top, .c .top, .c .top, .c .top, .c .top, .c .top] ∧ s = [] ∧ i + d = l.length ∧ ∀ (j : Nat) (a : Int), j < i → l[j]? = some a → a = 20) [true, false, false, true] l.length [] (by decide) (pinned_zero _) ⟨0, rfl, rfl, by omega, fun j a hj => by omega⟩ ?_
  rintro d e s ⟨i, rfl, rfl, hd, hne⟩
  by_cases hi : i < l.length
  · obtain ⟨a, ha⟩ := get_lt hi
    have t1 : leI (l.length : Nat) (i : Nat) = false := leI_false (by omega)
    by_cases he : a = 20
    · simp -implicitDefEqProofs only [↓yP, yT, Nat.reduceAdd, Nat.reduceMul, Nat.reduceSub, Nat.reduceLeDiff, Nat.reduceEqDiff, reduceCtorEq, Nat.reduceBEq, t1, nn, Int.toNat_natCast, get_map ha, ei, he, eqI_true, wrap_succ (show i < 9000000000000000000 by omega)]
      refine ⟨d - 1, [], by omega, by decide, pinned_zero _, i + 1, rfl, rfl, by omega, fun j b hj hb => ?_⟩
      by_cases e : j = i
      · subst e; rw [ha] at hb; cases hb; exact he
      · exact hne j b (by omega) hb
    · simp -implicitDefEqProofs only [↓yP, yT, Nat.reduceAdd, Nat.reduceMul, Nat.reduceSub, Nat.reduceLeDiff, Nat.reduceEqDiff, reduceCtorEq, Nat.reduceBEq, t1, nn, Int.toNat_natCast, get_map ha, ei, eqI_false he]
      have : allBlocks l = false := by
        rw [allBlocks, List.all_eq_false]
        exact ⟨a, List.mem_of_getElem? ha, by simp [he]⟩
      simp [this]
  · have t1 : leI (l.length : Nat) (i : Nat) = true := leI_true (by omega)
    simp -implicitDefEqProofs only [↓yP, yT, Nat.reduceAdd, Nat.reduceMul, Nat.reduceSub, Nat.reduceLeDiff, Nat.reduceEqDiff, reduceCtorEq, Nat.reduceBEq, t1]
    have : allBlocks l = true := by
      rw [allBlocks, List.all_eq_true]
      intro k hk
      obtain ⟨j, hj, he⟩ := List.getElem_of_mem hk
      simp [hne j k (by omega) (by rw [List.getElem?_eq_getElem hj, he])]
    simp [this]

theorem part_spec (ts : List Tok) (rows : List (List Int)) (i : Nat) (t : Tok) (r : List Int) (hi : ts[i]? = some t) (hr : rows[i]? = some r) (hb : r.length ≤ 100000000) :
    PCall C1 36 [.c (.p (rT ts)), .c (.p (rII rows)), yd (.int .i64 i)] fun y => y = yd (.bool (partK t.kind && allBlocks r)) := by
  refine Pf (by rfl) (by rfl) fn36 (by rfl) ?_
  simp only [Try.f36, List.length_cons, List.length_nil, List.replicate, List.cons_append, List.nil_append]
  unfold partK
  by_cases k1 : t.kind = 19
  · have e1 : eqI t.kind 19 = true := by rw [k1]; rfl
    simp -implicitDefEqProofs only [↓yP, yT, Nat.reduceAdd, Nat.reduceMul, Nat.reduceSub, Nat.reduceLeDiff, Nat.reduceEqDiff, reduceCtorEq, Nat.reduceBEq, nn, Int.toNat_natCast, get_map hi, get_map hr, Tok.pc, e2, e1]
    refine Rcall_pure (blocks_spec r hb) (by rfl) fun y hy => ?_
    subst hy
    simp -implicitDefEqProofs only [↓yP, yT, Nat.reduceAdd, Nat.reduceMul, Nat.reduceSub, Nat.reduceLeDiff, Nat.reduceEqDiff, reduceCtorEq, Nat.reduceBEq]
    simp [k1]
  have e1 : eqI t.kind 19 = false := eqI_false k1
  by_cases k2 : t.kind = 20
  · have e2' : eqI t.kind 20 = true := by rw [k2]; rfl
    simp -implicitDefEqProofs only [↓yP, yT, Nat.reduceAdd, Nat.reduceMul, Nat.reduceSub, Nat.reduceLeDiff, Nat.reduceEqDiff, reduceCtorEq, Nat.reduceBEq, nn, Int.toNat_natCast, get_map hi, get_map hr, Tok.pc, e2, e1, e2']
    refine Rcall_pure (blocks_spec r hb) (by rfl) fun y hy => ?_
    subst hy
    simp -implicitDefEqProofs only [↓yP, yT, Nat.reduceAdd, Nat.reduceMul, Nat.reduceSub, Nat.reduceLeDiff, Nat.reduceEqDiff, reduceCtorEq, Nat.reduceBEq]
    simp [k2]
  have e2' : eqI t.kind 20 = false := eqI_false k2
  by_cases k3 : t.kind = 17
  · have e3 : eqI t.kind 17 = true := by rw [k3]; rfl
    simp -implicitDefEqProofs only [↓yP, yT, Nat.reduceAdd, Nat.reduceMul, Nat.reduceSub, Nat.reduceLeDiff, Nat.reduceEqDiff, reduceCtorEq, Nat.reduceBEq, nn, Int.toNat_natCast, get_map hi, get_map hr, Tok.pc, e2, e1, e2', e3]
    refine Rcall_pure (blocks_spec r hb) (by rfl) fun y hy => ?_
    subst hy
    simp -implicitDefEqProofs only [↓yP, yT, Nat.reduceAdd, Nat.reduceMul, Nat.reduceSub, Nat.reduceLeDiff, Nat.reduceEqDiff, reduceCtorEq, Nat.reduceBEq]
    simp [k3]
  · have e3 : eqI t.kind 17 = false := eqI_false k3
    simp -implicitDefEqProofs only [↓yP, yT, Nat.reduceAdd, Nat.reduceMul, Nat.reduceSub, Nat.reduceLeDiff, Nat.reduceEqDiff, reduceCtorEq, Nat.reduceBEq, nn, Int.toNat_natCast, get_map hi, get_map hr, Tok.pc, e2, e1, e2', e3]
    simp [k1, k2, k3]

/-- What is open behind a token of a kind. -/
def nestStep (o : List Int) (k : Int) : List Int :=
  if o.getLast? = some k then o.dropLast else if closes k > 0 then o ++ [closes k] else o
/-- What is open ahead of a place. -/
def openAt (ts : List Tok) : Nat → List Int
  | 0 => []
  | i + 1 => match ts[i]? with | some t => nestStep (openAt ts i) t.kind | none => openAt ts i
def nest (ts : List Tok) : List (List Int) := (List.range ts.length).map (openAt ts)
theorem nestStep_length (o : List Int) (k : Int) : (nestStep o k).length ≤ o.length + 1 := by
  unfold nestStep
  split
  · simp; omega
  · split
    · simp
    · omega
theorem openAt_length (ts : List Tok) : ∀ i, (openAt ts i).length ≤ i
  | 0 => by simp [openAt]
  | i + 1 => by
    have := openAt_length ts i
    unfold openAt
    split
    · rename_i t _
      have := nestStep_length (openAt ts i) t.kind
      omega
    · omega
theorem nest_length (ts : List Tok) : (nest ts).length = ts.length := by simp [nest]
theorem nest_at (ts : List Tok) {i : Nat} (hi : i < ts.length) : (nest ts)[i]? = some (openAt ts i) := by
  simp [nest, hi]
theorem openAt_succ {ts : List Tok} {i : Nat} {t : Tok} (h : ts[i]? = some t) : openAt ts (i + 1) = nestStep (openAt ts i) t.kind := by
  rw [openAt, h]
end Go.Vx.Seat
end
/- Nest: the walk. -/
section
open Go Go.Vx Go.Proofs
set_option linter.unusedSimpArgs false
set_option linter.unusedVariables false
set_option maxRecDepth 10000
set_option maxHeartbeats 4000000
namespace Go.Vx.Seat
attribute [local congr] Rg_at Rt_at Ro_at Ri_at Rc_at Rto_at Rtk_at Rtf_at Rti_at
attribute [local irreducible] Rg Rt Ro Ri Rc Rto Rtk Rtf Rti Rw Rl Rd Rcall Rtcall kf
def opens (ts : List Tok) (i : Nat) : List (List PC) := (List.range i).map fun j => e2 (openAt ts j)
theorem opens_length (ts : List Tok) (i : Nat) : (opens ts i).length = i := by simp [opens]
theorem opens_succ (ts : List Tok) (i : Nat) : opens ts (i + 1) = opens ts i ++ [e2 (openAt ts i)] := by simp [opens, List.range_succ]
theorem opens_take (ts : List Tok) (i : Nat) : (opens ts i).take i = opens ts i := List.take_of_length_le (by rw [opens_length]; omega)

theorem opens_nest (ts : List Tok) : opens ts ts.length = (nest ts).map e2 := by simp [opens, nest]
theorem nest_take (ts : List Tok) : ((nest ts).map e2).take ts.length = (nest ts).map e2 := List.take_of_length_le (by simp [nest_length])
theorem nest_spec (ts : List Tok) (hl : ts.length ≤ 1000000) : PCall C1 19 [.c (.p (rT ts))] fun y => y = .c (.p (rII (nest ts))) := by
  refine Pf (by rfl) (by rfl) fn19 (by rfl) ?_
  simp only [Try.f19, List.length_cons, List.length_nil, List.replicate, List.cons_append, List.nil_append]
  simp -implicitDefEqProofs only [↓yP, yT, Nat.reduceAdd, Nat.reduceMul, Nat.reduceSub, Nat.reduceLeDiff, Nat.reduceEqDiff, reduceCtorEq, Nat.reduceBEq]
  refine Rl_nil 3 1 (by decide) rfl ?_
  refine Rl_nil0 4 1 rfl ?_
  refine Rl_inv (fun d e s => ∃ i : Nat, e = [.c (.p (rT ts)), .c .top, .c .top, .c (.own 0 1 0 i), .c (.p (rI (openAt ts i))), yd (.int .i64 i), .c .top, .c .top, .c .top, .c .top, .c .top, .c .top, .c .top, .c .top, .c .top, .c .top, .c .top, .c .top, .c .top, .c .top, .c .top, .c .top, .c .top, .c .top, .c .top, .c .top, .c .top, .c .top, .c .top, .c .top, .c .top, .c .top, .c .top, .c .top, .c .top, .c .top, .c .top, .c .top, .c .top, .c .top, .c .top, .c .top, .c .top, .c .top, .c .top, .c .top, .c .top, .c .top, .c .top, .c .top, .c .top, .c .top, .c .top, .c .top, .c .top, .c .top, .c .top, .c .top] ∧ s = [.row 1 (opens ts i)] ∧ i + d = ts.length) [true, false, false, true, true, true] ts.length [0] (by decide) (pinned_zero _) ⟨0, rfl, rfl, by omega⟩ ?_
  rintro d e s ⟨i, rfl, rfl, hd⟩
  have hol := openAt_length ts i
  by_cases hi : i < ts.length
  · obtain ⟨t, ht⟩ := get_lt hi
    have t1 : leI (ts.length : Nat) (i : Nat) = false := leI_false (by omega)
    have b1 : (openAt ts i).length * 8 ≤ 70368744177664 := by omega
    have b2 : (i + 1) * 24 ≤ 70368744177664 := by omega
    have b3 : i ≤ (opens ts i).length := by rw [opens_length]; omega
    simp -implicitDefEqProofs only [↓yP, yT, Nat.reduceAdd, Nat.reduceMul, Nat.reduceSub, Nat.reduceLeDiff, Nat.reduceEqDiff, reduceCtorEq, Nat.reduceBEq, t1, b1, b2, b3]
    refine Rd_calm (by rw [C1_P]; kernel_rfl) ?_
    have w1 : wrapK .i64 ((i : Int) + 1) = ((i + 1 : Nat) : Int) := wrap_succ (by omega)
    have hsucc := openAt_succ ht
    rcases hol0 : (openAt ts i).getLast? with _ | c
    · have ho : openAt ts i = [] := by simpa using hol0
      have t2 : leI ((openAt ts i).length : Nat) 0 = true := by rw [ho]; rfl
      simp -implicitDefEqProofs only [↓yP, yT, Nat.reduceAdd, Nat.reduceMul, Nat.reduceSub, Nat.reduceLeDiff, Nat.reduceEqDiff, reduceCtorEq, Nat.reduceBEq, t2, nn, Int.toNat_natCast, get_map ht, Tok.pc]
      refine Rcall_pure (closes_spec t.kind) (by rfl) fun y hy => ?_
      subst hy
      by_cases hc : closes t.kind > 0
      · have t3 : leI (closes t.kind) 0 = false := leI_false (by omega)
        have b4 : ((openAt ts i).length + 1) * 8 ≤ 70368744177664 := by omega
        simp -implicitDefEqProofs only [↓yP, yT, Nat.reduceAdd, Nat.reduceMul, Nat.reduceSub, Nat.reduceLeDiff, Nat.reduceEqDiff, reduceCtorEq, Nat.reduceBEq, t3]
        refine Rd_trace ?_
        simp -implicitDefEqProofs only [↓yP, yT, Nat.reduceAdd, Nat.reduceMul, Nat.reduceSub, Nat.reduceLeDiff, Nat.reduceEqDiff, reduceCtorEq, Nat.reduceBEq, nn, Int.toNat_natCast, get_map ht, Tok.pc, b1]
        refine Rtcall_pure (closes_spec t.kind) (by rfl) fun y hy => ?_
        subst hy
        simp -implicitDefEqProofs only [↓yP, yT, Nat.reduceAdd, Nat.reduceMul, Nat.reduceSub, Nat.reduceLeDiff, Nat.reduceEqDiff, reduceCtorEq, Nat.reduceBEq, b4, w1]
        have hs2 : openAt ts (i + 1) = openAt ts i ++ [closes t.kind] := by rw [hsucc, nestStep, hol0, if_neg (by simp), if_pos hc]
        refine ⟨d - 1, [3], by omega, by decide, pinned_zero _, i + 1, ?_, ?_, by omega⟩
        · simp only [yE, Nat.reduceEqDiff, Nat.reduceAdd, reduceCtorEq, hs2, rI, List.map_append, ei]
        · simp only [yE, Nat.reduceEqDiff, Nat.reduceAdd, reduceCtorEq, opens_succ, opens_take, e2]
      · have t3 : leI (closes t.kind) 0 = true := leI_true (by omega)
        simp -implicitDefEqProofs only [↓yP, yT, Nat.reduceAdd, Nat.reduceMul, Nat.reduceSub, Nat.reduceLeDiff, Nat.reduceEqDiff, reduceCtorEq, Nat.reduceBEq, t3, w1]
        have hs2 : openAt ts (i + 1) = openAt ts i := by rw [hsucc, nestStep, hol0, if_neg (by simp), if_neg hc]
        refine ⟨d - 1, [3], by omega, by decide, pinned_zero _, i + 1, ?_, ?_, by omega⟩
        · simp only [yE, Nat.reduceEqDiff, Nat.reduceAdd, reduceCtorEq, hs2]
        · simp only [yE, Nat.reduceEqDiff, Nat.reduceAdd, reduceCtorEq, opens_succ, opens_take, e2]
    · have ho : (openAt ts i).length ≠ 0 := by intro h0; rw [List.length_eq_zero_iff.mp h0] at hol0; cases hol0
      have t2 : leI ((openAt ts i).length : Nat) 0 = false := leI_false (by omega)
      have w2 : wrapK .i64 (((openAt ts i).length : Int) - 1) = (((openAt ts i).length - 1 : Nat) : Int) := wrap_pred (by omega) (by omega)
      have hlast : (openAt ts i)[(openAt ts i).length - 1]? = some c := by rw [← List.getLast?_eq_getElem?]; exact hol0
      by_cases hck : c = t.kind
      · subst hck
        have b5 : ((openAt ts i).length - 1) * 8 ≤ 70368744177664 := by omega
        have b6 : (openAt ts i).length - 1 ≤ (openAt ts i).length := by omega
        have l6 : (((openAt ts i).length - 1 : Nat) : Int) ≤ ((openAt ts i).length : Nat) := by omega
        have hs2 : openAt ts (i + 1) = (openAt ts i).take ((openAt ts i).length - 1) := by rw [hsucc, nestStep, hol0, if_pos rfl, List.dropLast_eq_take]
        have hm : min ((openAt ts i).length - 1) (openAt ts i).length = (openAt ts i).length - 1 := by omega
        simp -implicitDefEqProofs only [↓yP, yT, Nat.reduceAdd, Nat.reduceMul, Nat.reduceSub, Nat.reduceLeDiff, Nat.reduceEqDiff, reduceCtorEq, Nat.reduceBEq, t2, w1, w2, nn, Int.toNat_natCast, get_map ht, get_map hlast, ei, Tok.pc, eqI_true, b5, l6, Int.toNat_zero, Nat.sub_zero, Int.le_refl, List.length_take, hm]
        refine ⟨d - 1, [3], by omega, by decide, pinned_zero _, i + 1, ?_, ?_, by omega⟩
        · simp only [yE, Nat.reduceEqDiff, Nat.reduceAdd, reduceCtorEq, hs2, List.length_take, hm, List.take_take, Nat.min_self, rI, List.map_take]
        · simp only [yE, Nat.reduceEqDiff, Nat.reduceAdd, reduceCtorEq, opens_succ, opens_take, e2]
      · have e1 : eqI c t.kind = false := eqI_false hck
        simp -implicitDefEqProofs only [↓yP, yT, Nat.reduceAdd, Nat.reduceMul, Nat.reduceSub, Nat.reduceLeDiff, Nat.reduceEqDiff, reduceCtorEq, Nat.reduceBEq, t2, w2, nn, Int.toNat_natCast, get_map ht, get_map hlast, ei, Tok.pc, e1]
        refine Rcall_pure (closes_spec t.kind) (by rfl) fun y hy => ?_
        subst hy
        by_cases hc : closes t.kind > 0
        · have t3 : leI (closes t.kind) 0 = false := leI_false (by omega)
          have b4 : ((openAt ts i).length + 1) * 8 ≤ 70368744177664 := by omega
          simp -implicitDefEqProofs only [↓yP, yT, Nat.reduceAdd, Nat.reduceMul, Nat.reduceSub, Nat.reduceLeDiff, Nat.reduceEqDiff, reduceCtorEq, Nat.reduceBEq, t3]
          refine Rd_trace ?_
          simp -implicitDefEqProofs only [↓yP, yT, Nat.reduceAdd, Nat.reduceMul, Nat.reduceSub, Nat.reduceLeDiff, Nat.reduceEqDiff, reduceCtorEq, Nat.reduceBEq, nn, Int.toNat_natCast, get_map ht, Tok.pc, b1]
          refine Rtcall_pure (closes_spec t.kind) (by rfl) fun y hy => ?_
          subst hy
          simp -implicitDefEqProofs only [↓yP, yT, Nat.reduceAdd, Nat.reduceMul, Nat.reduceSub, Nat.reduceLeDiff, Nat.reduceEqDiff, reduceCtorEq, Nat.reduceBEq, b4, w1]
          have hs2 : openAt ts (i + 1) = openAt ts i ++ [closes t.kind] := by rw [hsucc, nestStep, hol0, if_neg (by simpa using hck), if_pos hc]
          refine ⟨d - 1, [3], by omega, by decide, pinned_zero _, i + 1, ?_, ?_, by omega⟩
          · simp only [yE, Nat.reduceEqDiff, Nat.reduceAdd, reduceCtorEq, hs2, rI, List.map_append, ei]
          · simp only [yE, Nat.reduceEqDiff, Nat.reduceAdd, reduceCtorEq, opens_succ, opens_take, e2]
        · have t3 : leI (closes t.kind) 0 = true := leI_true (by omega)
          simp -implicitDefEqProofs only [↓yP, yT, Nat.reduceAdd, Nat.reduceMul, Nat.reduceSub, Nat.reduceLeDiff, Nat.reduceEqDiff, reduceCtorEq, Nat.reduceBEq, t3, w1]
          have hs2 : openAt ts (i + 1) = openAt ts i := by rw [hsucc, nestStep, hol0, if_neg (by simpa using hck), if_neg hc]
          refine ⟨d - 1, [3], by omega, by decide, pinned_zero _, i + 1, ?_, ?_, by omega⟩
          · simp only [yE, Nat.reduceEqDiff, Nat.reduceAdd, reduceCtorEq, hs2]
          · simp only [yE, Nat.reduceEqDiff, Nat.reduceAdd, reduceCtorEq, opens_succ, opens_take, e2]
  · have t1 : leI (ts.length : Nat) (i : Nat) = true := leI_true (by omega)
    have : i = ts.length := by omega
    subst this
    simp -implicitDefEqProofs only [↓yP, yT, Nat.reduceAdd, Nat.reduceMul, Nat.reduceSub, Nat.reduceLeDiff, Nat.reduceEqDiff, reduceCtorEq, Nat.reduceBEq, t1, opens_nest, Nat.le_of_eq (nest_length ts).symm, nest_take]
end Go.Vx.Seat
end
/- The document's Colons. -/
section
open Go Go.Vx Go.Proofs
set_option linter.unusedSimpArgs false
set_option linter.unusedVariables false
set_option maxRecDepth 10000
set_option maxHeartbeats 4000000
namespace Go.Vx.Seat
attribute [local congr] Rg_at Rt_at Ro_at Ri_at Rc_at Rto_at Rtk_at Rtf_at Rti_at
attribute [local irreducible] Rg Rt Ro Ri Rc Rto Rtk Rtf Rti Rw Rl Rd Rcall Rtcall kf
theorem fn20 : nth C1.P.funcs.toList 20 = some Try.f20 := by kernel_rfl
def kindAt (ts : List Tok) (i : Nat) : Int := match ts[i]? with | some t => t.kind | none => 0
theorem kindAt_some {ts : List Tok} {i : Nat} {t : Tok} (h : ts[i]? = some t) : kindAt ts i = t.kind := by rw [kindAt, h]
/-- Does a token part, where it stands? -/
def partAt (ts : List Tok) (i : Nat) : Bool := partK (kindAt ts i) && allBlocks (openAt ts i)
/-- How many names and how many other tokens there are since the last part. -/
def back (ts : List Tok) : Nat → Nat → Nat → Nat × Nat
  | 0, a, b => (a, b)
  | n + 1, a, b => if partAt ts n = true then (a, b) else if quiet (kindAt ts n) = true then back ts n a b else if kindAt ts n = 1 then back ts n (a + 1) b else back ts n a (b + 1)
/-- Does what is behind end without a block? -/
def behind (ts : List Tok) (i : Nat) : Nat → Nat → Bool
  | 0, _ => true
  | d + 1, k => if (openAt ts k).length = (openAt ts i).length ∧ partK (kindAt ts k) = true then !decide (kindAt ts k = 19) else behind ts i d (k + 1)
def docColon (ts : List Tok) (i : Nat) : Bool := decide (kindAt ts i = 16) && decide ((openAt ts i).length ≠ 0) && allBlocks (openAt ts i) && decide (back ts i 0 0 = (1, 0)) && behind ts i (ts.length - (i + 1)) (i + 1)
def colonsTo (ts : List Tok) (n : Nat) : List Int := ((List.range n).filter (docColon ts)).map fun i : Nat => (i : Int)
theorem colonsTo_yes {ts : List Tok} {n : Nat} (h : docColon ts n = true) : colonsTo ts (n + 1) = colonsTo ts n ++ [(n : Int)] := by simp [colonsTo, List.range_succ, h]
theorem colonsTo_no {ts : List Tok} {n : Nat} (h : docColon ts n = false) : colonsTo ts (n + 1) = colonsTo ts n := by simp [colonsTo, List.range_succ, h]
theorem colonsTo_length (ts : List Tok) (n : Nat) : (colonsTo ts n).length ≤ n := by
  have := List.length_filter_le (docColon ts) (List.range n)
  simpa [colonsTo] using this

theorem colons_spec (ts : List Tok) (hl : ts.length ≤ 1000000) : PCall C1 20 [.c (.p (rT ts))] fun y => y = .c (.p (rI (colonsTo ts ts.length))) := by
  refine Pf (by rfl) (by rfl) fn20 (by rfl) ?_
  simp only [Try.f20, List.length_cons, List.length_nil, List.replicate, List.cons_append, List.nil_append]
  simp -implicitDefEqProofs only [↓yP, yT, Nat.reduceAdd, Nat.reduceMul, Nat.reduceSub, Nat.reduceLeDiff, Nat.reduceEqDiff, reduceCtorEq, Nat.reduceBEq]
  refine Rcall_pure (nest_spec ts hl) (by rfl) fun y hy => ?_
  subst hy
  simp -implicitDefEqProofs only [↓yP, yT, Nat.reduceAdd, Nat.reduceMul, Nat.reduceSub, Nat.reduceLeDiff, Nat.reduceEqDiff, reduceCtorEq, Nat.reduceBEq]
  refine Rl_nil 4 1 (by decide) rfl ?_
  refine Rl_inv (fun d e s => ∃ i : Nat, e = [.c (.p (rT ts)), .c .top, .c .top, .c (.p (rII (nest ts))), .c (.own 0 1 0 (colonsTo ts i).length), yd (.int .i64 i), .c .top, .c .top, .c .top, .c .top, .c .top, .c .top, .c .top, .c .top, .c .top, .c .top, .c .top, .c .top, .c .top, .c .top, .c .top, .c .top, .c .top, .c .top, .c .top, .c .top, .c .top, .c .top, .c .top, .c .top, .c .top, .c .top, .c .top, .c .top, .c .top, .c .top, .c .top, .c .top, .c .top, .c .top, .c .top, .c .top, .c .top, .c .top, .c .top, .c .top, .c .top, .c .top, .c .top, .c .top, .c .top, .c .top, .c .top, .c .top, .c .top, .c .top, .c .top, .c .top, .c .top, .c .top, .c .top, .c .top, .c .top, .c .top, .c .top, .c .top, .c .top, .c .top, .c .top, .c .top, .c .top, .c .top, .c .top, .c .top, .c .top, .c .top, .c .top, .c .top, .c .top, .c .top, .c .top, .c .top, .c .top, .c .top, .c .top, .c .top, .c .top, .c .top, .c .top, .c .top, .c .top, .c .top, .c .top, .c .top, .c .top, .c .top, .c .top, .c .top, .c .top, .c .top, .c .top, .c .top, .c .top, .c .top, .c .top, .c .top, .c .top, .c .top, .c .top, .c .top, .c .top, .c .top, .c .top, .c .top, .c .top, .c .top, .c .top, .c .top, .c .top, .c .top, .c .top, .c .top, .c .top, .c .top, .c .top, .c .top, .c .top, .c .top, .c .top, .c .top, .c .top, .c .top] ∧ s = [.row 1 ((colonsTo ts i).map ei)] ∧ i + d = ts.length) [true, false, false, true, true, true] ts.length [0] (by decide) (pinned_zero _) ⟨0, rfl, rfl, by omega⟩ ?_
  rintro d e s ⟨i, rfl, rfl, hd⟩
  have hol := openAt_length ts i
  by_cases hi : i < ts.length
  · obtain ⟨t, ht⟩ := get_lt hi
    have hn := nest_at ts hi
    have hk := kindAt_some ht
    have t1 : leI (ts.length : Nat) (i : Nat) = false := leI_false (by omega)
    have w1 : wrapK .i64 ((i : Int) + 1) = ((i + 1 : Nat) : Int) := wrap_succ (by omega)
    have hcl := colonsTo_length ts i
    have bcol : ((colonsTo ts i).length + 1) * 8 ≤ 70368744177664 := by omega
    by_cases k1 : t.kind = 16
    · have e1 : eqI t.kind 16 = true := by rw [k1]; rfl
      by_cases h0 : (openAt ts i).length = 0
      · have e2' : eqI ((openAt ts i).length : Nat) 0 = true := by rw [h0]; rfl
        simp -implicitDefEqProofs only [↓yP, yT, Nat.reduceAdd, Nat.reduceMul, Nat.reduceSub, Nat.reduceLeDiff, Nat.reduceEqDiff, reduceCtorEq, Nat.reduceBEq, t1, nn, get_map ht, Tok.pc, e1, get_map hn, e2, e2', w1]
        have hno : docColon ts i = false := by simp [docColon, h0]
        refine ⟨d - 1, [0], by omega, by decide, pinned_zero _, i + 1, ?_, ?_, by omega⟩
        · simp only [yE, Nat.reduceEqDiff, Nat.reduceAdd, reduceCtorEq, colonsTo_no hno]
        · simp only [yE, Nat.reduceEqDiff, Nat.reduceAdd, reduceCtorEq, colonsTo_no hno]
      have e2' : eqI ((openAt ts i).length : Nat) 0 = false := eqI_false (by omega)
      simp -implicitDefEqProofs only [↓yP, yT, Nat.reduceAdd, Nat.reduceMul, Nat.reduceSub, Nat.reduceLeDiff, Nat.reduceEqDiff, reduceCtorEq, Nat.reduceBEq, t1, nn, get_map ht, Tok.pc, e1, get_map hn, e2, e2', w1]
      refine Rcall_pure (blocks_spec (openAt ts i) (by omega)) (by rfl) fun y hy => ?_
      subst hy
      cases hb : allBlocks (openAt ts i) with
      | false =>
        simp -implicitDefEqProofs only [↓yP, yT, Nat.reduceAdd, Nat.reduceMul, Nat.reduceSub, Nat.reduceLeDiff, Nat.reduceEqDiff, reduceCtorEq, Nat.reduceBEq, w1]
        have hno : docColon ts i = false := by simp [docColon, hb]
        refine ⟨d - 1, [0], by omega, by decide, pinned_zero _, i + 1, ?_, ?_, by omega⟩
        · simp only [yE, Nat.reduceEqDiff, Nat.reduceAdd, reduceCtorEq, colonsTo_no hno]
        · simp only [yE, Nat.reduceEqDiff, Nat.reduceAdd, reduceCtorEq, colonsTo_no hno]
      | true =>
        simp -implicitDefEqProofs only [↓yP, yT, Nat.reduceAdd, Nat.reduceMul, Nat.reduceSub, Nat.reduceLeDiff, Nat.reduceEqDiff, reduceCtorEq, Nat.reduceBEq, w1]
        have w0 : wrapK .i64 ((i : Int) - 1) = (i : Int) - 1 := wrap_int (by omega) (by omega)
        refine Rl_inv (fun d' e s => ∃ n a b : Nat, e = [.c (.p (rT ts)), .c .top, .c .top, .c (.p (rII (nest ts))), .c (.own 0 1 0 (colonsTo ts i).length), yd (.int .i64 i), yd (.int .i64 a), yd (.int .i64 b), yd (.int .i64 ((n : Int) - 1)), .c .top, .c .top, .c .top, .c .top, .c .top, .c .top, .c .top, .c .top, .c .top, .c .top, .c .top, .c .top, .c .top, .c .top, .c .top, .c .top, .c .top, .c .top, .c .top, .c .top, .c .top, .c .top, .c .top, .c .top, .c .top, .c .top, .c .top, .c .top, .c .top, .c .top, .c .top, .c .top, .c .top, .c .top, .c .top, .c .top, .c .top, .c .top, .c .top, .c .top, .c .top, .c .top, .c .top, .c .top, .c .top, .c .top, .c .top, .c .top, .c .top, .c .top, .c .top, .c .top, .c .top, .c .top, .c .top, .c .top, .c .top, .c .top, .c .top, .c .top, .c .top, .c .top, .c .top, .c .top, .c .top, .c .top, .c .top, .c .top, .c .top, .c .top, .c .top, .c .top, .c .top, .c .top, .c .top, .c .top, .c .top, .c .top, .c .top, .c .top, .c .top, .c .top, .c .top, .c .top, .c .top, .c .top, .c .top, .c .top, .c .top, .c .top, .c .top, .c .top, .c .top, .c .top, .c .top, .c .top, .c .top, .c .top, .c .top, .c .top, .c .top, .c .top, .c .top, .c .top, .c .top, .c .top, .c .top, .c .top, .c .top, .c .top, .c .top, .c .top, .c .top, .c .top, .c .top, .c .top, .c .top, .c .top, .c .top, .c .top, .c .top, .c .top, .c .top] ∧ s = [.row 1 ((colonsTo ts i).map ei)] ∧ n = d' ∧ a + b + n ≤ i ∧ back ts n a b = back ts i 0 0)
          [true, false, false, true, true, true, true, true, true] i [0] (by decide) (pinned_zero _) ⟨i, 0, 0, by simp only [yE, Nat.reduceEqDiff, Nat.reduceAdd, reduceCtorEq, w0]; rfl, rfl, rfl, by omega, rfl⟩ ?_
        rintro d' e s ⟨n, a, b, rfl, rfl, hnd, hab, hback⟩
        cases n with
        | zero =>
          have t2 : leI 0 (((0 : Nat) : Int) - 1) = false := leI_false (by omega)
          have hb2 : back ts i 0 0 = (a, b) := by rw [← hback]; rfl
          simp -implicitDefEqProofs only [↓yP, yT, Nat.reduceAdd, Nat.reduceMul, Nat.reduceSub, Nat.reduceLeDiff, Nat.reduceEqDiff, reduceCtorEq, Nat.reduceBEq, t2]
          by_cases ha : a = 1
          · have e4 : eqI (a : Nat) 1 = true := by rw [ha]; rfl
            by_cases hb1 : b = 0
            · have e5 : eqI (b : Nat) 0 = true := by rw [hb1]; rfl
              simp -implicitDefEqProofs only [↓yP, yT, Nat.reduceAdd, Nat.reduceMul, Nat.reduceSub, Nat.reduceLeDiff, Nat.reduceEqDiff, reduceCtorEq, Nat.reduceBEq, e4, e5, w1]
              refine Rl_inv (fun d' e s => ∃ k : Nat, e = [.c (.p (rT ts)), .c .top, .c .top, .c (.p (rII (nest ts))), .c (.own 0 1 0 (colonsTo ts i).length), yd (.int .i64 i), .c .top, .c .top, .c .top, yd (.bool true), yd (.int .i64 k), .c .top, .c .top, .c .top, .c .top, .c .top, .c .top, .c .top, .c .top, .c .top, .c .top, .c .top, .c .top, .c .top, .c .top, .c .top, .c .top, .c .top, .c .top, .c .top, .c .top, .c .top, .c .top, .c .top, .c .top, .c .top, .c .top, .c .top, .c .top, .c .top, .c .top, .c .top, .c .top, .c .top, .c .top, .c .top, .c .top, .c .top, .c .top, .c .top, .c .top, .c .top, .c .top, .c .top, .c .top, .c .top, .c .top, .c .top, .c .top, .c .top, .c .top, .c .top, .c .top, .c .top, .c .top, .c .top, .c .top, .c .top, .c .top, .c .top, .c .top, .c .top, .c .top, .c .top, .c .top, .c .top, .c .top, .c .top, .c .top, .c .top, .c .top, .c .top, .c .top, .c .top, .c .top, .c .top, .c .top, .c .top, .c .top, .c .top, .c .top, .c .top, .c .top, .c .top, .c .top, .c .top, .c .top, .c .top, .c .top, .c .top, .c .top, .c .top, .c .top, .c .top, .c .top, .c .top, .c .top, .c .top, .c .top, .c .top, .c .top, .c .top, .c .top, .c .top, .c .top, .c .top, .c .top, .c .top, .c .top, .c .top, .c .top, .c .top, .c .top, .c .top, .c .top, .c .top, .c .top, .c .top, .c .top, .c .top, .c .top, .c .top] ∧ s = [.row 1 ((colonsTo ts i).map ei)] ∧ k + d' = ts.length ∧ i < k ∧ behind ts i d' k = behind ts i (ts.length - (i + 1)) (i + 1))
                [true, false, false, true, true, true, false, false, false, true, true] (ts.length - (i + 1)) [0] (by decide) (pinned_zero _) ⟨i + 1, by simp only [yE, Nat.reduceEqDiff, Nat.reduceAdd, reduceCtorEq], by simp only [yE, Nat.reduceEqDiff, Nat.reduceAdd, reduceCtorEq], by omega, by omega, rfl⟩ ?_
              rintro d' e s ⟨k, rfl, rfl, hkd, hik, hbeh⟩
              by_cases hkl : k < ts.length
              · obtain ⟨v, hv⟩ := get_lt hkl
                have hnv := nest_at ts hkl
                have hkv := kindAt_some hv
                have hol3 := openAt_length ts k
                have t3 : leI (ts.length : Nat) (k : Nat) = false := leI_false (by omega)
                have w3 : wrapK .i64 ((k : Int) + 1) = ((k + 1 : Nat) : Int) := wrap_succ (by omega)
                have hd1 : d' = (d' - 1) + 1 := by omega
                by_cases hlen : (openAt ts k).length = (openAt ts i).length
                · have e6 : eqI ((openAt ts k).length : Nat) ((openAt ts i).length : Nat) = true := by rw [hlen]; exact eqI_true _
                  simp -implicitDefEqProofs only [↓yP, yT, Nat.reduceAdd, Nat.reduceMul, Nat.reduceSub, Nat.reduceLeDiff, Nat.reduceEqDiff, reduceCtorEq, Nat.reduceBEq, t3]
                  refine Rd_calm (by rw [C1_P]; kernel_rfl) ?_
                  by_cases q1 : v.kind = 19
                  · have f1 : eqI v.kind 19 = true := by rw [q1]; rfl
                    simp -implicitDefEqProofs only [↓yP, yT, Nat.reduceAdd, Nat.reduceMul, Nat.reduceSub, Nat.reduceLeDiff, Nat.reduceEqDiff, reduceCtorEq, Nat.reduceBEq, get_map hnv, get_map hn, e2, e6, get_map hv, Tok.pc, f1, w1]
                    have hno : docColon ts i = false := by
                      rw [docColon, ← hbeh, hd1, behind, if_pos ⟨hlen, by simp [partK, hkv, q1]⟩]; simp [hkv, q1]
                    refine ⟨d - 1, [0], by omega, by decide, pinned_zero _, i + 1, ?_, ?_, by omega⟩
                    · simp only [yE, Nat.reduceEqDiff, Nat.reduceAdd, reduceCtorEq, colonsTo_no hno]
                    · simp only [yE, Nat.reduceEqDiff, Nat.reduceAdd, reduceCtorEq, colonsTo_no hno]
                  have f1 : eqI v.kind 19 = false := eqI_false q1
                  by_cases q2 : v.kind = 20
                  · have f2 : eqI v.kind 20 = true := by rw [q2]; rfl
                    have hyes : docColon ts i = true := by
                      rw [docColon, ← hbeh, hd1, behind, if_pos ⟨hlen, by simp [partK, hkv, q2]⟩]; simp [hkv, hk, k1, q2, h0, hb, hb2, ha, hb1]
                    simp -implicitDefEqProofs only [↓yP, yT, Nat.reduceAdd, Nat.reduceMul, Nat.reduceSub, Nat.reduceLeDiff, Nat.reduceEqDiff, reduceCtorEq, Nat.reduceBEq, get_map hnv, get_map hn, e2, e6, get_map hv, Tok.pc, f1, f2, w1, bcol]
                    refine ⟨d - 1, [2], by omega, by decide, pinned_zero _, i + 1, ?_, ?_, by omega⟩
                    · simp only [yE, Nat.reduceEqDiff, Nat.reduceAdd, reduceCtorEq, colonsTo_yes hyes]
                    · simp only [yE, Nat.reduceEqDiff, Nat.reduceAdd, reduceCtorEq, colonsTo_yes hyes, List.map_append, ei]
                  have f2 : eqI v.kind 20 = false := eqI_false q2
                  by_cases q3 : v.kind = 17
                  · have f3 : eqI v.kind 17 = true := by rw [q3]; rfl
                    have hyes : docColon ts i = true := by
                      rw [docColon, ← hbeh, hd1, behind, if_pos ⟨hlen, by simp [partK, hkv, q3]⟩]; simp [hkv, hk, k1, q3, h0, hb, hb2, ha, hb1]
                    simp -implicitDefEqProofs only [↓yP, yT, Nat.reduceAdd, Nat.reduceMul, Nat.reduceSub, Nat.reduceLeDiff, Nat.reduceEqDiff, reduceCtorEq, Nat.reduceBEq, get_map hnv, get_map hn, e2, e6, get_map hv, Tok.pc, f1, f2, f3, w1, bcol]
                    refine ⟨d - 1, [2], by omega, by decide, pinned_zero _, i + 1, ?_, ?_, by omega⟩
                    · simp only [yE, Nat.reduceEqDiff, Nat.reduceAdd, reduceCtorEq, colonsTo_yes hyes]
                    · simp only [yE, Nat.reduceEqDiff, Nat.reduceAdd, reduceCtorEq, colonsTo_yes hyes, List.map_append, ei]
                  · have f3 : eqI v.kind 17 = false := eqI_false q3
                    simp -implicitDefEqProofs only [↓yP, yT, Nat.reduceAdd, Nat.reduceMul, Nat.reduceSub, Nat.reduceLeDiff, Nat.reduceEqDiff, reduceCtorEq, Nat.reduceBEq, get_map hnv, get_map hn, e2, e6, get_map hv, Tok.pc, f1, f2, f3, w3]
                    refine ⟨d' - 1, [0], by omega, by decide, pinned_zero _, k + 1, ?_, ?_, by omega, by omega, ?_⟩
                    · simp only [yE, Nat.reduceEqDiff, Nat.reduceAdd, reduceCtorEq]
                    · simp only [yE, Nat.reduceEqDiff, Nat.reduceAdd, reduceCtorEq]
                    · rw [← hbeh, hd1, behind, if_neg (by simp [partK, hkv, q1, q2, q3])]; rfl
                · have e6 : eqI ((openAt ts k).length : Nat) ((openAt ts i).length : Nat) = false := eqI_false (by omega)
                  simp -implicitDefEqProofs only [↓yP, yT, Nat.reduceAdd, Nat.reduceMul, Nat.reduceSub, Nat.reduceLeDiff, Nat.reduceEqDiff, reduceCtorEq, Nat.reduceBEq, t3]
                  refine Rd_calm (by rw [C1_P]; kernel_rfl) ?_
                  simp -implicitDefEqProofs only [↓yP, yT, Nat.reduceAdd, Nat.reduceMul, Nat.reduceSub, Nat.reduceLeDiff, Nat.reduceEqDiff, reduceCtorEq, Nat.reduceBEq, get_map hnv, get_map hn, e2, e6, w3]
                  refine ⟨d' - 1, [0], by omega, by decide, pinned_zero _, k + 1, ?_, ?_, by omega, by omega, ?_⟩
                  · simp only [yE, Nat.reduceEqDiff, Nat.reduceAdd, reduceCtorEq]
                  · simp only [yE, Nat.reduceEqDiff, Nat.reduceAdd, reduceCtorEq]
                  · rw [← hbeh, hd1, behind, if_neg (by simp [hlen])]; rfl
              · have t3 : leI (ts.length : Nat) (k : Nat) = true := leI_true (by omega)
                have hd0 : d' = 0 := by omega
                have hyes : docColon ts i = true := by
                  rw [docColon, ← hbeh, hd0, behind]; simp [hk, k1, h0, hb, hb2, ha, hb1]
                simp -implicitDefEqProofs only [↓yP, yT, Nat.reduceAdd, Nat.reduceMul, Nat.reduceSub, Nat.reduceLeDiff, Nat.reduceEqDiff, reduceCtorEq, Nat.reduceBEq, t3, w1, bcol]
                refine ⟨d - 1, [2], by omega, by decide, pinned_zero _, i + 1, ?_, ?_, by omega⟩
                · simp only [yE, Nat.reduceEqDiff, Nat.reduceAdd, reduceCtorEq, colonsTo_yes hyes]
                · simp only [yE, Nat.reduceEqDiff, Nat.reduceAdd, reduceCtorEq, colonsTo_yes hyes, List.map_append, ei]
            · have e5 : eqI (b : Nat) 0 = false := eqI_false (by omega)
              have hno : docColon ts i = false := by simp [docColon, hb2, ha, hb1]
              simp -implicitDefEqProofs only [↓yP, yT, Nat.reduceAdd, Nat.reduceMul, Nat.reduceSub, Nat.reduceLeDiff, Nat.reduceEqDiff, reduceCtorEq, Nat.reduceBEq, e4, e5, w1]
              refine ⟨d - 1, [0], by omega, by decide, pinned_zero _, i + 1, ?_, ?_, by omega⟩
              · simp only [yE, Nat.reduceEqDiff, Nat.reduceAdd, reduceCtorEq, colonsTo_no hno]
              · simp only [yE, Nat.reduceEqDiff, Nat.reduceAdd, reduceCtorEq, colonsTo_no hno]
          · have e4 : eqI (a : Nat) 1 = false := eqI_false (by omega)
            have hno : docColon ts i = false := by simp [docColon, hb2, ha]
            simp -implicitDefEqProofs only [↓yP, yT, Nat.reduceAdd, Nat.reduceMul, Nat.reduceSub, Nat.reduceLeDiff, Nat.reduceEqDiff, reduceCtorEq, Nat.reduceBEq, e4, w1]
            refine ⟨d - 1, [0], by omega, by decide, pinned_zero _, i + 1, ?_, ?_, by omega⟩
            · simp only [yE, Nat.reduceEqDiff, Nat.reduceAdd, reduceCtorEq, colonsTo_no hno]
            · simp only [yE, Nat.reduceEqDiff, Nat.reduceAdd, reduceCtorEq, colonsTo_no hno]
        | succ n =>
          have hn1 : ((n + 1 : Nat) : Int) - 1 = (n : Nat) := by omega
          have t2 : leI 0 ((n : Nat) : Int) = true := leI_true (by omega)
          obtain ⟨u, hu⟩ := get_lt (show n < ts.length by omega)
          have hnn := nest_at ts (show n < ts.length by omega)
          have hku := kindAt_some hu
          have hol2 := openAt_length ts n
          have w2 : wrapK .i64 ((n : Int) - 1) = (n : Int) - 1 := wrap_int (by omega) (by omega)
          simp -implicitDefEqProofs only [↓yP, yT, Nat.reduceAdd, Nat.reduceMul, Nat.reduceSub, Nat.reduceLeDiff, Nat.reduceEqDiff, reduceCtorEq, Nat.reduceBEq, hn1, t2]
          refine Rcall_pure (part_spec ts (nest ts) n u (openAt ts n) hu hnn (by omega)) (by rfl) fun y hy => ?_
          subst hy
          cases hp : (partK u.kind && allBlocks (openAt ts n)) with
          | true =>
            have hb2 : back ts i 0 0 = (a, b) := by rw [← hback, back, partAt, hku, if_pos hp]
            simp -implicitDefEqProofs only [↓yP, yT, Nat.reduceAdd, Nat.reduceMul, Nat.reduceSub, Nat.reduceLeDiff, Nat.reduceEqDiff, reduceCtorEq, Nat.reduceBEq]
            by_cases ha : a = 1
            · have e4 : eqI (a : Nat) 1 = true := by rw [ha]; rfl
              by_cases hb1 : b = 0
              · have e5 : eqI (b : Nat) 0 = true := by rw [hb1]; rfl
                simp -implicitDefEqProofs only [↓yP, yT, Nat.reduceAdd, Nat.reduceMul, Nat.reduceSub, Nat.reduceLeDiff, Nat.reduceEqDiff, reduceCtorEq, Nat.reduceBEq, e4, e5, w1]
                refine Rl_inv (fun d' e s => ∃ k : Nat, e = [.c (.p (rT ts)), .c .top, .c .top, .c (.p (rII (nest ts))), .c (.own 0 1 0 (colonsTo ts i).length), yd (.int .i64 i), .c .top, .c .top, .c .top, yd (.bool true), yd (.int .i64 k), .c .top, .c .top, .c .top, .c .top, .c .top, .c .top, .c .top, .c .top, .c .top, .c .top, .c .top, .c .top, .c .top, .c .top, .c .top, .c .top, .c .top, .c .top, .c .top, .c .top, .c .top, .c .top, .c .top, .c .top, .c .top, .c .top, .c .top, .c .top, .c .top, .c .top, .c .top, .c .top, .c .top, .c .top, .c .top, .c .top, .c .top, .c .top, .c .top, .c .top, .c .top, .c .top, .c .top, .c .top, .c .top, .c .top, .c .top, .c .top, .c .top, .c .top, .c .top, .c .top, .c .top, .c .top, .c .top, .c .top, .c .top, .c .top, .c .top, .c .top, .c .top, .c .top, .c .top, .c .top, .c .top, .c .top, .c .top, .c .top, .c .top, .c .top, .c .top, .c .top, .c .top, .c .top, .c .top, .c .top, .c .top, .c .top, .c .top, .c .top, .c .top, .c .top, .c .top, .c .top, .c .top, .c .top, .c .top, .c .top, .c .top, .c .top, .c .top, .c .top, .c .top, .c .top, .c .top, .c .top, .c .top, .c .top, .c .top, .c .top, .c .top, .c .top, .c .top, .c .top, .c .top, .c .top, .c .top, .c .top, .c .top, .c .top, .c .top, .c .top, .c .top, .c .top, .c .top, .c .top, .c .top, .c .top, .c .top, .c .top, .c .top] ∧ s = [.row 1 ((colonsTo ts i).map ei)] ∧ k + d' = ts.length ∧ i < k ∧ behind ts i d' k = behind ts i (ts.length - (i + 1)) (i + 1))
                  [true, false, false, true, true, true, false, false, false, true, true] (ts.length - (i + 1)) [0] (by decide) (pinned_zero _) ⟨i + 1, by simp only [yE, Nat.reduceEqDiff, Nat.reduceAdd, reduceCtorEq], by simp only [yE, Nat.reduceEqDiff, Nat.reduceAdd, reduceCtorEq], by omega, by omega, rfl⟩ ?_
                rintro d' e s ⟨k, rfl, rfl, hkd, hik, hbeh⟩
                by_cases hkl : k < ts.length
                · obtain ⟨v, hv⟩ := get_lt hkl
                  have hnv := nest_at ts hkl
                  have hkv := kindAt_some hv
                  have hol3 := openAt_length ts k
                  have t3 : leI (ts.length : Nat) (k : Nat) = false := leI_false (by omega)
                  have w3 : wrapK .i64 ((k : Int) + 1) = ((k + 1 : Nat) : Int) := wrap_succ (by omega)
                  have hd1 : d' = (d' - 1) + 1 := by omega
                  by_cases hlen : (openAt ts k).length = (openAt ts i).length
                  · have e6 : eqI ((openAt ts k).length : Nat) ((openAt ts i).length : Nat) = true := by rw [hlen]; exact eqI_true _
                    simp -implicitDefEqProofs only [↓yP, yT, Nat.reduceAdd, Nat.reduceMul, Nat.reduceSub, Nat.reduceLeDiff, Nat.reduceEqDiff, reduceCtorEq, Nat.reduceBEq, t3]
                    refine Rd_calm (by rw [C1_P]; kernel_rfl) ?_
                    by_cases q1 : v.kind = 19
                    · have f1 : eqI v.kind 19 = true := by rw [q1]; rfl
                      simp -implicitDefEqProofs only [↓yP, yT, Nat.reduceAdd, Nat.reduceMul, Nat.reduceSub, Nat.reduceLeDiff, Nat.reduceEqDiff, reduceCtorEq, Nat.reduceBEq, get_map hnv, get_map hn, e2, e6, get_map hv, Tok.pc, f1, w1]
                      have hno : docColon ts i = false := by
                        rw [docColon, ← hbeh, hd1, behind, if_pos ⟨hlen, by simp [partK, hkv, q1]⟩]; simp [hkv, q1]
                      refine ⟨d - 1, [0], by omega, by decide, pinned_zero _, i + 1, ?_, ?_, by omega⟩
                      · simp only [yE, Nat.reduceEqDiff, Nat.reduceAdd, reduceCtorEq, colonsTo_no hno]
                      · simp only [yE, Nat.reduceEqDiff, Nat.reduceAdd, reduceCtorEq, colonsTo_no hno]
                    have f1 : eqI v.kind 19 = false := eqI_false q1
                    by_cases q2 : v.kind = 20
                    · have f2 : eqI v.kind 20 = true := by rw [q2]; rfl
                      have hyes : docColon ts i = true := by
                        rw [docColon, ← hbeh, hd1, behind, if_pos ⟨hlen, by simp [partK, hkv, q2]⟩]; simp [hkv, hk, k1, q2, h0, hb, hb2, ha, hb1]
                      simp -implicitDefEqProofs only [↓yP, yT, Nat.reduceAdd, Nat.reduceMul, Nat.reduceSub, Nat.reduceLeDiff, Nat.reduceEqDiff, reduceCtorEq, Nat.reduceBEq, get_map hnv, get_map hn, e2, e6, get_map hv, Tok.pc, f1, f2, w1, bcol]
                      refine ⟨d - 1, [2], by omega, by decide, pinned_zero _, i + 1, ?_, ?_, by omega⟩
                      · simp only [yE, Nat.reduceEqDiff, Nat.reduceAdd, reduceCtorEq, colonsTo_yes hyes]
                      · simp only [yE, Nat.reduceEqDiff, Nat.reduceAdd, reduceCtorEq, colonsTo_yes hyes, List.map_append, ei]
                    have f2 : eqI v.kind 20 = false := eqI_false q2
                    by_cases q3 : v.kind = 17
                    · have f3 : eqI v.kind 17 = true := by rw [q3]; rfl
                      have hyes : docColon ts i = true := by
                        rw [docColon, ← hbeh, hd1, behind, if_pos ⟨hlen, by simp [partK, hkv, q3]⟩]; simp [hkv, hk, k1, q3, h0, hb, hb2, ha, hb1]
                      simp -implicitDefEqProofs only [↓yP, yT, Nat.reduceAdd, Nat.reduceMul, Nat.reduceSub, Nat.reduceLeDiff, Nat.reduceEqDiff, reduceCtorEq, Nat.reduceBEq, get_map hnv, get_map hn, e2, e6, get_map hv, Tok.pc, f1, f2, f3, w1, bcol]
                      refine ⟨d - 1, [2], by omega, by decide, pinned_zero _, i + 1, ?_, ?_, by omega⟩
                      · simp only [yE, Nat.reduceEqDiff, Nat.reduceAdd, reduceCtorEq, colonsTo_yes hyes]
                      · simp only [yE, Nat.reduceEqDiff, Nat.reduceAdd, reduceCtorEq, colonsTo_yes hyes, List.map_append, ei]
                    · have f3 : eqI v.kind 17 = false := eqI_false q3
                      simp -implicitDefEqProofs only [↓yP, yT, Nat.reduceAdd, Nat.reduceMul, Nat.reduceSub, Nat.reduceLeDiff, Nat.reduceEqDiff, reduceCtorEq, Nat.reduceBEq, get_map hnv, get_map hn, e2, e6, get_map hv, Tok.pc, f1, f2, f3, w3]
                      refine ⟨d' - 1, [0], by omega, by decide, pinned_zero _, k + 1, ?_, ?_, by omega, by omega, ?_⟩
                      · simp only [yE, Nat.reduceEqDiff, Nat.reduceAdd, reduceCtorEq]
                      · simp only [yE, Nat.reduceEqDiff, Nat.reduceAdd, reduceCtorEq]
                      · rw [← hbeh, hd1, behind, if_neg (by simp [partK, hkv, q1, q2, q3])]; rfl
                  · have e6 : eqI ((openAt ts k).length : Nat) ((openAt ts i).length : Nat) = false := eqI_false (by omega)
                    simp -implicitDefEqProofs only [↓yP, yT, Nat.reduceAdd, Nat.reduceMul, Nat.reduceSub, Nat.reduceLeDiff, Nat.reduceEqDiff, reduceCtorEq, Nat.reduceBEq, t3]
                    refine Rd_calm (by rw [C1_P]; kernel_rfl) ?_
                    simp -implicitDefEqProofs only [↓yP, yT, Nat.reduceAdd, Nat.reduceMul, Nat.reduceSub, Nat.reduceLeDiff, Nat.reduceEqDiff, reduceCtorEq, Nat.reduceBEq, get_map hnv, get_map hn, e2, e6, w3]
                    refine ⟨d' - 1, [0], by omega, by decide, pinned_zero _, k + 1, ?_, ?_, by omega, by omega, ?_⟩
                    · simp only [yE, Nat.reduceEqDiff, Nat.reduceAdd, reduceCtorEq]
                    · simp only [yE, Nat.reduceEqDiff, Nat.reduceAdd, reduceCtorEq]
                    · rw [← hbeh, hd1, behind, if_neg (by simp [hlen])]; rfl
                · have t3 : leI (ts.length : Nat) (k : Nat) = true := leI_true (by omega)
                  have hd0 : d' = 0 := by omega
                  have hyes : docColon ts i = true := by
                    rw [docColon, ← hbeh, hd0, behind]; simp [hk, k1, h0, hb, hb2, ha, hb1]
                  simp -implicitDefEqProofs only [↓yP, yT, Nat.reduceAdd, Nat.reduceMul, Nat.reduceSub, Nat.reduceLeDiff, Nat.reduceEqDiff, reduceCtorEq, Nat.reduceBEq, t3, w1, bcol]
                  refine ⟨d - 1, [2], by omega, by decide, pinned_zero _, i + 1, ?_, ?_, by omega⟩
                  · simp only [yE, Nat.reduceEqDiff, Nat.reduceAdd, reduceCtorEq, colonsTo_yes hyes]
                  · simp only [yE, Nat.reduceEqDiff, Nat.reduceAdd, reduceCtorEq, colonsTo_yes hyes, List.map_append, ei]
              · have e5 : eqI (b : Nat) 0 = false := eqI_false (by omega)
                have hno : docColon ts i = false := by simp [docColon, hb2, ha, hb1]
                simp -implicitDefEqProofs only [↓yP, yT, Nat.reduceAdd, Nat.reduceMul, Nat.reduceSub, Nat.reduceLeDiff, Nat.reduceEqDiff, reduceCtorEq, Nat.reduceBEq, e4, e5, w1]
                refine ⟨d - 1, [0], by omega, by decide, pinned_zero _, i + 1, ?_, ?_, by omega⟩
                · simp only [yE, Nat.reduceEqDiff, Nat.reduceAdd, reduceCtorEq, colonsTo_no hno]
                · simp only [yE, Nat.reduceEqDiff, Nat.reduceAdd, reduceCtorEq, colonsTo_no hno]
            · have e4 : eqI (a : Nat) 1 = false := eqI_false (by omega)
              have hno : docColon ts i = false := by simp [docColon, hb2, ha]
              simp -implicitDefEqProofs only [↓yP, yT, Nat.reduceAdd, Nat.reduceMul, Nat.reduceSub, Nat.reduceLeDiff, Nat.reduceEqDiff, reduceCtorEq, Nat.reduceBEq, e4, w1]
              refine ⟨d - 1, [0], by omega, by decide, pinned_zero _, i + 1, ?_, ?_, by omega⟩
              · simp only [yE, Nat.reduceEqDiff, Nat.reduceAdd, reduceCtorEq, colonsTo_no hno]
              · simp only [yE, Nat.reduceEqDiff, Nat.reduceAdd, reduceCtorEq, colonsTo_no hno]
          | false =>
            have hp2 : ¬ partAt ts n = true := by rw [partAt, hku, hp]; simp
            simp -implicitDefEqProofs only [↓yP, yT, Nat.reduceAdd, Nat.reduceMul, Nat.reduceSub, Nat.reduceLeDiff, Nat.reduceEqDiff, reduceCtorEq, Nat.reduceBEq, get_map hu, Tok.pc]
            refine Rcall_pure (quiet_spec u) (by rfl) fun y hy => ?_
            subst hy
            cases hq : quiet u.kind with
            | true =>
              simp -implicitDefEqProofs only [↓yP, yT, Nat.reduceAdd, Nat.reduceMul, Nat.reduceSub, Nat.reduceLeDiff, Nat.reduceEqDiff, reduceCtorEq, Nat.reduceBEq, w2]
              refine ⟨d' - 1, [0], by omega, by decide, pinned_zero _, n, a, b, ?_, ?_, by omega, by omega, ?_⟩
              · simp only [yE, Nat.reduceEqDiff, Nat.reduceAdd, reduceCtorEq]
              · simp only [yE, Nat.reduceEqDiff, Nat.reduceAdd, reduceCtorEq]
              · rw [← hback, back, if_neg hp2, hku, if_pos hq]
            | false =>
              by_cases k2 : u.kind = 1
              · have e3 : eqI u.kind 1 = true := by rw [k2]; rfl
                simp -implicitDefEqProofs only [↓yP, yT, Nat.reduceAdd, Nat.reduceMul, Nat.reduceSub, Nat.reduceLeDiff, Nat.reduceEqDiff, reduceCtorEq, Nat.reduceBEq, w2, get_map hu, Tok.pc, e3, wrap_succ (show a < 9000000000000000000 by omega)]
                refine ⟨d' - 1, [0], by omega, by decide, pinned_zero _, n, a + 1, b, ?_, ?_, by omega, by omega, ?_⟩
                · simp only [yE, Nat.reduceEqDiff, Nat.reduceAdd, reduceCtorEq]
                · simp only [yE, Nat.reduceEqDiff, Nat.reduceAdd, reduceCtorEq]
                · rw [← hback, back, if_neg hp2, hku, if_neg (by rw [hq]; simp), if_pos k2]
              · have e3 : eqI u.kind 1 = false := eqI_false k2
                simp -implicitDefEqProofs only [↓yP, yT, Nat.reduceAdd, Nat.reduceMul, Nat.reduceSub, Nat.reduceLeDiff, Nat.reduceEqDiff, reduceCtorEq, Nat.reduceBEq, w2, get_map hu, Tok.pc, e3, wrap_succ (show b < 9000000000000000000 by omega)]
                refine ⟨d' - 1, [0], by omega, by decide, pinned_zero _, n, a, b + 1, ?_, ?_, by omega, by omega, ?_⟩
                · simp only [yE, Nat.reduceEqDiff, Nat.reduceAdd, reduceCtorEq]
                · simp only [yE, Nat.reduceEqDiff, Nat.reduceAdd, reduceCtorEq]
                · rw [← hback, back, if_neg hp2, hku, if_neg (by rw [hq]; simp), if_neg k2]
    · have e1 : eqI t.kind 16 = false := eqI_false k1
      simp -implicitDefEqProofs only [↓yP, yT, Nat.reduceAdd, Nat.reduceMul, Nat.reduceSub, Nat.reduceLeDiff, Nat.reduceEqDiff, reduceCtorEq, Nat.reduceBEq, t1, nn, get_map ht, Tok.pc, e1, w1]
      have hno : docColon ts i = false := by simp [docColon, hk, k1]
      refine ⟨d - 1, [0], by omega, by decide, pinned_zero _, i + 1, ?_, ?_, by omega⟩
      · simp only [yE, Nat.reduceEqDiff, Nat.reduceAdd, reduceCtorEq, colonsTo_no hno]
      · simp only [yE, Nat.reduceEqDiff, Nat.reduceAdd, reduceCtorEq, colonsTo_no hno]
  · have t1 : leI (ts.length : Nat) (i : Nat) = true := leI_true (by omega)
    have : i = ts.length := by omega
    subst this
    simp -implicitDefEqProofs only [↓yP, yT, Nat.reduceAdd, Nat.reduceMul, Nat.reduceSub, Nat.reduceLeDiff, Nat.reduceEqDiff, reduceCtorEq, Nat.reduceBEq, t1]
end Go.Vx.Seat
end
/- Places. -/
section
open Go Go.Vx Go.Proofs
set_option linter.unusedSimpArgs false
set_option linter.unusedVariables false
set_option maxRecDepth 10000
set_option maxHeartbeats 4000000
namespace Go.Vx.Seat
attribute [local congr] Rg_at Rt_at Ro_at Ri_at Rc_at Rto_at Rtk_at Rtf_at Rti_at
attribute [local irreducible] Rg Rt Ro Ri Rc Rto Rtk Rtf Rti Rw Rl Rd Rcall Rtcall kf
theorem fn25 : nth C1.P.funcs.toList 25 = some Try.f25 := by kernel_rfl
/-- A place: how deep, in blocks alone?, does it close? -/
def plOf (o : List Int) (k : Int) : Nat × Bool × Bool := let o1 := if o.getLast? = some k then o.dropLast else o; (o1.length, allBlocks o1, decide (o.getLast? = some k))
def pl (ts : List Tok) (i : Nat) : Nat × Bool × Bool := plOf (openAt ts i) (kindAt ts i)
def ep (p : Nat × Bool × Bool) : List PC := [.d (.int .i64 p.1), .d (.bool p.2.1), .d (.bool p.2.2)]
def zp : List PC := [.d (.int .i64 0), .d (.bool false), .d (.bool false)]
def plTo (ts : List Tok) (i : Nat) : List (List PC) := (List.range i).map (fun j => ep (pl ts j)) ++ List.replicate (ts.length - i) zp
theorem plTo_length {ts : List Tok} {i : Nat} (h : i ≤ ts.length) : (plTo ts i).length = ts.length := by simp [plTo]; omega
theorem plTo_get {ts : List Tok} {i : Nat} (h : i < ts.length) : (plTo ts i)[i]? = some zp := by
  rw [plTo, List.getElem?_append_right (by simp)]
  simp only [List.length_map, List.length_range, Nat.sub_self]
  rw [List.getElem?_replicate, if_pos (by omega)]
theorem plTo_set {ts : List Tok} {i : Nat} (h : i < ts.length) : (plTo ts i).set i (ep (pl ts i)) = plTo ts (i + 1) := by
  rw [plTo, List.set_append_right _ _ (by simp), plTo, List.range_succ, List.map_append, List.append_assoc]
  congr 1
  rw [List.length_map, List.length_range, Nat.sub_self, show ts.length - i = (ts.length - (i + 1)) + 1 by omega, List.replicate_succ]
  rfl
def cnt (o : List Int) : Nat := (o.filter fun k => decide (k ≠ 20)).length
theorem cnt_blocks (o : List Int) : eqI (cnt o : Nat) 0 = allBlocks o := by
  rw [eqI_eq, Bool.eq_iff_iff, decide_eq_true_eq, allBlocks, List.all_eq_true]
  have : ((cnt o : Nat) : Int) = 0 ↔ cnt o = 0 := by omega
  rw [this, cnt, List.length_eq_zero_iff, List.filter_eq_nil_iff]
  simp
theorem cnt_length (o : List Int) : cnt o ≤ o.length := List.length_filter_le _ _
theorem cnt_snoc (o : List Int) (k : Int) : cnt (o ++ [k]) = cnt o + (if k = 20 then 0 else 1) := by
  simp only [cnt, List.filter_append, List.length_append]
  by_cases h : k = 20 <;> simp [h]
theorem snoc_of_last {o : List Int} {k : Int} (h : o.getLast? = some k) : o = o.dropLast ++ [k] := by
  have hne : o ≠ [] := by intro hn; subst hn; cases h
  rw [List.getLast?_eq_some_getLast hne] at h
  rw [← Option.some.inj h, List.dropLast_concat_getLast hne]
/-- What is open are kinds that close. -/
theorem open_kinds (ts : List Tok) : ∀ i, ∀ k, k ∈ openAt ts i → k = 20 ∨ k = 22 ∨ k = 24
  | 0, k, h => by simp [openAt] at h
  | i + 1, k, h => by
    unfold openAt at h
    split at h
    · rename_i t _
      unfold nestStep at h
      split at h
      · exact open_kinds ts i k (List.dropLast_subset _ h)
      · split at h
        · rcases List.mem_append.mp h with h | h
          · exact open_kinds ts i k h
          · rw [List.mem_singleton] at h
            subst h
            unfold closes at *
            split
            · omega
            · split
              · omega
              · split
                · omega
                · rename_i hc h1 h2 h3; simp [h1, h2, h3] at hc
        · exact open_kinds ts i k h
    · exact open_kinds ts i k h
theorem closes_shut {k : Int} (h : k = 20 ∨ k = 22 ∨ k = 24) : closes k = 0 := by
  unfold closes
  rw [if_neg (by omega), if_neg (by omega), if_neg (by omega)]
theorem closes_pos (k : Int) : closes k = 0 ∨ closes k > 0 := by
  unfold closes
  split
  · omega
  · split
    · omega
    · split <;> omega

def plE (ts : List Tok) (j : Nat) : List PC := ep (pl ts j)
abbrev rP (ts : List Tok) : PC := .row 3 ((List.range ts.length).map (plE ts))
theorem places_spec (ts : List Tok) (hl : ts.length ≤ 1000000) : PCall C1 25 [.c (.p (rT ts))] fun y => y = .c (.p (rP ts)) := by
  refine Pf (by rfl) (by rfl) fn25 (by rfl) ?_
  simp only [Try.f25, List.length_cons, List.length_nil, List.replicate, List.cons_append, List.nil_append]
  have b0 : ((16 : Nat) : Int) * ((ts.length : Nat) : Int) ≤ 70368744177664 := by omega
  have b1 : ((ts.length : Nat) : Int) ≤ 70368744177664 := by omega
  simp -implicitDefEqProofs only [↓yP, yT, Nat.reduceAdd, Nat.reduceMul, Nat.reduceSub, Nat.reduceLeDiff, Nat.reduceEqDiff, reduceCtorEq, Nat.reduceBEq, b0, b1]
  refine Rl_nil 4 1 (by decide) rfl ?_
  refine Rl_inv (fun d e s => ∃ (i : Nat) (E : List (List PC)), e = [.c .top, .c .top, .c .top, .c (.own 0 3 0 ts.length), .c (.own 1 1 0 (openAt ts i).length), yd (.int .i64 (cnt (openAt ts i))), .c .top, .c .top, .c .top, .c .top, .c .top, .c .top, .c .top, .c (.p (rT ts)), yd (.int .i64 ts.length), yd (.int .i64 i), .c .top, .c .top, .c .top, .c .top, .c .top, .c .top, .c .top, .c .top, .c .top, .c .top, .c .top, .c .top, .c .top, .c .top, .c .top, .c .top, .c .top, .c .top, .c .top, .c .top, .c .top, .c .top, .c .top, .c .top, .c .top, .c .top, .c .top, .c .top, .c .top, .c .top, .c .top, .c .top, .c .top, .c .top, .c .top, .c .top, .c .top, .c .top, .c .top, .c .top, .c .top, .c .top, .c .top, .c .top, .c .top, .c .top, .c .top, .c .top, .c .top, .c .top, .c .top, .c .top, .c .top, .c .top, .c .top, .c .top, .c .top, .c .top] ∧ s = [.row 3 (plTo ts i), .row 1 E] ∧ i + d = ts.length ∧ (openAt ts i).length ≤ E.length ∧ E.take (openAt ts i).length = (openAt ts i).map ei)
    [false, false, false, true, true, true, false, false, false, false, false, false, false, true, true, true] ts.length [0, 1] (by decide) (pinned_zero _) ⟨0, [], by simp only [yE, Nat.reduceEqDiff, Nat.reduceAdd, reduceCtorEq, List.length_replicate]; rfl, by simp only [yE, Nat.reduceEqDiff, Nat.reduceAdd, reduceCtorEq]; rfl, by omega, by simp [openAt], by simp [openAt]⟩ ?_
  rintro d e s ⟨i, E, rfl, rfl, hd, hE1, hE2⟩
  have hol := openAt_length ts i
  have hcn := cnt_length (openAt ts i)
  by_cases hi : i < ts.length
  · obtain ⟨t, ht⟩ := get_lt hi
    have hk := kindAt_some ht
    have hsucc := openAt_succ ht
    have t1 : leI (ts.length : Nat) (i : Nat) = false := leI_false (by omega)
    have w1 : wrapK .i64 ((i : Int) + 1) = ((i + 1 : Nat) : Int) := wrap_succ (by omega)
    have hg := plTo_get hi
    have hll := plTo_length (ts := ts) (i := i) (by omega)
    have hsg : ∀ x, ((plTo ts i).set i x)[i]? = some x := fun x => by rw [List.getElem?_set, if_pos rfl, if_pos (by omega)]
    simp -implicitDefEqProofs only [↓yP, yT, Nat.reduceAdd, Nat.reduceMul, Nat.reduceSub, Nat.reduceLeDiff, Nat.reduceEqDiff, reduceCtorEq, Nat.reduceBEq, t1, get_map ht, Tok.pc]
    refine Rd_calm (by rw [C1_P]; kernel_rfl) ?_
    have ilt : ((i : Nat) : Int) < ((ts.length : Nat) : Int) := by omega
    have hset : (plTo ts i).set i (ep (pl ts i)) = plTo ts (i + 1) := plTo_set hi
    rcases hol0 : (openAt ts i).getLast? with _ | c
    · have ho : openAt ts i = [] := by simpa using hol0
      have t2 : leI ((openAt ts i).length : Nat) 0 = true := by rw [ho]; rfl
      have hck : True := trivial
      have hpl : ep (pl ts i) = [.d (.int .i64 ((openAt ts i).length : Nat)), .d (.bool (allBlocks (openAt ts i))), .d (.bool false)] := by
        simp [pl, plOf, ep, hol0]
      rw [hpl] at hset
      simp -implicitDefEqProofs only [↓yP, yT, Nat.reduceAdd, Nat.reduceMul, Nat.reduceSub, Nat.reduceLeDiff, Nat.reduceEqDiff, reduceCtorEq, Nat.reduceBEq, t2, hg, hsg, zp, cnt_blocks, ilt]
      refine Rcall_pure (closer_spec t.kind) (by rfl) fun y hy => ?_
      subst hy
      rcases closes_pos t.kind with hc | hc
      · have t3 : eqI (closes t.kind) 0 = true := by rw [hc]; rfl
        have hs2 : openAt ts (i + 1) = openAt ts i := by rw [hsucc, nestStep, if_neg (by rw [hol0]; simp [hck]), if_neg (by omega)]
        simp -implicitDefEqProofs only [↓yP, yT, Nat.reduceAdd, Nat.reduceMul, Nat.reduceSub, Nat.reduceLeDiff, Nat.reduceEqDiff, reduceCtorEq, Nat.reduceBEq, t3, w1]
        refine ⟨d - 1, [0, 1], by omega, by decide, pinned_zero _, i + 1, E, ?_, ?_, by omega, by rw [hs2]; exact hE1, by rw [hs2]; exact hE2⟩
        · simp only [yE, Nat.reduceEqDiff, Nat.reduceAdd, reduceCtorEq, hs2]
        · simp only [yE, Nat.reduceEqDiff, Nat.reduceAdd, reduceCtorEq, hset]
      · have t3 : eqI (closes t.kind) 0 = false := eqI_false (by omega)
        have hs2 : openAt ts (i + 1) = openAt ts i ++ [closes t.kind] := by rw [hsucc, nestStep, if_neg (by rw [hol0]; simp [hck]), if_pos hc]
        have b4 : ((openAt ts i).length + 1) * 8 ≤ 70368744177664 := by omega
        have hE3 : (List.map ei (openAt ts i) ++ [[PC.d (.int .i64 (closes t.kind))]]) = (openAt ts (i + 1)).map ei := by rw [hs2, List.map_append]; rfl
        by_cases c20 : closes t.kind = 20
        · have t4 : eqI (closes t.kind) 20 = true := by rw [c20]; rfl
          simp -implicitDefEqProofs only [↓yP, yT, Nat.reduceAdd, Nat.reduceMul, Nat.reduceSub, Nat.reduceLeDiff, Nat.reduceEqDiff, reduceCtorEq, Nat.reduceBEq, t3, t4, w1, hE1, hE2, b4]
          refine ⟨d - 1, [0, 4], by omega, by decide, pinned_zero _, i + 1, List.map ei (openAt ts i) ++ [[PC.d (.int .i64 (closes t.kind))]], ?_, ?_, by omega, ?_, ?_⟩
          · simp only [yE, Nat.reduceEqDiff, Nat.reduceAdd, reduceCtorEq, hs2, cnt_snoc, if_pos c20]
          · simp only [yE, Nat.reduceEqDiff, Nat.reduceAdd, reduceCtorEq, hset]
          · rw [hE3]; simp
          · rw [hE3, take_map_len]
        · have t4 : eqI (closes t.kind) 20 = false := eqI_false c20
          have w4 : wrapK .i64 ((cnt (openAt ts i) : Int) + 1) = ((cnt (openAt ts i) + 1 : Nat) : Int) := wrap_succ (by omega)
          simp -implicitDefEqProofs only [↓yP, yT, Nat.reduceAdd, Nat.reduceMul, Nat.reduceSub, Nat.reduceLeDiff, Nat.reduceEqDiff, reduceCtorEq, Nat.reduceBEq, t3, t4, w1, w4, hE1, hE2, b4]
          refine ⟨d - 1, [0, 4], by omega, by decide, pinned_zero _, i + 1, List.map ei (openAt ts i) ++ [[PC.d (.int .i64 (closes t.kind))]], ?_, ?_, by omega, ?_, ?_⟩
          · simp only [yE, Nat.reduceEqDiff, Nat.reduceAdd, reduceCtorEq, hs2, cnt_snoc, if_neg c20]
          · simp only [yE, Nat.reduceEqDiff, Nat.reduceAdd, reduceCtorEq, hset]
          · rw [hE3]; simp
          · rw [hE3, take_map_len]
    · have ho : (openAt ts i).length ≠ 0 := by intro h0; rw [List.length_eq_zero_iff.mp h0] at hol0; cases hol0
      have t2 : leI ((openAt ts i).length : Nat) 0 = false := leI_false (by omega)
      have w2 : wrapK .i64 (((openAt ts i).length : Int) - 1) = (((openAt ts i).length - 1 : Nat) : Int) := wrap_pred (by omega) (by omega)
      have hlast : (openAt ts i)[(openAt ts i).length - 1]? = some c := by rw [← List.getLast?_eq_getElem?]; exact hol0
      have hlE : E[(openAt ts i).length - 1]? = some (ei c) := by
        have h1 := get_map (f := ei) hlast
        rw [← hE2, List.getElem?_take, if_pos (by omega)] at h1; exact h1
      have ilt2 : (((openAt ts i).length - 1 : Nat) : Int) < ((openAt ts i).length : Nat) := by omega
      by_cases hck : c = t.kind
      · subst hck
        have hsn := snoc_of_last hol0
        have hkc := open_kinds ts i t.kind (List.mem_of_getElem? hlast)
        have hl1 : (openAt ts i).dropLast.length = (openAt ts i).length - 1 := by simp
        have l6 : (((openAt ts i).length - 1 : Nat) : Int) ≤ ((openAt ts i).length : Nat) := by omega
        have hs2 : openAt ts (i + 1) = (openAt ts i).dropLast := by rw [hsucc, nestStep, hol0, if_pos rfl]
        have hpl : ep (pl ts i) = [.d (.int .i64 ((openAt ts i).length - 1 : Nat)), .d (.bool (allBlocks (openAt ts i).dropLast)), .d (.bool true)] := by
          simp [pl, plOf, ep, hol0, hk]
        rw [hpl] at hset
        have hcl : closes t.kind = 0 := closes_shut hkc
        have hE3 : E.take ((openAt ts i).length - 1) = (openAt ts i).dropLast.map ei := by
          rw [List.dropLast_eq_take, List.map_take, ← hE2, List.take_take, Nat.min_eq_left (by omega)]
        have hcn2 : cnt (openAt ts i) = cnt (openAt ts i).dropLast + (if t.kind = 20 then 0 else 1) := by
          rw [← cnt_snoc, ← hsn]
        by_cases c20 : t.kind = 20
        · have t4 : eqI t.kind 20 = true := by rw [c20]; rfl
          rw [if_pos c20, Nat.add_zero] at hcn2
          simp -implicitDefEqProofs only [↓yP, yT, Nat.reduceAdd, Nat.reduceMul, Nat.reduceSub, Nat.reduceLeDiff, Nat.reduceEqDiff, reduceCtorEq, Nat.reduceBEq, t2, hg, hsg, zp, ilt, w2, ilt2, hlE, ei, eqI_true, t4, l6, hcn2, cnt_blocks]
          refine Rcall_pure (closer_spec t.kind) (by rfl) fun y hy => ?_
          subst hy
          have t3 : eqI (closes t.kind) 0 = true := by rw [hcl]; rfl
          simp -implicitDefEqProofs only [↓yP, yT, Nat.reduceAdd, Nat.reduceMul, Nat.reduceSub, Nat.reduceLeDiff, Nat.reduceEqDiff, reduceCtorEq, Nat.reduceBEq, t3, w1]
          refine ⟨d - 1, [0, 1], by omega, by decide, pinned_zero _, i + 1, E, ?_, ?_, by omega, by rw [hs2, hl1]; omega, by rw [hs2, hl1]; exact hE3⟩
          · simp only [yE, Nat.reduceEqDiff, Nat.reduceAdd, reduceCtorEq, hs2, hl1]
          · simp only [yE, Nat.reduceEqDiff, Nat.reduceAdd, reduceCtorEq, hset]
        · have t4 : eqI t.kind 20 = false := eqI_false c20
          rw [if_neg c20] at hcn2
          have w4 : wrapK .i64 ((((cnt (openAt ts i).dropLast + 1 : Nat)) : Int) - 1) = ((cnt (openAt ts i).dropLast : Nat) : Int) := wrap_pred (by omega) (by omega)
          simp -implicitDefEqProofs only [↓yP, yT, Nat.reduceAdd, Nat.reduceMul, Nat.reduceSub, Nat.reduceLeDiff, Nat.reduceEqDiff, reduceCtorEq, Nat.reduceBEq, t2, hg, hsg, zp, ilt, w2, ilt2, hlE, ei, eqI_true, t4, l6, hcn2, w4, cnt_blocks]
          refine Rcall_pure (closer_spec t.kind) (by rfl) fun y hy => ?_
          subst hy
          have t3 : eqI (closes t.kind) 0 = true := by rw [hcl]; rfl
          simp -implicitDefEqProofs only [↓yP, yT, Nat.reduceAdd, Nat.reduceMul, Nat.reduceSub, Nat.reduceLeDiff, Nat.reduceEqDiff, reduceCtorEq, Nat.reduceBEq, t3, w1]
          refine ⟨d - 1, [0, 1], by omega, by decide, pinned_zero _, i + 1, E, ?_, ?_, by omega, by rw [hs2, hl1]; omega, by rw [hs2, hl1]; exact hE3⟩
          · simp only [yE, Nat.reduceEqDiff, Nat.reduceAdd, reduceCtorEq, hs2, hl1]
          · simp only [yE, Nat.reduceEqDiff, Nat.reduceAdd, reduceCtorEq, hset]
      · have e1 : eqI c t.kind = false := eqI_false hck
        have hpl : ep (pl ts i) = [.d (.int .i64 ((openAt ts i).length : Nat)), .d (.bool (allBlocks (openAt ts i))), .d (.bool false)] := by
          simp [pl, plOf, ep, hol0, hk, hck]
        rw [hpl] at hset
        simp -implicitDefEqProofs only [↓yP, yT, Nat.reduceAdd, Nat.reduceMul, Nat.reduceSub, Nat.reduceLeDiff, Nat.reduceEqDiff, reduceCtorEq, Nat.reduceBEq, t2, hg, hsg, zp, cnt_blocks, ilt, w2, ilt2, hlE, ei, e1]
        refine Rcall_pure (closer_spec t.kind) (by rfl) fun y hy => ?_
        subst hy
        rcases closes_pos t.kind with hc | hc
        · have t3 : eqI (closes t.kind) 0 = true := by rw [hc]; rfl
          have hs2 : openAt ts (i + 1) = openAt ts i := by rw [hsucc, nestStep, if_neg (by rw [hol0]; simp [hck]), if_neg (by omega)]
          simp -implicitDefEqProofs only [↓yP, yT, Nat.reduceAdd, Nat.reduceMul, Nat.reduceSub, Nat.reduceLeDiff, Nat.reduceEqDiff, reduceCtorEq, Nat.reduceBEq, t3, w1]
          refine ⟨d - 1, [0, 1], by omega, by decide, pinned_zero _, i + 1, E, ?_, ?_, by omega, by rw [hs2]; exact hE1, by rw [hs2]; exact hE2⟩
          · simp only [yE, Nat.reduceEqDiff, Nat.reduceAdd, reduceCtorEq, hs2]
          · simp only [yE, Nat.reduceEqDiff, Nat.reduceAdd, reduceCtorEq, hset]
        · have t3 : eqI (closes t.kind) 0 = false := eqI_false (by omega)
          have hs2 : openAt ts (i + 1) = openAt ts i ++ [closes t.kind] := by rw [hsucc, nestStep, if_neg (by rw [hol0]; simp [hck]), if_pos hc]
          have b4 : ((openAt ts i).length + 1) * 8 ≤ 70368744177664 := by omega
          have hE3 : (List.map ei (openAt ts i) ++ [[PC.d (.int .i64 (closes t.kind))]]) = (openAt ts (i + 1)).map ei := by rw [hs2, List.map_append]; rfl
          by_cases c20 : closes t.kind = 20
          · have t4 : eqI (closes t.kind) 20 = true := by rw [c20]; rfl
            simp -implicitDefEqProofs only [↓yP, yT, Nat.reduceAdd, Nat.reduceMul, Nat.reduceSub, Nat.reduceLeDiff, Nat.reduceEqDiff, reduceCtorEq, Nat.reduceBEq, t3, t4, w1, hE1, hE2, b4]
            refine ⟨d - 1, [0, 4], by omega, by decide, pinned_zero _, i + 1, List.map ei (openAt ts i) ++ [[PC.d (.int .i64 (closes t.kind))]], ?_, ?_, by omega, ?_, ?_⟩
            · simp only [yE, Nat.reduceEqDiff, Nat.reduceAdd, reduceCtorEq, hs2, cnt_snoc, if_pos c20]
            · simp only [yE, Nat.reduceEqDiff, Nat.reduceAdd, reduceCtorEq, hset]
            · rw [hE3]; simp
            · rw [hE3, take_map_len]
          · have t4 : eqI (closes t.kind) 20 = false := eqI_false c20
            have w4 : wrapK .i64 ((cnt (openAt ts i) : Int) + 1) = ((cnt (openAt ts i) + 1 : Nat) : Int) := wrap_succ (by omega)
            simp -implicitDefEqProofs only [↓yP, yT, Nat.reduceAdd, Nat.reduceMul, Nat.reduceSub, Nat.reduceLeDiff, Nat.reduceEqDiff, reduceCtorEq, Nat.reduceBEq, t3, t4, w1, w4, hE1, hE2, b4]
            refine ⟨d - 1, [0, 4], by omega, by decide, pinned_zero _, i + 1, List.map ei (openAt ts i) ++ [[PC.d (.int .i64 (closes t.kind))]], ?_, ?_, by omega, ?_, ?_⟩
            · simp only [yE, Nat.reduceEqDiff, Nat.reduceAdd, reduceCtorEq, hs2, cnt_snoc, if_neg c20]
            · simp only [yE, Nat.reduceEqDiff, Nat.reduceAdd, reduceCtorEq, hset]
            · rw [hE3]; simp
            · rw [hE3, take_map_len]
  · have t1 : leI (ts.length : Nat) (i : Nat) = true := leI_true (by omega)
    have : i = ts.length := by omega
    subst this
    have hf : plTo ts ts.length = (List.range ts.length).map (plE ts) := by simp [plTo, plE]
    have hl2 : ts.length ≤ (plTo ts ts.length).length := by rw [plTo_length (Nat.le_refl _)]; omega
    have hl3 : (plTo ts ts.length).take ts.length = plTo ts ts.length := List.take_of_length_le (by rw [plTo_length (Nat.le_refl _)]; omega)
    simp -implicitDefEqProofs only [↓yP, yT, Nat.reduceAdd, Nat.reduceMul, Nat.reduceSub, Nat.reduceLeDiff, Nat.reduceEqDiff, reduceCtorEq, Nat.reduceBEq, t1, hl2, hl3]
    rw [hf]
end Go.Vx.Seat
end
/- plain and Colons. -/
section
open Go Go.Vx Go.Proofs
set_option linter.unusedSimpArgs false
set_option linter.unusedVariables false
set_option maxRecDepth 10000
set_option maxHeartbeats 4000000
namespace Go.Vx.Seat
attribute [local congr] Rg_at Rt_at Ro_at Ri_at Rc_at Rto_at Rtk_at Rtf_at Rti_at
attribute [local irreducible] Rg Rt Ro Ri Rc Rto Rtk Rtf Rti Rw Rl Rd Rcall Rtcall kf
theorem fn42 : nth C1.P.funcs.toList 42 = some Try.f42 := by kernel_rfl
theorem fn26 : nth C1.P.funcs.toList 26 = some Try.f26 := by kernel_rfl
theorem plGet {ts : List Tok} {i : Nat} (h : i < ts.length) : ((List.range ts.length).map (plE ts))[i]? = some [.d (.int .i64 ((pl ts i).1 : Nat)), .d (.bool (pl ts i).2.1), .d (.bool (pl ts i).2.2)] := by simp [h, plE, ep]
/-- Does what is behind, nested as it is, come to an end without a block? -/
def plainFrom (ts : List Tok) (i : Nat) : Nat → Nat → Bool
  | 0, _ => true
  | d + 1, k => if (pl ts k).1 < (pl ts i).1 then true else if (pl ts k).1 = (pl ts i).1 ∧ partK (kindAt ts k) = true then !decide (kindAt ts k = 19) else plainFrom ts i d (k + 1)
def plainAt (ts : List Tok) (i : Nat) : Bool := plainFrom ts i (ts.length - (i + 1)) (i + 1)

theorem pl_le (ts : List Tok) (i : Nat) : (pl ts i).1 ≤ i := by
  have := openAt_length ts i
  unfold pl plOf
  simp only
  split
  · simp; omega
  · exact this

theorem plain_spec (ts : List Tok) (i : Nat) (hl : ts.length ≤ 1000000) (hi : i < ts.length) : PCall C1 42 [.c (.p (rT ts)), .c (.p (rP ts)), yd (.int .i64 i)] fun y => y = yd (.bool (plainAt ts i)) := by
  refine Pf (by rfl) (by rfl) fn42 (by rfl) ?_
  simp only [Try.f42, List.length_cons, List.length_nil, List.replicate, List.cons_append, List.nil_append]
  have w1 : wrapK .i64 ((i : Int) + 1) = ((i + 1 : Nat) : Int) := wrap_succ (by omega)
  simp -implicitDefEqProofs only [↓yP, yT, Nat.reduceAdd, Nat.reduceMul, Nat.reduceSub, Nat.reduceLeDiff, Nat.reduceEqDiff, reduceCtorEq, Nat.reduceBEq, w1]
  refine Rl_inv (fun d e s => ∃ k : Nat, e = [.c (.p (rT ts)), .c (.p (rP ts)), yd (.int .i64 i), .c .top, .c .top, .c .top, .c .top, yd (.int .i64 k), .c .top, .c .top, .c .top, .c .top, .c .top, .c .top, .c .top, .c .top, .c .top, .c .top, .c .top, .c .top, .c .top, .c .top, .c .top, .c .top, .c .top, .c .top, .c .top, .c .top, .c .top, .c .top, .c .top, .c .top, .c .top, .c .top, .c .top, .c .top, .c .top, .c .top, .c .top, .c .top, .c .top, .c .top, .c .top, .c .top, .c .top, .c .top, .c .top, .c .top, .c .top, .c .top, .c .top, .c .top, .c .top] ∧ s = [] ∧ k + d = ts.length ∧ plainFrom ts i d k = plainAt ts i) [true, true, true, false, false, false, false, true] (ts.length - (i + 1)) [] (by decide) (pinned_zero _)
    ⟨i + 1, by simp only [yE, Nat.reduceEqDiff, Nat.reduceAdd, reduceCtorEq], rfl, by omega, rfl⟩ ?_
  rintro d e s ⟨k, rfl, rfl, hd, hp⟩
  have hli := pl_le ts i
  by_cases hk : k < ts.length
  · obtain ⟨t, ht⟩ := get_lt hk
    have hkk := kindAt_some ht
    have hlk := pl_le ts k
    have t1 : leI (ts.length : Nat) (k : Nat) = false := leI_false (by omega)
    have w2 : wrapK .i64 ((k : Int) + 1) = ((k + 1 : Nat) : Int) := wrap_succ (by omega)
    have hd1 : d = (d - 1) + 1 := by omega
    simp -implicitDefEqProofs only [↓yP, yT, Nat.reduceAdd, Nat.reduceMul, Nat.reduceSub, Nat.reduceLeDiff, Nat.reduceEqDiff, reduceCtorEq, Nat.reduceBEq, t1]
    refine Rd_calm (by rw [C1_P]; kernel_rfl) ?_
    by_cases c1 : (pl ts k).1 < (pl ts i).1
    · have t2 : leI ((pl ts i).1 : Nat) ((pl ts k).1 : Nat) = false := leI_false (by omega)
      simp -implicitDefEqProofs only [↓yP, yT, Nat.reduceAdd, Nat.reduceMul, Nat.reduceSub, Nat.reduceLeDiff, Nat.reduceEqDiff, reduceCtorEq, Nat.reduceBEq, plGet hk, plGet hi, t2]
      rw [← hp, hd1, plainFrom, if_pos c1]
    have t2 : leI ((pl ts i).1 : Nat) ((pl ts k).1 : Nat) = true := leI_true (by omega)
    simp -implicitDefEqProofs only [↓yP, yT, Nat.reduceAdd, Nat.reduceMul, Nat.reduceSub, Nat.reduceLeDiff, Nat.reduceEqDiff, reduceCtorEq, Nat.reduceBEq, plGet hk, plGet hi, t2]
    refine Rd_calm (by rw [C1_P]; kernel_rfl) ?_
    by_cases c2 : (pl ts k).1 = (pl ts i).1
    · have t3 : eqI ((pl ts k).1 : Nat) ((pl ts i).1 : Nat) = true := by rw [c2]; exact eqI_true _
      simp -implicitDefEqProofs only [↓yP, yT, Nat.reduceAdd, Nat.reduceMul, Nat.reduceSub, Nat.reduceLeDiff, Nat.reduceEqDiff, reduceCtorEq, Nat.reduceBEq, plGet hk, plGet hi, t3, get_map ht, Tok.pc]
      refine Rcall_pure (cpart_spec t) (by rfl) fun y hy => ?_
      subst hy
      cases hpk : partK t.kind with
      | true =>
        by_cases q1 : t.kind = 19
        · have f1 : eqI t.kind 19 = true := by rw [q1]; rfl
          simp -implicitDefEqProofs only [↓yP, yT, Nat.reduceAdd, Nat.reduceMul, Nat.reduceSub, Nat.reduceLeDiff, Nat.reduceEqDiff, reduceCtorEq, Nat.reduceBEq, get_map ht, Tok.pc, f1]
          rw [← hp, hd1, plainFrom, if_neg c1, if_pos ⟨c2, by rw [hkk]; exact hpk⟩, hkk]
          simp [q1]
        · have f1 : eqI t.kind 19 = false := eqI_false q1
          simp -implicitDefEqProofs only [↓yP, yT, Nat.reduceAdd, Nat.reduceMul, Nat.reduceSub, Nat.reduceLeDiff, Nat.reduceEqDiff, reduceCtorEq, Nat.reduceBEq, get_map ht, Tok.pc, f1]
          rw [← hp, hd1, plainFrom, if_neg c1, if_pos ⟨c2, by rw [hkk]; exact hpk⟩, hkk]
          simp [q1]
      | false =>
        simp -implicitDefEqProofs only [↓yP, yT, Nat.reduceAdd, Nat.reduceMul, Nat.reduceSub, Nat.reduceLeDiff, Nat.reduceEqDiff, reduceCtorEq, Nat.reduceBEq, w2]
        refine ⟨d - 1, [], by omega, by decide, pinned_zero _, k + 1, ?_, rfl, by omega, ?_⟩
        · simp only [yE, Nat.reduceEqDiff, Nat.reduceAdd, reduceCtorEq]
        · rw [← hp, hd1, plainFrom, if_neg c1, if_neg (by rw [hkk, hpk]; simp)]; rfl
    · have t3 : eqI ((pl ts k).1 : Nat) ((pl ts i).1 : Nat) = false := eqI_false (by omega)
      simp -implicitDefEqProofs only [↓yP, yT, Nat.reduceAdd, Nat.reduceMul, Nat.reduceSub, Nat.reduceLeDiff, Nat.reduceEqDiff, reduceCtorEq, Nat.reduceBEq, plGet hk, plGet hi, t3, w2]
      refine ⟨d - 1, [], by omega, by decide, pinned_zero _, k + 1, ?_, rfl, by omega, ?_⟩
      · simp only [yE, Nat.reduceEqDiff, Nat.reduceAdd, reduceCtorEq]
      · rw [← hp, hd1, plainFrom, if_neg c1, if_neg (by simp [c2])]; rfl
  · have t1 : leI (ts.length : Nat) (k : Nat) = true := leI_true (by omega)
    have hd0 : d = 0 := by omega
    simp -implicitDefEqProofs only [↓yP, yT, Nat.reduceAdd, Nat.reduceMul, Nat.reduceSub, Nat.reduceLeDiff, Nat.reduceEqDiff, reduceCtorEq, Nat.reduceBEq, t1]
    rw [← hp, hd0, plainFrom]

/-- How many tokens there are since the last part, and whether the last one is a name. -/
def since (ts : List Tok) : Nat → Nat × Bool
  | 0 => (0, false)
  | i + 1 => if quiet (kindAt ts i) = true then since ts i else if partK (kindAt ts i) = true ∧ (pl ts i).2.1 = true then (0, (since ts i).2) else ((since ts i).1 + 1, decide (kindAt ts i = 1))
theorem since_le (ts : List Tok) : ∀ i, (since ts i).1 ≤ i
  | 0 => by simp [since]
  | i + 1 => by
    have := since_le ts i
    unfold since
    split
    · omega
    · split
      · simp
      · simp; omega
def isColon (ts : List Tok) (i : Nat) : Bool := decide (kindAt ts i = 16) && (pl ts i).2.1 && decide (0 < (pl ts i).1) && decide ((since ts i).1 = 1) && (since ts i).2 && plainAt ts i
def colonsP (ts : List Tok) (n : Nat) : List Int := ((List.range n).filter (isColon ts)).map fun i : Nat => (i : Int)
theorem colonsP_yes {ts : List Tok} {n : Nat} (h : isColon ts n = true) : colonsP ts (n + 1) = colonsP ts n ++ [(n : Int)] := by simp [colonsP, List.range_succ, h]
theorem colonsP_no {ts : List Tok} {n : Nat} (h : isColon ts n = false) : colonsP ts (n + 1) = colonsP ts n := by simp [colonsP, List.range_succ, h]
theorem colonsP_length (ts : List Tok) (n : Nat) : (colonsP ts n).length ≤ n := by
  have := List.length_filter_le (isColon ts) (List.range n)
  simpa [colonsP] using this

theorem colonsP_spec (ts : List Tok) (hl : ts.length ≤ 1000000) : PCall C1 26 [.c (.p (rT ts))] fun y => y = .c (.p (rI (colonsP ts ts.length))) := by
  refine Pf (by rfl) (by rfl) fn26 (by rfl) ?_
  simp only [Try.f26, List.length_cons, List.length_nil, List.replicate, List.cons_append, List.nil_append]
  simp -implicitDefEqProofs only [↓yP, yT, Nat.reduceAdd, Nat.reduceMul, Nat.reduceSub, Nat.reduceLeDiff, Nat.reduceEqDiff, reduceCtorEq, Nat.reduceBEq]
  refine Rcall_pure (places_spec ts hl) (by rfl) fun y hy => ?_
  subst hy
  simp -implicitDefEqProofs only [↓yP, yT, Nat.reduceAdd, Nat.reduceMul, Nat.reduceSub, Nat.reduceLeDiff, Nat.reduceEqDiff, reduceCtorEq, Nat.reduceBEq]
  refine Rl_nil 4 1 (by decide) rfl ?_
  refine Rl_inv (fun d e s => ∃ i : Nat, e = [.c (.p (rT ts)), .c .top, .c .top, .c (.p (rP ts)), .c (.own 0 1 0 (colonsP ts i).length), yd (.int .i64 (since ts i).1), yd (.bool (since ts i).2), .c .top, .c .top, .c .top, .c .top, .c (.p (rT ts)), yd (.int .i64 ts.length), yd (.int .i64 i), .c .top, .c .top, .c .top, .c .top, .c .top, .c .top, .c .top, .c .top, .c .top, .c .top, .c .top, .c .top, .c .top, .c .top, .c .top, .c .top, .c .top, .c .top, .c .top, .c .top, .c .top, .c .top, .c .top, .c .top, .c .top, .c .top, .c .top, .c .top, .c .top, .c .top, .c .top, .c .top, .c .top, .c .top, .c .top, .c .top, .c .top, .c .top, .c .top, .c .top, .c .top, .c .top, .c .top, .c .top, .c .top, .c .top, .c .top, .c .top, .c .top, .c .top, .c .top, .c .top, .c .top, .c .top, .c .top, .c .top, .c .top, .c .top, .c .top, .c .top] ∧ s = [.row 1 ((colonsP ts i).map ei)] ∧ i + d = ts.length)
    [true, false, false, true, true, true, true, false, false, false, false, true, true, true] ts.length [0] (by decide) (pinned_zero _) ⟨0, by simp only [yE, Nat.reduceEqDiff, Nat.reduceAdd, reduceCtorEq]; rfl, by simp only [yE, Nat.reduceEqDiff, Nat.reduceAdd, reduceCtorEq]; rfl, by omega⟩ ?_
  rintro d e s ⟨i, rfl, rfl, hd⟩
  by_cases hi : i < ts.length
  · obtain ⟨t, ht⟩ := get_lt hi
    have hk := kindAt_some ht
    have hli := pl_le ts i
    have hsl := since_le ts i
    have hcl := colonsP_length ts i
    have bcol : ((colonsP ts i).length + 1) * 8 ≤ 70368744177664 := by omega
    have t1 : leI (ts.length : Nat) (i : Nat) = false := leI_false (by omega)
    have w1 : wrapK .i64 ((i : Int) + 1) = ((i + 1 : Nat) : Int) := wrap_succ (by omega)
    have w3 : wrapK .i64 (((since ts i).1 : Int) + 1) = (((since ts i).1 + 1 : Nat) : Int) := wrap_succ (by omega)
    simp -implicitDefEqProofs only [↓yP, yT, Nat.reduceAdd, Nat.reduceMul, Nat.reduceSub, Nat.reduceLeDiff, Nat.reduceEqDiff, reduceCtorEq, Nat.reduceBEq, t1, get_map ht, Tok.pc]
    refine Rcall_pure (blank_spec t) (by rfl) fun y hy => ?_
    subst hy
    cases hq : quiet t.kind with
    | true =>
      have hno : isColon ts i = false := by
        simp only [quiet, Bool.or_eq_true, decide_eq_true_eq] at hq
        have : t.kind ≠ 16 := by omega
        simp [isColon, hk, this]
      have hsin : since ts (i + 1) = since ts i := by rw [since, hk, if_pos hq]
      simp -implicitDefEqProofs only [↓yP, yT, Nat.reduceAdd, Nat.reduceMul, Nat.reduceSub, Nat.reduceLeDiff, Nat.reduceEqDiff, reduceCtorEq, Nat.reduceBEq, w1]
      refine ⟨d - 1, [0], by omega, by decide, pinned_zero _, i + 1, ?_, ?_, by omega⟩
      · simp only [yE, Nat.reduceEqDiff, Nat.reduceAdd, reduceCtorEq, colonsP_no hno, hsin]
      · simp only [yE, Nat.reduceEqDiff, Nat.reduceAdd, reduceCtorEq, colonsP_no hno]
    | false =>
      have hq' : ¬ quiet (kindAt ts i) = true := by rw [hk, hq]; simp
      simp -implicitDefEqProofs only [↓yP, yT, Nat.reduceAdd, Nat.reduceMul, Nat.reduceSub, Nat.reduceLeDiff, Nat.reduceEqDiff, reduceCtorEq, Nat.reduceBEq]
      refine Rcall_pure (cpart_spec t) (by rfl) fun y hy => ?_
      subst hy
      by_cases hpb : partK t.kind = true ∧ (pl ts i).2.1 = true
      · obtain ⟨hp1, hp2⟩ := hpb
        have hno : isColon ts i = false := by
          simp only [partK, Bool.or_eq_true, decide_eq_true_eq] at hp1
          have : t.kind ≠ 16 := by omega
          simp [isColon, hk, this]
        have hsin : since ts (i + 1) = (0, (since ts i).2) := by rw [since, if_neg hq', hk, if_pos ⟨hp1, hp2⟩]
        simp -implicitDefEqProofs only [↓yP, yT, Nat.reduceAdd, Nat.reduceMul, Nat.reduceSub, Nat.reduceLeDiff, Nat.reduceEqDiff, reduceCtorEq, Nat.reduceBEq, hp1, plGet hi, hp2, w1]
        refine ⟨d - 1, [0], by omega, by decide, pinned_zero _, i + 1, ?_, ?_, by omega⟩
        · simp only [yE, Nat.reduceEqDiff, Nat.reduceAdd, reduceCtorEq, colonsP_no hno, hsin]
          rfl
        · simp only [yE, Nat.reduceEqDiff, Nat.reduceAdd, reduceCtorEq, colonsP_no hno]
      · have hsin : since ts (i + 1) = ((since ts i).1 + 1, decide (t.kind = 1)) := by rw [since, if_neg hq', hk, if_neg hpb]
        cases hp1 : partK t.kind with
        | true =>
          have hp2 : (pl ts i).2.1 = false := by
            cases hb : (pl ts i).2.1 with
            | false => rfl
            | true => exact absurd ⟨hp1, hb⟩ hpb
          have k16 : t.kind ≠ 16 := by
            simp only [partK, Bool.or_eq_true, decide_eq_true_eq] at hp1
            omega
          have f1 : eqI t.kind 16 = false := eqI_false k16
          have hno : isColon ts i = false := by simp [isColon, hk, k16]
          simp -implicitDefEqProofs only [↓yP, yT, Nat.reduceAdd, Nat.reduceMul, Nat.reduceSub, Nat.reduceLeDiff, Nat.reduceEqDiff, reduceCtorEq, Nat.reduceBEq, plGet hi, hp2, f1, w1, w3]
          refine Rd_calm (by rw [C1_P]; kernel_rfl) ?_
          simp -implicitDefEqProofs only [↓yP, yT, Nat.reduceAdd, Nat.reduceMul, Nat.reduceSub, Nat.reduceLeDiff, Nat.reduceEqDiff, reduceCtorEq, Nat.reduceBEq, w1, w3]
          refine ⟨d - 1, [0], by omega, by decide, pinned_zero _, i + 1, ?_, ?_, by omega⟩
          · simp only [yE, Nat.reduceEqDiff, Nat.reduceAdd, reduceCtorEq, colonsP_no hno, hsin, eqI_eq]
          · simp only [yE, Nat.reduceEqDiff, Nat.reduceAdd, reduceCtorEq, colonsP_no hno]
        | false =>
          by_cases k16 : t.kind = 16
          · have f1 : eqI t.kind 16 = true := by rw [k16]; rfl
            cases hb : (pl ts i).2.1 with
            | false =>
              have hno : isColon ts i = false := by simp [isColon, hb]
              simp -implicitDefEqProofs only [↓yP, yT, Nat.reduceAdd, Nat.reduceMul, Nat.reduceSub, Nat.reduceLeDiff, Nat.reduceEqDiff, reduceCtorEq, Nat.reduceBEq, plGet hi, hb, f1, w1, w3]
              refine Rd_calm (by rw [C1_P]; kernel_rfl) ?_
              simp -implicitDefEqProofs only [↓yP, yT, Nat.reduceAdd, Nat.reduceMul, Nat.reduceSub, Nat.reduceLeDiff, Nat.reduceEqDiff, reduceCtorEq, Nat.reduceBEq, w1, w3]
              refine ⟨d - 1, [0], by omega, by decide, pinned_zero _, i + 1, ?_, ?_, by omega⟩
              · simp only [yE, Nat.reduceEqDiff, Nat.reduceAdd, reduceCtorEq, colonsP_no hno, hsin, eqI_eq]
              · simp only [yE, Nat.reduceEqDiff, Nat.reduceAdd, reduceCtorEq, colonsP_no hno]
            | true =>
              by_cases hd0 : 0 < (pl ts i).1
              · have f2 : leI ((pl ts i).1 : Nat) 0 = false := leI_false (by omega)
                by_cases hn1 : (since ts i).1 = 1
                · have f3 : eqI ((since ts i).1 : Nat) 1 = true := by rw [hn1]; rfl
                  cases hid : (since ts i).2 with
                  | false =>
                    have hno : isColon ts i = false := by simp [isColon, hid]
                    simp -implicitDefEqProofs only [↓yP, yT, Nat.reduceAdd, Nat.reduceMul, Nat.reduceSub, Nat.reduceLeDiff, Nat.reduceEqDiff, reduceCtorEq, Nat.reduceBEq, plGet hi, hb, f1, f2, f3, w1, w3]
                    refine Rd_calm (by rw [C1_P]; kernel_rfl) ?_
                    simp -implicitDefEqProofs only [↓yP, yT, Nat.reduceAdd, Nat.reduceMul, Nat.reduceSub, Nat.reduceLeDiff, Nat.reduceEqDiff, reduceCtorEq, Nat.reduceBEq, w1, w3]
                    refine ⟨d - 1, [0], by omega, by decide, pinned_zero _, i + 1, ?_, ?_, by omega⟩
                    · simp only [yE, Nat.reduceEqDiff, Nat.reduceAdd, reduceCtorEq, colonsP_no hno, hsin, eqI_eq]
                    · simp only [yE, Nat.reduceEqDiff, Nat.reduceAdd, reduceCtorEq, colonsP_no hno]
                  | true =>
                    simp -implicitDefEqProofs only [↓yP, yT, Nat.reduceAdd, Nat.reduceMul, Nat.reduceSub, Nat.reduceLeDiff, Nat.reduceEqDiff, reduceCtorEq, Nat.reduceBEq, plGet hi, hb, f1, f2, f3]
                    refine Rcall_pure (plain_spec ts i hl hi) (by rfl) fun y hy => ?_
                    subst hy
                    cases hpl : plainAt ts i with
                    | false =>
                      have hno : isColon ts i = false := by simp [isColon, hpl]
                      simp -implicitDefEqProofs only [↓yP, yT, Nat.reduceAdd, Nat.reduceMul, Nat.reduceSub, Nat.reduceLeDiff, Nat.reduceEqDiff, reduceCtorEq, Nat.reduceBEq, w1, w3]
                      refine Rd_calm (by rw [C1_P]; kernel_rfl) ?_
                      simp -implicitDefEqProofs only [↓yP, yT, Nat.reduceAdd, Nat.reduceMul, Nat.reduceSub, Nat.reduceLeDiff, Nat.reduceEqDiff, reduceCtorEq, Nat.reduceBEq, w1, w3]
                      refine ⟨d - 1, [0], by omega, by decide, pinned_zero _, i + 1, ?_, ?_, by omega⟩
                      · simp only [yE, Nat.reduceEqDiff, Nat.reduceAdd, reduceCtorEq, colonsP_no hno, hsin, eqI_eq]
                      · simp only [yE, Nat.reduceEqDiff, Nat.reduceAdd, reduceCtorEq, colonsP_no hno]
                    | true =>
                      have hyes : isColon ts i = true := by simp [isColon, hk, k16, hb, hd0, hn1, hid, hpl]
                      simp -implicitDefEqProofs only [↓yP, yT, Nat.reduceAdd, Nat.reduceMul, Nat.reduceSub, Nat.reduceLeDiff, Nat.reduceEqDiff, reduceCtorEq, Nat.reduceBEq, w1, w3, bcol]
                      refine Rd_calm (by rw [C1_P]; kernel_rfl) ?_
                      simp -implicitDefEqProofs only [↓yP, yT, Nat.reduceAdd, Nat.reduceMul, Nat.reduceSub, Nat.reduceLeDiff, Nat.reduceEqDiff, reduceCtorEq, Nat.reduceBEq, w1, w3]
                      refine ⟨d - 1, [3], by omega, by decide, pinned_zero _, i + 1, ?_, ?_, by omega⟩
                      · simp only [yE, Nat.reduceEqDiff, Nat.reduceAdd, reduceCtorEq, colonsP_yes hyes, hsin, eqI_eq]
                      · simp only [yE, Nat.reduceEqDiff, Nat.reduceAdd, reduceCtorEq, colonsP_yes hyes, List.map_append, ei]
                · have f3 : eqI ((since ts i).1 : Nat) 1 = false := eqI_false (by omega)
                  have hno : isColon ts i = false := by simp [isColon, hn1]
                  simp -implicitDefEqProofs only [↓yP, yT, Nat.reduceAdd, Nat.reduceMul, Nat.reduceSub, Nat.reduceLeDiff, Nat.reduceEqDiff, reduceCtorEq, Nat.reduceBEq, plGet hi, hb, f1, f2, f3, w1, w3]
                  refine Rd_calm (by rw [C1_P]; kernel_rfl) ?_
                  simp -implicitDefEqProofs only [↓yP, yT, Nat.reduceAdd, Nat.reduceMul, Nat.reduceSub, Nat.reduceLeDiff, Nat.reduceEqDiff, reduceCtorEq, Nat.reduceBEq, w1, w3]
                  refine ⟨d - 1, [0], by omega, by decide, pinned_zero _, i + 1, ?_, ?_, by omega⟩
                  · simp only [yE, Nat.reduceEqDiff, Nat.reduceAdd, reduceCtorEq, colonsP_no hno, hsin, eqI_eq]
                  · simp only [yE, Nat.reduceEqDiff, Nat.reduceAdd, reduceCtorEq, colonsP_no hno]
              · have f2 : leI ((pl ts i).1 : Nat) 0 = true := leI_true (by omega)
                have hno : isColon ts i = false := by simp [isColon, hd0]
                simp -implicitDefEqProofs only [↓yP, yT, Nat.reduceAdd, Nat.reduceMul, Nat.reduceSub, Nat.reduceLeDiff, Nat.reduceEqDiff, reduceCtorEq, Nat.reduceBEq, plGet hi, hb, f1, f2, w1, w3]
                refine Rd_calm (by rw [C1_P]; kernel_rfl) ?_
                simp -implicitDefEqProofs only [↓yP, yT, Nat.reduceAdd, Nat.reduceMul, Nat.reduceSub, Nat.reduceLeDiff, Nat.reduceEqDiff, reduceCtorEq, Nat.reduceBEq, w1, w3]
                refine ⟨d - 1, [0], by omega, by decide, pinned_zero _, i + 1, ?_, ?_, by omega⟩
                · simp only [yE, Nat.reduceEqDiff, Nat.reduceAdd, reduceCtorEq, colonsP_no hno, hsin, eqI_eq]
                · simp only [yE, Nat.reduceEqDiff, Nat.reduceAdd, reduceCtorEq, colonsP_no hno]
          · have f1 : eqI t.kind 16 = false := eqI_false k16
            have hno : isColon ts i = false := by simp [isColon, hk, k16]
            simp -implicitDefEqProofs only [↓yP, yT, Nat.reduceAdd, Nat.reduceMul, Nat.reduceSub, Nat.reduceLeDiff, Nat.reduceEqDiff, reduceCtorEq, Nat.reduceBEq, f1, w1, w3]
            refine Rd_calm (by rw [C1_P]; kernel_rfl) ?_
            simp -implicitDefEqProofs only [↓yP, yT, Nat.reduceAdd, Nat.reduceMul, Nat.reduceSub, Nat.reduceLeDiff, Nat.reduceEqDiff, reduceCtorEq, Nat.reduceBEq, w1, w3]
            refine ⟨d - 1, [0], by omega, by decide, pinned_zero _, i + 1, ?_, ?_, by omega⟩
            · simp only [yE, Nat.reduceEqDiff, Nat.reduceAdd, reduceCtorEq, colonsP_no hno, hsin, eqI_eq]
            · simp only [yE, Nat.reduceEqDiff, Nat.reduceAdd, reduceCtorEq, colonsP_no hno]
  · have t1 : leI (ts.length : Nat) (i : Nat) = true := leI_true (by omega)
    have : i = ts.length := by omega
    subst this
    simp -implicitDefEqProofs only [↓yP, yT, Nat.reduceAdd, Nat.reduceMul, Nat.reduceSub, Nat.reduceLeDiff, Nat.reduceEqDiff, reduceCtorEq, Nat.reduceBEq, t1]
end Go.Vx.Seat
end
/- BinarySearch; what the parsers ask of their tokens. -/
section
open Go Go.Vx Go.Proofs
set_option linter.unusedSimpArgs false
set_option linter.unusedVariables false
set_option maxRecDepth 10000
set_option maxHeartbeats 4000000
namespace Go.Vx.Seat
attribute [local congr] Rg_at Rt_at Ro_at Ri_at Rc_at Rto_at Rtk_at Rtf_at Rti_at
attribute [local irreducible] Rg Rt Ro Ri Rc Rto Rtk Rtf Rti Rw Rl Rd Rcall Rtcall kf
theorem fn76 : nth C1.P.funcs.toList 76 = some Try.f76 := by kernel_rfl
theorem fn86 : nth C1.P.funcs.toList 86 = some Try.f86 := by kernel_rfl
theorem fn87 : nth C1.P.funcs.toList 87 = some Try.f87 := by kernel_rfl
theorem fn94 : nth C1.P.funcs.toList 94 = some Try.f94 := by kernel_rfl
theorem fn43 : nth C1.P.funcs.toList 43 = some Try.f43 := by kernel_rfl
theorem fn55 : nth C1.P.funcs.toList 55 = some Try.f55 := by kernel_rfl
theorem fn56 : nth C1.P.funcs.toList 56 = some Try.f56 := by kernel_rfl
theorem fn58 : nth C1.P.funcs.toList 58 = some Try.f58 := by kernel_rfl
theorem isNaN1 (n : Int) : PCall C1 87 [yd (.int .i64 n)] fun y => y = yd (.bool false) := by
  refine Pf (by rfl) (by rfl) fn87 (by rfl) ?_
  simp only [Try.f87, List.length_cons, List.length_nil, List.replicate, List.cons_append, List.nil_append]
  simp -implicitDefEqProofs only [↓yP, yT, Nat.reduceAdd, Nat.reduceMul, Nat.reduceSub, Nat.reduceLeDiff, Nat.reduceEqDiff, reduceCtorEq, Nat.reduceBEq, eqI_true]
theorem isNaN2 (n : Int) : PCall C1 94 [yd (.int .i64 n)] fun y => y = yd (.bool false) := by
  refine Pf (by rfl) (by rfl) fn94 (by rfl) ?_
  simp only [Try.f94, List.length_cons, List.length_nil, List.replicate, List.cons_append, List.nil_append]
  simp -implicitDefEqProofs only [↓yP, yT, Nat.reduceAdd, Nat.reduceMul, Nat.reduceSub, Nat.reduceLeDiff, Nat.reduceEqDiff, reduceCtorEq, Nat.reduceBEq, eqI_true]
theorem less_spec (a b : Int) : PCall C1 86 [yd (.int .i64 a), yd (.int .i64 b)] fun y => y = yd (.bool (!leI b a)) := by
  refine Pf (by rfl) (by rfl) fn86 (by rfl) ?_
  simp only [Try.f86, List.length_cons, List.length_nil, List.replicate, List.cons_append, List.nil_append]
  simp -implicitDefEqProofs only [↓yP, yT, Nat.reduceAdd, Nat.reduceMul, Nat.reduceSub, Nat.reduceLeDiff, Nat.reduceEqDiff, reduceCtorEq, Nat.reduceBEq]
  refine Rcall_pure (isNaN2 a) (by rfl) fun y hy => ?_
  subst hy
  simp -implicitDefEqProofs only [↓yP, yT, Nat.reduceAdd, Nat.reduceMul, Nat.reduceSub, Nat.reduceLeDiff, Nat.reduceEqDiff, reduceCtorEq, Nat.reduceBEq]
theorem wrap_u64 {i : Nat} (h : i < 9000000000000000000) : wrapK .u64 ((i : Nat) : Int) = (i : Nat) := by
  rw [wrapK_eq]
  simp only [IntKind.wrap, IntKind.bits, IntKind.signed]
  have : (2 ^ 64 : Int) = 18446744073709551616 := by decide
  simp only [*, Bool.false_and, Bool.false_eq_true, if_false]
  omega
theorem shr_one (i : Nat) : xshift .shr .u64 ((i : Nat) : Int) 1 = some (.int .u64 ((i / 2 : Nat) : Int)) := by
  simp only [xshift, IntKind.bits]
  rw [if_neg (by omega)]
  congr 2
  show Int.fdiv (i : Int) (2 ^ (min 1 64)) = _
  rw [show (2 : Int) ^ (min 1 64) = 2 by decide, Int.fdiv_eq_ediv_of_nonneg _ (by omega)]
  omega
/-- Where a number stands in a rising list, or would. -/
def Stands (l : List Int) (n : Int) (k : Nat) : Prop := k ≤ l.length ∧ (∀ (j : Nat) (a : Int), j < k → l[j]? = some a → a < n) ∧ ∀ (j : Nat) (a : Int), k ≤ j → l[j]? = some a → n ≤ a
def Rising (l : List Int) : Prop := ∀ (i j : Nat) (a b : Int), i < j → l[i]? = some a → l[j]? = some b → a < b
theorem search_spec (l : List Int) (n : Int) (hl : l.length ≤ 1000000) (hr : Rising l) : PCall C1 76 [.c (.p (rI l)), yd (.int .i64 n)] fun y => ∃ (k : Nat) (b : Bool), y = .tup [yd (.int .i64 k), yd (.bool b)] ∧ Stands l n k ∧ (b = true ↔ l[k]? = some n) := by
  refine Pf (by rfl) (by rfl) fn76 (by rfl) ?_
  simp only [Try.f76, List.length_cons, List.length_nil, List.replicate, List.cons_append, List.nil_append]
  simp -implicitDefEqProofs only [↓yP, yT, Nat.reduceAdd, Nat.reduceMul, Nat.reduceSub, Nat.reduceLeDiff, Nat.reduceEqDiff, reduceCtorEq, Nat.reduceBEq]
  refine Rl_inv (fun d e s => ∃ i j : Nat, e = [.c (.p (rI l)), yd (.int .i64 n), .c .top, .c .top, .c .top, .c .top, yd (.int .i64 l.length), yd (.int .i64 i), yd (.int .i64 j), .c .top, .c .top, .c .top, .c .top, .c .top, .c .top, .c .top, .c .top, .c .top, .c .top, .c .top, .c .top, .c .top, .c .top, .c .top, .c .top, .c .top, .c .top, .c .top, .c .top, .c .top, .c .top, .c .top, .c .top, .c .top, .c .top, .c .top, .c .top, .c .top, .c .top, .c .top, .c .top, .c .top, .c .top, .c .top, .c .top, .c .top, .c .top, .c .top, .c .top, .c .top, .c .top, .c .top, .c .top, .c .top] ∧ s = [] ∧ i ≤ j ∧ j ≤ l.length ∧ j - i = d ∧ (∀ (k : Nat) (a : Int), k < i → l[k]? = some a → a < n) ∧ ∀ (k : Nat) (a : Int), j ≤ k → l[k]? = some a → n ≤ a)
    [true, true, false, false, false, false, true, true, true] l.length [] (by decide) (pinned_zero _) ⟨0, l.length, by simp only [yE, Nat.reduceEqDiff, Nat.reduceAdd, reduceCtorEq]; rfl, rfl, by omega, by omega, by omega, fun k a hk => by omega, fun k a hk ha => by have := lt_of_some ha; omega⟩ ?_
  rintro d e s ⟨i, j, rfl, rfl, hij, hjl, hd, hlo, hhi⟩
  by_cases hlt : i < j
  · have t1 : leI (j : Nat) (i : Nat) = false := leI_false (by omega)
    have wa : wrapK .i64 ((i : Int) + (j : Int)) = ((i + j : Nat) : Int) := by rw [show (i : Int) + (j : Int) = ((i + j : Nat) : Int) by omega]; exact wrap_nat (by omega)
    have wb : wrapK .u64 ((i + j : Nat) : Int) = ((i + j : Nat) : Int) := wrap_u64 (by omega)
    have wc : wrapK .i64 (((i + j) / 2 : Nat) : Int) = (((i + j) / 2 : Nat) : Int) := wrap_nat (by omega)
    have wd : wrapK .i64 ((((i + j) / 2 : Nat) : Int) + 1) = (((i + j) / 2 + 1 : Nat) : Int) := wrap_succ (by omega)
    obtain ⟨a, ha⟩ := get_lt (show (i + j) / 2 < l.length by omega)
    simp -implicitDefEqProofs only [↓yP, yT, Nat.reduceAdd, Nat.reduceMul, Nat.reduceSub, Nat.reduceLeDiff, Nat.reduceEqDiff, reduceCtorEq, Nat.reduceBEq, t1, wa, wb, wc, shr_one, get_map ha, ei]
    refine Rcall_pure (less_spec a n) (by rfl) fun y hy => ?_
    subst hy
    by_cases hn : n ≤ a
    · have t2 : leI n a = true := leI_true hn
      simp -implicitDefEqProofs only [↓yP, yT, Nat.reduceAdd, Nat.reduceMul, Nat.reduceSub, Nat.reduceLeDiff, Nat.reduceEqDiff, reduceCtorEq, Nat.reduceBEq, t2]
      refine ⟨j - i - 1 - ((j - i - 1) - ((i + j) / 2 - i)), [], by omega, by decide, pinned_zero _, i, (i + j) / 2, ?_, rfl, by omega, by omega, by omega, hlo, fun k b hk hb => ?_⟩
      · simp only [yE, Nat.reduceEqDiff, Nat.reduceAdd, reduceCtorEq]
      · by_cases e : k = (i + j) / 2
        · subst e; rw [ha] at hb; cases hb; exact hn
        · have := hr _ _ _ _ (show (i + j) / 2 < k by omega) ha hb; omega
    · have t2 : leI n a = false := leI_false hn
      simp -implicitDefEqProofs only [↓yP, yT, Nat.reduceAdd, Nat.reduceMul, Nat.reduceSub, Nat.reduceLeDiff, Nat.reduceEqDiff, reduceCtorEq, Nat.reduceBEq, t2, wd]
      refine ⟨j - ((i + j) / 2 + 1), [], by omega, by decide, pinned_zero _, (i + j) / 2 + 1, j, ?_, rfl, by omega, by omega, by omega, fun k b hk hb => ?_, hhi⟩
      · simp only [yE, Nat.reduceEqDiff, Nat.reduceAdd, reduceCtorEq]
      · by_cases e : k = (i + j) / 2
        · subst e; rw [ha] at hb; cases hb; omega
        · have := hr _ _ _ _ (show k < (i + j) / 2 by omega) hb ha; omega
  · have t1 : leI (j : Nat) (i : Nat) = true := leI_true (by omega)
    have : i = j := by omega
    subst this
    by_cases hil : i < l.length
    · obtain ⟨a, ha⟩ := get_lt hil
      have t2 : leI (l.length : Nat) (i : Nat) = false := leI_false (by omega)
      by_cases hn : a = n
      · subst hn
        simp -implicitDefEqProofs only [↓yP, yT, Nat.reduceAdd, Nat.reduceMul, Nat.reduceSub, Nat.reduceLeDiff, Nat.reduceEqDiff, reduceCtorEq, Nat.reduceBEq, t1, t2, get_map ha, ei, eqI_true]
        exact ⟨i, true, rfl, ⟨by omega, hlo, hhi⟩, by simp [ha]⟩
      · have e1 : eqI a n = false := eqI_false hn
        simp -implicitDefEqProofs only [↓yP, yT, Nat.reduceAdd, Nat.reduceMul, Nat.reduceSub, Nat.reduceLeDiff, Nat.reduceEqDiff, reduceCtorEq, Nat.reduceBEq, t1, t2, get_map ha, ei, e1]
        refine Rcall_pure (isNaN1 a) (by rfl) fun y hy => ?_
        subst hy
        simp -implicitDefEqProofs only [↓yP, yT, Nat.reduceAdd, Nat.reduceMul, Nat.reduceSub, Nat.reduceLeDiff, Nat.reduceEqDiff, reduceCtorEq, Nat.reduceBEq]
        exact ⟨i, false, rfl, ⟨by omega, hlo, hhi⟩, by simp [ha, hn]⟩
    · have t2 : leI (l.length : Nat) (i : Nat) = true := leI_true (by omega)
      simp -implicitDefEqProofs only [↓yP, yT, Nat.reduceAdd, Nat.reduceMul, Nat.reduceSub, Nat.reduceLeDiff, Nat.reduceEqDiff, reduceCtorEq, Nat.reduceBEq, t1, t2]
      exact ⟨i, false, rfl, ⟨by omega, hlo, hhi⟩, by rw [List.getElem?_eq_none (by omega)]; simp⟩

/-- The parser's box, read. -/
def pb (ts : List Tok) (cols : List Int) (i : Nat) : List PC := [rT ts, rP ts, rI cols, .d (.int .i64 i)]
theorem shut_spec (ts : List Tok) (cols : List Int) (i : Nat) (depth : Nat) (hi : i < ts.length) : PCall C1 43 [.c (.rp (pb ts cols i)), yd (.int .i64 depth)] fun y => y = yd (.bool (decide ((pl ts i).1 < depth))) := by
  refine Pf (by rfl) (by rfl) fn43 (by rfl) ?_
  simp only [Try.f43, List.length_cons, List.length_nil, List.replicate, List.cons_append, List.nil_append]
  simp only [pb]
  simp -implicitDefEqProofs only [↓yP, yT, Nat.reduceAdd, Nat.reduceMul, Nat.reduceSub, Nat.reduceLeDiff, Nat.reduceEqDiff, reduceCtorEq, Nat.reduceBEq]
  refine Rd_calm (by rw [C1_P]; kernel_rfl) ?_
  simp -implicitDefEqProofs only [↓yP, yT, Nat.reduceAdd, Nat.reduceMul, Nat.reduceSub, Nat.reduceLeDiff, Nat.reduceEqDiff, reduceCtorEq, Nat.reduceBEq, plGet hi, leI_eq]
  congr 4
  rw [Bool.eq_iff_iff]
  simp
theorem tok_dry (l : List Tok) : dryEls (l.map Tok.pc) := fun cs hcs c hc => by
  obtain ⟨t, _, rfl⟩ := List.mem_map.mp hcs
  simp only [Tok.pc, List.mem_cons, List.not_mem_nil, or_false] at hc
  rcases hc with h | h | h | h | h | h | h | h | h | h | h | h | h <;> exact ⟨_, h⟩
theorem clone_spec (ts : List Tok) (cols : List Int) (i : Nat) (a b : Nat) (hab : a ≤ b) (hb : b ≤ ts.length) (hl : ts.length ≤ 1000000) : PCallF C1 55 [.c (.rp (pb ts cols i)), yd (.int .i64 a), yd (.int .i64 b)] fun y => y = .c (.p (rT ((ts.drop a).take (b - a)))) := by
  refine PfF (by rfl) (by rfl) fn55 (by rfl) ?_
  simp only [Try.f55, List.length_cons, List.length_nil, List.replicate, List.cons_append, List.nil_append, pb]
  have h1 : ((a : Nat) : Int) ≤ ((b : Nat) : Int) := by omega
  have h2 : ((b : Nat) : Int) ≤ ((ts.length : Nat) : Int) := by omega
  have h3 : min (b - a) (ts.length - a) = b - a := by omega
  have h4 : (b - a) * 128 ≤ 70368744177664 := by omega
  simp -implicitDefEqProofs only [↓yP, yT, Nat.reduceAdd, Nat.reduceMul, Nat.reduceSub, Nat.reduceLeDiff, Nat.reduceEqDiff, reduceCtorEq, Nat.reduceBEq, h1, h2, List.length_take, List.length_drop, h3, h4]
  refine ⟨0, 13, 0, b - a, ((ts.drop a).take (b - a)).map Tok.pc, rfl, ?_, tok_dry _, rfl⟩
  simp only [nth_zero]
  rw [if_pos (by simp; omega)]
  simp [List.map_take, List.map_drop, List.take_take]
theorem colon_spec (ts : List Tok) (cols : List Int) (i from_ : Nat) (hc : Rising cols) (hl : cols.length ≤ 1000000) : PCall C1 56 [.c (.rp (pb ts cols i)), yd (.int .i64 from_)] fun y =>
    ∃ (k : Nat) (c : Int) (b : Bool), y = .tup [yd (.int .i64 c), yd (.bool b)] ∧ Stands cols from_ k ∧ (b = true ↔ ∃ a, cols[k]? = some a ∧ a < i) ∧ (b = true → cols[k]? = some c) := by
  refine Pf (by rfl) (by rfl) fn56 (by rfl) ?_
  simp only [Try.f56, List.length_cons, List.length_nil, List.replicate, List.cons_append, List.nil_append]
  simp only [pb]
  simp -implicitDefEqProofs only [↓yP, yT, Nat.reduceAdd, Nat.reduceMul, Nat.reduceSub, Nat.reduceLeDiff, Nat.reduceEqDiff, reduceCtorEq, Nat.reduceBEq]
  refine Rcall_pure (search_spec cols from_ hl hc) (by rfl) fun y hy => ?_
  obtain ⟨k, b, rfl, hk, hb⟩ := hy
  have hkl := hk.1
  simp -implicitDefEqProofs only [↓yP, yT, Nat.reduceAdd, Nat.reduceMul, Nat.reduceSub, Nat.reduceLeDiff, Nat.reduceEqDiff, reduceCtorEq, Nat.reduceBEq]
  refine Rd_calm (by rw [C1_P]; kernel_rfl) ?_
  by_cases hkk : k < cols.length
  · obtain ⟨a, ha⟩ := get_lt hkk
    have t1 : leI (cols.length : Nat) (k : Nat) = false := leI_false (by omega)
    by_cases hai : a < i
    · have t2 : leI ((i : Nat) : Int) a = false := leI_false (by omega)
      simp -implicitDefEqProofs only [↓yP, yT, Nat.reduceAdd, Nat.reduceMul, Nat.reduceSub, Nat.reduceLeDiff, Nat.reduceEqDiff, reduceCtorEq, Nat.reduceBEq, t1, t2, get_map ha, ei]
      exact ⟨k, a, true, rfl, hk, by simp [ha, hai], fun _ => ha⟩
    · have t2 : leI ((i : Nat) : Int) a = true := leI_true (by omega)
      simp -implicitDefEqProofs only [↓yP, yT, Nat.reduceAdd, Nat.reduceMul, Nat.reduceSub, Nat.reduceLeDiff, Nat.reduceEqDiff, reduceCtorEq, Nat.reduceBEq, t1, t2, get_map ha, ei]
      exact ⟨k, 0, false, rfl, hk, by simp [ha, hai], fun h => by cases h⟩
  · have t1 : leI (cols.length : Nat) (k : Nat) = true := leI_true (by omega)
    simp -implicitDefEqProofs only [↓yP, yT, Nat.reduceAdd, Nat.reduceMul, Nat.reduceSub, Nat.reduceLeDiff, Nat.reduceEqDiff, reduceCtorEq, Nat.reduceBEq, t1]
    exact ⟨k, 0, false, rfl, hk, by simp; intro a ha; have := lt_of_some ha; omega, fun h => by cases h⟩
/-- The document's tokens: a list of its own. -/
theorem tokens_spec (ts : List Tok) (hl : ts.length ≤ 1000000) : PCallF C1 58 [.c (.p (rT ts))] fun y => y = .c (.p (rT ts)) := by
  refine PfF (by rfl) (by rfl) fn58 (by rfl) ?_
  simp only [Try.f58, List.length_cons, List.length_nil, List.replicate, List.cons_append, List.nil_append, pb]
  have h4 : ts.length * 128 ≤ 70368744177664 := by omega
  simp -implicitDefEqProofs only [↓yP, yT, Nat.reduceAdd, Nat.reduceMul, Nat.reduceSub, Nat.reduceLeDiff, Nat.reduceEqDiff, reduceCtorEq, Nat.reduceBEq, h4]
  refine ⟨0, 13, 0, ts.length, ts.map Tok.pc, rfl, ?_, tok_dry _, rfl⟩
  simp only [nth_zero]
  rw [if_pos (by simp)]
  simp [take_map_len]
end Go.Vx.Seat
end
/- Nodes, and what the program's parser makes of tokens. -/
section
open Go Go.Vx Go.Proofs
set_option linter.unusedSimpArgs false
set_option linter.unusedVariables false
set_option maxRecDepth 10000
set_option maxHeartbeats 4000000
namespace Go.Vx.Seat
attribute [local congr] Rg_at Rt_at Ro_at Ri_at Rc_at Rto_at Rtk_at Rtf_at Rti_at
attribute [local irreducible] Rg Rt Ro Ri Rc Rto Rtk Rtf Rti Rw Rl Rd Rcall Rtcall kf
theorem fn54 : nth C1.P.funcs.toList 54 = some Try.f54 := by kernel_rfl
theorem fn44 : nth C1.P.funcs.toList 44 = some Try.f44 := by kernel_rfl
theorem fn27 : nth C1.P.funcs.toList 27 = some Try.f27 := by kernel_rfl
/-- A node. -/
inductive Nd where
  | mk (kind : Int) (head tail : List Tok) (kids : List Nd) (opn shut semi : Bool) (at_ last : Int)
mutual
def Nd.pc : Nd → List PC
  | .mk k h t ks o s m a l => [.d (.int .i64 k), .row 13 (h.map Tok.pc), .row 13 (t.map Tok.pc), .row 9 (Nd.pcs ks), .d (.bool o), .d (.bool s), .d (.bool m), .d (.int .i64 a), .d (.int .i64 l)]
def Nd.pcs : List Nd → List (List PC)
  | [] => []
  | n :: ns => n.pc :: Nd.pcs ns
end
theorem pcs_map : ∀ ns : List Nd, Nd.pcs ns = ns.map Nd.pc
  | [] => by rw [Nd.pcs]; rfl
  | n :: ns => by rw [Nd.pcs, pcs_map ns]; rfl
theorem pc_mk (k : Int) (h t : List Tok) (ks : List Nd) (o s m : Bool) (a l : Int) : Nd.pc (.mk k h t ks o s m a l) = [.d (.int .i64 k), .row 13 (h.map Tok.pc), .row 13 (t.map Tok.pc), .row 9 (ks.map Nd.pc), .d (.bool o), .d (.bool s), .d (.bool m), .d (.int .i64 a), .d (.int .i64 l)] := by
  rw [Nd.pc, pcs_map]
def Nd.cs (n : Nd) : List Ce := n.pc.map .p
abbrev rN (ns : List Nd) : PC := .row 9 (ns.map Nd.pc)
def startAt (ts : List Tok) (i : Nat) : Int := match ts[i]? with | some t => t.start | none => 0
theorem startAt_some {ts : List Tok} {i : Nat} {t : Tok} (h : ts[i]? = some t) : startAt ts i = t.start := by rw [startAt, h]
def slice (ts : List Tok) (a b : Nat) : List Tok := (ts.drop a).take (b - a)
/-- Where a node's own tokens end. -/
def scanP (ts : List Tok) (depth : Nat) : Nat → Nat → Nat
  | 0, k => k
  | d + 1, k => if (pl ts k).1 < depth then k else if (pl ts k).1 ≤ depth ∧ (kindAt ts k = 19 ∨ kindAt ts k = 17) then k else scanP ts depth d (k + 1)
theorem scanP_le (ts : List Tok) (depth : Nat) : ∀ d k, k ≤ scanP ts depth d k ∧ scanP ts depth d k ≤ k + d
  | 0, k => by simp [scanP]
  | d + 1, k => by
    have := scanP_le ts depth d (k + 1)
    unfold scanP
    split
    · omega
    · split
      · omega
      · omega
/-- The colon of a declaration. -/
def colonAt (cols : List Int) (a b : Nat) : Option Nat := match cols.find? (fun c => decide ((a : Int) ≤ c)) with
  | some c => if c < b then some c.toNat else none
  | none => none
/-- Is there a token at the level of a block? -/
def open_ (ts : List Tok) (depth k : Nat) : Bool := decide (k < ts.length) && !decide ((pl ts k).1 < depth)
/-- A node without a block. -/
def leafP (ts : List Tok) (cols : List Int) (depth i k : Nat) : Nd × Nat :=
  let semi := open_ ts depth k
  (match colonAt cols i k with
  | some c => .mk 2 (slice ts i c) (slice ts (c + 1) k) [] false false semi (startAt ts c) (if semi then startAt ts k else 0)
  | none => .mk 3 (slice ts i k) [] [] false false semi 0 (if semi then startAt ts k else 0), if semi then k + 1 else k)
/-- A rule: 'rec' reads the nodes of its block. -/
def ruleP (ts : List Tok) (rec : Nat → Nat → List Nd × Nat) (i k depth : Nat) : Nd × Nat :=
  let r := rec (k + 1) (depth + 1)
  (.mk 1 (slice ts i k) [] r.1 true (decide (r.2 < ts.length)) false (startAt ts k) (if r.2 < ts.length then startAt ts r.2 else 0), if r.2 < ts.length then r.2 + 1 else r.2)
def nodeP (ts : List Tok) (cols : List Int) (rec : Nat → Nat → List Nd × Nat) (i depth : Nat) : Nd × Nat :=
  let k := scanP ts depth (ts.length - i) i
  if open_ ts depth k = true ∧ kindAt ts k = 19 then ruleP ts rec i k depth else leafP ts cols depth i k
def nodesP (ts : List Tok) (cols : List Int) : Nat → Nat → Nat → List Nd × Nat
  | 0, i, _ => ([], i)
  | n + 1, i, depth => if open_ ts depth i = true then
      let x := nodeP ts cols (nodesP ts cols n) i depth
      let r := nodesP ts cols n x.2 depth
      (x.1 :: r.1, r.2)
    else ([], i)
def pbC (ts : List Tok) (cols : List Int) (i : Nat) : List Ce := [.p (rT ts), .p (rP ts), .p (rI cols), .p (.d (.int .i64 i))]

def NodesSpec (ts : List Tok) (cols : List Int) (n : Nat) : Prop := ∀ i depth, depth ≤ i → i ≤ ts.length → ts.length - i ≤ n →
  YC C1 false 27 [.c (.ptr 0 0 0 0), yd (.int .i64 depth)] [.box (pbC ts cols i)] fun y s => y = .c (.p (rN (nodesP ts cols n i depth).1)) ∧ s = [.box (pbC ts cols (nodesP ts cols n i depth).2)]
def In (ts : List Tok) (rec : Nat → Nat → List Nd × Nat) : Prop := ∀ i depth, i ≤ ts.length → i ≤ (rec i depth).2 ∧ (rec i depth).2 ≤ ts.length

theorem rule_spec (ts : List Tok) (cols : List Int) (n : Nat) (hl : ts.length ≤ 1000000) (hn : NodesSpec ts cols n) (hin : In ts (nodesP ts cols n)) (i k depth : Nat) (hik : i ≤ k) (hk : k < ts.length) (hdk : depth ≤ k) (hf : ts.length - (k + 1) ≤ n) :
    YC C1 false 54 [.c (.ptr 0 0 0 0), yd (.int .i64 i), yd (.int .i64 depth)] [.box (pbC ts cols k)] fun y s => y = .agg (ruleP ts (nodesP ts cols n) i k depth).1.cs ∧ s = [.box (pbC ts cols (ruleP ts (nodesP ts cols n) i k depth).2)] := by
  obtain ⟨t, ht⟩ := get_lt hk
  have hst := startAt_some ht
  have w1 : wrapK .i64 ((k : Int) + 1) = ((k + 1 : Nat) : Int) := wrap_succ (by omega)
  have w2 : wrapK .i64 ((depth : Int) + 1) = ((depth + 1 : Nat) : Int) := wrap_succ (by omega)
  refine Yf0 [0, 13, 13, 9, 0, 0, 0, 0, 0] (by rfl) (by rfl) fn54 (by rfl) ?_
  simp only [Try.f54, List.length_cons, List.length_nil, List.replicate, List.cons_append, List.nil_append, pbC]
  simp -implicitDefEqProofs only [↓yP, yT, Nat.reduceAdd, Nat.reduceMul, Nat.reduceSub, Nat.reduceLeDiff, Nat.reduceEqDiff, reduceCtorEq, Nat.reduceBEq]
  refine Rd_trace ?_
  simp -implicitDefEqProofs only [↓yP, yT, Nat.reduceAdd, Nat.reduceMul, Nat.reduceSub, Nat.reduceLeDiff, Nat.reduceEqDiff, reduceCtorEq, Nat.reduceBEq]
  refine Rtcall_lendF rfl (clone_spec ts cols k i k hik (by omega) hl) (by rfl) fun y hy => ?_
  subst hy
  simp -implicitDefEqProofs only [↓yP, yT, Nat.reduceAdd, Nat.reduceMul, Nat.reduceSub, Nat.reduceLeDiff, Nat.reduceEqDiff, reduceCtorEq, Nat.reduceBEq, get_map ht, Tok.pc, w1, w2]
  refine Rcall_hand 1 [.box (pbC ts cols (k + 1))] rfl (hn (k + 1) (depth + 1) (by omega) (by omega) hf) (by simp) rfl (by rfl) fun y s' hy => ?_
  obtain ⟨rfl, rfl⟩ := hy
  refine ⟨rfl, ?_⟩
  obtain ⟨hj1, hj2⟩ := hin (k + 1) (depth + 1) (by omega)
  generalize hr : nodesP ts cols n (k + 1) (depth + 1) = r at hj1 hj2
  obtain ⟨kids, j⟩ := r
  simp only at hj1 hj2
  simp only [pbC]
  simp -implicitDefEqProofs only [↓yP, yT, Nat.reduceAdd, Nat.reduceMul, Nat.reduceSub, Nat.reduceLeDiff, Nat.reduceEqDiff, reduceCtorEq, Nat.reduceBEq]
  refine Rd_calm (by rw [C1_P]; kernel_rfl) ?_
  by_cases hj : j < ts.length
  · obtain ⟨u, hu⟩ := get_lt hj
    have hsu := startAt_some hu
    have t1 : leI (ts.length : Nat) (j : Nat) = false := leI_false (by omega)
    have w3 : wrapK .i64 ((j : Int) + 1) = ((j + 1 : Nat) : Int) := wrap_succ (by omega)
    simp -implicitDefEqProofs only [↓yP, yT, Nat.reduceAdd, Nat.reduceMul, Nat.reduceSub, Nat.reduceLeDiff, Nat.reduceEqDiff, reduceCtorEq, Nat.reduceBEq, t1]
    refine Rd_trace ?_
    simp -implicitDefEqProofs only [↓yP, yT, Nat.reduceAdd, Nat.reduceMul, Nat.reduceSub, Nat.reduceLeDiff, Nat.reduceEqDiff, reduceCtorEq, Nat.reduceBEq, get_map hu, Tok.pc, w3]
    refine ⟨[0], by decide, pinned_one _, ?_, ?_⟩
    · simp only [ruleP, hr, if_pos hj, hst, hsu, Nd.cs, pc_mk, List.map_cons, List.map_nil, decide_eq_true hj]
      rfl
    · simp only [ruleP, hr, if_pos hj]
      rfl
  · have t1 : leI (ts.length : Nat) (j : Nat) = true := leI_true (by omega)
    simp -implicitDefEqProofs only [↓yP, yT, Nat.reduceAdd, Nat.reduceMul, Nat.reduceSub, Nat.reduceLeDiff, Nat.reduceEqDiff, reduceCtorEq, Nat.reduceBEq, t1]
    refine ⟨[0], by decide, pinned_one _, ?_, ?_⟩
    · simp only [ruleP, hr, if_neg hj, hst, Nd.cs, pc_mk, List.map_cons, List.map_nil, decide_eq_false hj]
      rfl
    · simp only [ruleP, hr, if_neg hj]
      rfl
end Go.Vx.Seat
end
/- The program's node. -/
section
open Go Go.Vx Go.Proofs
set_option linter.unusedSimpArgs false
set_option linter.unusedVariables false
set_option maxRecDepth 10000
set_option maxHeartbeats 8000000
namespace Go.Vx.Seat
attribute [local congr] Rg_at Rt_at Ro_at Ri_at Rc_at Rto_at Rtk_at Rtf_at Rti_at
attribute [local irreducible] Rg Rt Ro Ri Rc Rto Rtk Rtf Rti Rw Rl Rd Rcall Rtcall kf
/-- The colons are a rising list of places. -/
structure ColsOk (ts : List Tok) (cols : List Int) : Prop where
  rise : Rising cols
  len : cols.length ≤ 1000000
  place : ∀ c, c ∈ cols → ∃ k : Nat, c = (k : Int) ∧ k < ts.length
theorem find_stands {l : List Int} {n : Int} : ∀ {k : Nat}, Stands l n k → l.find? (fun c => decide (n ≤ c)) = l[k]? := by
  induction l with
  | nil => intro k _; rfl
  | cons a l ih =>
    intro k ⟨h1, h2, h3⟩
    cases k with
    | zero =>
      have := h3 0 a (Nat.le_refl _) rfl
      simp [this]
    | succ k =>
      have h4 := h2 0 a (by omega) rfl
      rw [List.find?_cons_of_neg (by simp; omega), List.getElem?_cons_succ]
      refine ih ⟨by simpa using h1, fun j b hj hb => h2 (j + 1) b (by omega) (by simpa using hb), fun j b hj hb => h3 (j + 1) b (by omega) (by simpa using hb)⟩

theorem node_spec (ts : List Tok) (cols : List Int) (n : Nat) (hl : ts.length ≤ 1000000) (hc : ColsOk ts cols) (hn : NodesSpec ts cols n) (hin : In ts (nodesP ts cols n)) (i depth : Nat) (hi : i < ts.length) (hdi : depth ≤ i) (hf : ts.length - (i + 1) ≤ n) :
    YC C1 false 44 [.c (.ptr 0 0 0 0), yd (.int .i64 depth)] [.box (pbC ts cols i)] fun y s => y = .agg (nodeP ts cols (nodesP ts cols n) i depth).1.cs ∧ s = [.box (pbC ts cols (nodeP ts cols (nodesP ts cols n) i depth).2)] := by
  refine Yf0 [0, 13, 13, 9, 0, 0, 0, 0, 0] (by rfl) (by rfl) fn44 (by rfl) ?_
  simp only [Try.f44, List.length_cons, List.length_nil, List.replicate, List.cons_append, List.nil_append, pbC]
  simp -implicitDefEqProofs only [↓yP, yT, Nat.reduceAdd, Nat.reduceMul, Nat.reduceSub, Nat.reduceLeDiff, Nat.reduceEqDiff, reduceCtorEq, Nat.reduceBEq]
  refine Rl_inv (fun d e s => ∃ k : Nat, e = [.c (.ptr 0 0 0 0), yd (.int .i64 depth), .c .top, .c .top, .c (.ptr 1 0 0 0), yd (.int .i64 i), .c .top, .c .top, .c .top, .c .top, .c .top, .c .top, .c .top, .c .top, .c .top, .c .top, .c .top, .c .top, .c .top, .c .top, .c .top, .c .top, .c .top, .c .top, .c .top, .c .top, .c .top, .c .top, .c .top, .c .top, .c .top, .c .top, .c .top, .c .top, .c .top, .c .top, .c .top, .c .top, .c .top, .c .top, .c .top, .c .top, .c .top, .c .top, .c .top, .c .top, .c .top, .c .top, .c .top, .c .top, .c .top, .c .top, .c .top, .c .top, .c .top, .c .top, .c .top, .c .top, .c .top, .c .top, .c .top, .c .top, .c .top, .c .top, .c .top, .c .top, .c .top, .c .top, .c .top, .c .top, .c .top, .c .top, .c .top, .c .top, .c .top, .c .top, .c .top, .c .top, .c .top, .c .top, .c .top, .c .top, .c .top, .c .top, .c .top, .c .top, .c .top, .c .top, .c .top, .c .top, .c .top, .c .top, .c .top, .c .top, .c .top, .c .top, .c .top, .c .top, .c .top, .c .top, .c .top, .c .top, .c .top, .c .top, .c .top, .c .top, .c .top, .c .top, .c .top, .c .top, .c .top, .c .top, .c .top, .c .top, .c .top, .c .top, .c .top, .c .top, .c .top, .c .top, .c .top, .c .top, .c .top, .c .top, .c .top, .c .top, .c .top, .c .top, .c .top, .c .top, .c .top, .c .top, .c .top, .c .top, .c .top, .c .top, .c .top, .c .top, .c .top, .c .top, .c .top, .c .top, .c .top, .c .top, .c .top, .c .top, .c .top, .c .top] ∧ s = [.box (pbC ts cols k), .box (pds [.int .i64 0, .slice none 0 0, .slice none 0 0, .slice none 0 0, .bool false, .bool false, .bool false, .int .i64 0, .int .i64 0])] ∧ k + d = ts.length ∧ i ≤ k ∧ scanP ts depth d k = scanP ts depth (ts.length - i) i)
    [true, true, false, false, true, true] (ts.length - i) [0, 1] (by decide) (pinned_one _) ⟨i, by simp only [yE, Nat.reduceEqDiff, Nat.reduceAdd, reduceCtorEq], by simp only [yE, Nat.reduceEqDiff, Nat.reduceAdd, reduceCtorEq]; rfl, by omega, by omega, rfl⟩ ?_
  rintro d e s ⟨k, rfl, rfl, hd, hik, hscan⟩
  simp only [pbC, pds, List.map_cons, List.map_nil]
  by_cases hk : k < ts.length
  · obtain ⟨t, ht⟩ := get_lt hk
    have hkk := kindAt_some ht
    have t1 : leI (ts.length : Nat) (k : Nat) = false := leI_false (by omega)
    have w1 : wrapK .i64 ((k : Int) + 1) = ((k + 1 : Nat) : Int) := wrap_succ (by omega)
    have hd1 : d = (d - 1) + 1 := by omega
    simp -implicitDefEqProofs only [↓yP, yT, Nat.reduceAdd, Nat.reduceMul, Nat.reduceSub, Nat.reduceLeDiff, Nat.reduceEqDiff, reduceCtorEq, Nat.reduceBEq]
    refine Rd_calm (by rw [C1_P]; kernel_rfl) ?_
    simp -implicitDefEqProofs only [↓yP, yT, Nat.reduceAdd, Nat.reduceMul, Nat.reduceSub, Nat.reduceLeDiff, Nat.reduceEqDiff, reduceCtorEq, Nat.reduceBEq, t1]
    refine Rcall_lend rfl (shut_spec ts cols k depth hk) (by rfl) fun y hy => ⟨by rw [hy]; rfl, ?_⟩
    subst hy
    by_cases hsh : (pl ts k).1 < depth
    · have hop : open_ ts depth k = false := by simp [open_, hsh]
      have hsc : scanP ts depth (ts.length - i) i = k := by rw [← hscan, hd1, scanP, if_pos hsh]
      have hnode : nodeP ts cols (nodesP ts cols n) i depth = leafP ts cols depth i k := by
        simp only [nodeP, hsc, hop]; rw [if_neg (by simp)]
      simp -implicitDefEqProofs only [↓yP, yT, Nat.reduceAdd, Nat.reduceMul, Nat.reduceSub, Nat.reduceLeDiff, Nat.reduceEqDiff, reduceCtorEq, Nat.reduceBEq, decide_eq_true hsh]
      refine Rcall_lendF rfl (clone_spec ts cols k i k hik (by omega) hl) (by rfl) fun y hy => ?_
      subst hy
      simp -implicitDefEqProofs only [↓yP, yT, Nat.reduceAdd, Nat.reduceMul, Nat.reduceSub, Nat.reduceLeDiff, Nat.reduceEqDiff, reduceCtorEq, Nat.reduceBEq]
      refine Rcall_lend rfl (colon_spec ts cols k i hc.rise hc.len) (by rfl) fun y hy => ⟨by obtain ⟨_, _, _, rfl, _⟩ := hy; rfl, ?_⟩
      obtain ⟨p, c, b, rfl, hstd, hb, hbc⟩ := hy
      have hfind := find_stands hstd
      cases b with
      | true =>
        obtain ⟨a, ha, hak⟩ := hb.mp rfl
        have hca := hbc rfl
        rw [ha] at hca
        have hac : a = c := Option.some.inj hca
        subst hac
        have hia := hstd.2.2 p a (Nat.le_refl _) ha
        obtain ⟨cc, rfl, hcc⟩ := hc.place a (List.mem_of_getElem? ha)
        have hcol : colonAt cols i k = some cc := by rw [colonAt, hfind, ha]; simp only; rw [if_pos hak]; rfl
        obtain ⟨u, hu⟩ := get_lt hcc
        have hsu := startAt_some hu
        have w4 : wrapK .i64 ((cc : Int) + 1) = ((cc + 1 : Nat) : Int) := wrap_succ (by omega)
        simp -implicitDefEqProofs only [↓yP, yT, Nat.reduceAdd, Nat.reduceMul, Nat.reduceSub, Nat.reduceLeDiff, Nat.reduceEqDiff, reduceCtorEq, Nat.reduceBEq]
        refine Rd_calm (by rw [C1_P]; kernel_rfl) ?_
        simp -implicitDefEqProofs only [↓yP, yT, Nat.reduceAdd, Nat.reduceMul, Nat.reduceSub, Nat.reduceLeDiff, Nat.reduceEqDiff, reduceCtorEq, Nat.reduceBEq]
        refine Rcall_lendF rfl (clone_spec ts cols k i cc (by omega) (by omega) hl) (by rfl) fun y hy => ?_
        subst hy
        simp -implicitDefEqProofs only [↓yP, yT, Nat.reduceAdd, Nat.reduceMul, Nat.reduceSub, Nat.reduceLeDiff, Nat.reduceEqDiff, reduceCtorEq, Nat.reduceBEq, w4]
        refine Rcall_lendF rfl (clone_spec ts cols k (cc + 1) k (by omega) (by omega) hl) (by rfl) fun y hy => ?_
        subst hy
        simp -implicitDefEqProofs only [↓yP, yT, Nat.reduceAdd, Nat.reduceMul, Nat.reduceSub, Nat.reduceLeDiff, Nat.reduceEqDiff, reduceCtorEq, Nat.reduceBEq, get_map hu, Tok.pc]
        refine Rd_calm (by rw [C1_P]; kernel_rfl) ?_
        simp -implicitDefEqProofs only [↓yP, yT, Nat.reduceAdd, Nat.reduceMul, Nat.reduceSub, Nat.reduceLeDiff, Nat.reduceEqDiff, reduceCtorEq, Nat.reduceBEq, t1]
        refine Rcall_lend rfl (shut_spec ts cols k depth hk) (by rfl) fun y hy => ⟨by rw [hy]; rfl, ?_⟩
        subst hy
        simp -implicitDefEqProofs only [↓yP, yT, Nat.reduceAdd, Nat.reduceMul, Nat.reduceSub, Nat.reduceLeDiff, Nat.reduceEqDiff, reduceCtorEq, Nat.reduceBEq, decide_eq_true hsh]
        refine ⟨[0], by decide, pinned_one _, ?_, ?_⟩
        · simp only [hnode, leafP, hop, hcol, hsu, Bool.false_eq_true, if_false, Nd.cs, pc_mk, List.map_cons, List.map_nil]
          rfl
        · simp only [hnode, leafP, hop, hcol, Bool.false_eq_true, if_false]
          rfl
      | false =>
        have hcol : colonAt cols i k = none := by
          rw [colonAt, hfind]
          cases hq : cols[p]? with
          | none => rfl
          | some a =>
            simp only
            rw [if_neg fun ha => by have := hb.mpr ⟨a, hq, ha⟩; cases this]
        simp -implicitDefEqProofs only [↓yP, yT, Nat.reduceAdd, Nat.reduceMul, Nat.reduceSub, Nat.reduceLeDiff, Nat.reduceEqDiff, reduceCtorEq, Nat.reduceBEq]
        refine Rd_calm (by rw [C1_P]; kernel_rfl) ?_
        simp -implicitDefEqProofs only [↓yP, yT, Nat.reduceAdd, Nat.reduceMul, Nat.reduceSub, Nat.reduceLeDiff, Nat.reduceEqDiff, reduceCtorEq, Nat.reduceBEq, t1]
        refine Rcall_lend rfl (shut_spec ts cols k depth hk) (by rfl) fun y hy => ⟨by rw [hy]; rfl, ?_⟩
        subst hy
        simp -implicitDefEqProofs only [↓yP, yT, Nat.reduceAdd, Nat.reduceMul, Nat.reduceSub, Nat.reduceLeDiff, Nat.reduceEqDiff, reduceCtorEq, Nat.reduceBEq, decide_eq_true hsh]
        refine ⟨[0], by decide, pinned_one _, ?_, ?_⟩
        · simp only [hnode, leafP, hop, hcol, Bool.false_eq_true, if_false, Nd.cs, pc_mk, List.map_cons, List.map_nil]
          rfl
        · simp only [hnode, leafP, hop, hcol, Bool.false_eq_true, if_false]
          rfl
    · have hop : open_ ts depth k = true := by simp [open_, hsh, hk]
      have hst := startAt_some ht
      simp -implicitDefEqProofs only [↓yP, yT, Nat.reduceAdd, Nat.reduceMul, Nat.reduceSub, Nat.reduceLeDiff, Nat.reduceEqDiff, reduceCtorEq, Nat.reduceBEq, decide_eq_false hsh]
      refine Rd_calm (by rw [C1_P]; kernel_rfl) ?_
      simp -implicitDefEqProofs only [↓yP, yT, Nat.reduceAdd, Nat.reduceMul, Nat.reduceSub, Nat.reduceLeDiff, Nat.reduceEqDiff, reduceCtorEq, Nat.reduceBEq, get_map ht, Tok.pc]
      refine Rd_calm (by rw [C1_P]; kernel_rfl) ?_
      by_cases hdp : depth < (pl ts k).1
      · have t2 : leI ((pl ts k).1 : Nat) (depth : Nat) = false := leI_false (by omega)
        simp -implicitDefEqProofs only [↓yP, yT, Nat.reduceAdd, Nat.reduceMul, Nat.reduceSub, Nat.reduceLeDiff, Nat.reduceEqDiff, reduceCtorEq, Nat.reduceBEq, plGet hk, t2, w1]
        refine ⟨d - 1, [0, 1], by omega, by decide, pinned_one _, k + 1, ?_, ?_, by omega, by omega, ?_⟩
        · simp only [yE, Nat.reduceEqDiff, Nat.reduceAdd, reduceCtorEq]
        · simp only [yE, Nat.reduceEqDiff, Nat.reduceAdd, reduceCtorEq, pbC, pds]
        · rw [← hscan, hd1, scanP, if_neg hsh, if_neg (by omega)]; rfl
      have t2 : leI ((pl ts k).1 : Nat) (depth : Nat) = true := leI_true (by omega)
      by_cases q1 : t.kind = 19
      · have f1 : eqI t.kind 19 = true := by rw [q1]; rfl
        have hsc : scanP ts depth (ts.length - i) i = k := by rw [← hscan, hd1, scanP, if_neg hsh, if_pos ⟨by omega, .inl (by rw [hkk]; exact q1)⟩]
        have hnode : nodeP ts cols (nodesP ts cols n) i depth = ruleP ts (nodesP ts cols n) i k depth := by
          simp only [nodeP, hsc, hop]; rw [if_pos (by simp [hkk, q1])]
        have hrule := rule_spec ts cols n hl hn hin i k depth hik hk (by omega) (by omega)
        rw [← hnode] at hrule
        simp -implicitDefEqProofs only [↓yP, yT, Nat.reduceAdd, Nat.reduceMul, Nat.reduceSub, Nat.reduceLeDiff, Nat.reduceEqDiff, reduceCtorEq, Nat.reduceBEq, plGet hk, t2, f1]
        refine Rcall_hand 1 [.box (pbC ts cols k)] rfl hrule (by simp) rfl (by rfl) fun y s' hy => ?_
        obtain ⟨rfl, rfl⟩ := hy
        refine ⟨rfl, ?_⟩
        generalize hr : nodeP ts cols (nodesP ts cols n) i depth = r
        obtain ⟨⟨k0, h0, t0, ks0, o0, s0, m0, a0, l0⟩, j⟩ := r
        simp only [pbC, Nd.cs, pc_mk, List.map_cons, List.map_nil]
        simp -implicitDefEqProofs only [↓yP, yT, Nat.reduceAdd, Nat.reduceMul, Nat.reduceSub, Nat.reduceLeDiff, Nat.reduceEqDiff, reduceCtorEq, Nat.reduceBEq]
        refine ⟨[0], by decide, pinned_one _, ?_, ?_⟩
        · rfl
        · rfl
      have f1 : eqI t.kind 19 = false := eqI_false q1
      by_cases q2 : t.kind = 17
      · have f2 : eqI t.kind 17 = true := by rw [q2]; rfl
        have hsc : scanP ts depth (ts.length - i) i = k := by rw [← hscan, hd1, scanP, if_neg hsh, if_pos ⟨by omega, .inr (by rw [hkk]; exact q2)⟩]
        have hnode : nodeP ts cols (nodesP ts cols n) i depth = leafP ts cols depth i k := by
          simp only [nodeP, hsc, hop]; rw [if_neg (by rw [hkk]; simp [q1])]
        simp -implicitDefEqProofs only [↓yP, yT, Nat.reduceAdd, Nat.reduceMul, Nat.reduceSub, Nat.reduceLeDiff, Nat.reduceEqDiff, reduceCtorEq, Nat.reduceBEq, plGet hk, t2, f1, f2]
        refine Rcall_lendF rfl (clone_spec ts cols k i k hik (by omega) hl) (by rfl) fun y hy => ?_
        subst hy
        simp -implicitDefEqProofs only [↓yP, yT, Nat.reduceAdd, Nat.reduceMul, Nat.reduceSub, Nat.reduceLeDiff, Nat.reduceEqDiff, reduceCtorEq, Nat.reduceBEq]
        refine Rcall_lend rfl (colon_spec ts cols k i hc.rise hc.len) (by rfl) fun y hy => ⟨by obtain ⟨_, _, _, rfl, _⟩ := hy; rfl, ?_⟩
        obtain ⟨p, c, b, rfl, hstd, hb, hbc⟩ := hy
        have hfind := find_stands hstd
        cases b with
        | true =>
          obtain ⟨a, ha, hak⟩ := hb.mp rfl
          have hca := hbc rfl
          rw [ha] at hca
          have hac : a = c := Option.some.inj hca
          subst hac
          have hia := hstd.2.2 p a (Nat.le_refl _) ha
          obtain ⟨cc, rfl, hcc⟩ := hc.place a (List.mem_of_getElem? ha)
          have hcol : colonAt cols i k = some cc := by rw [colonAt, hfind, ha]; simp only; rw [if_pos hak]; rfl
          obtain ⟨u, hu⟩ := get_lt hcc
          have hsu := startAt_some hu
          have w4 : wrapK .i64 ((cc : Int) + 1) = ((cc + 1 : Nat) : Int) := wrap_succ (by omega)
          simp -implicitDefEqProofs only [↓yP, yT, Nat.reduceAdd, Nat.reduceMul, Nat.reduceSub, Nat.reduceLeDiff, Nat.reduceEqDiff, reduceCtorEq, Nat.reduceBEq]
          refine Rd_calm (by rw [C1_P]; kernel_rfl) ?_
          simp -implicitDefEqProofs only [↓yP, yT, Nat.reduceAdd, Nat.reduceMul, Nat.reduceSub, Nat.reduceLeDiff, Nat.reduceEqDiff, reduceCtorEq, Nat.reduceBEq]
          refine Rcall_lendF rfl (clone_spec ts cols k i cc (by omega) (by omega) hl) (by rfl) fun y hy => ?_
          subst hy
          simp -implicitDefEqProofs only [↓yP, yT, Nat.reduceAdd, Nat.reduceMul, Nat.reduceSub, Nat.reduceLeDiff, Nat.reduceEqDiff, reduceCtorEq, Nat.reduceBEq, w4]
          refine Rcall_lendF rfl (clone_spec ts cols k (cc + 1) k (by omega) (by omega) hl) (by rfl) fun y hy => ?_
          subst hy
          simp -implicitDefEqProofs only [↓yP, yT, Nat.reduceAdd, Nat.reduceMul, Nat.reduceSub, Nat.reduceLeDiff, Nat.reduceEqDiff, reduceCtorEq, Nat.reduceBEq, get_map hu, Tok.pc]
          refine Rd_calm (by rw [C1_P]; kernel_rfl) ?_
          simp -implicitDefEqProofs only [↓yP, yT, Nat.reduceAdd, Nat.reduceMul, Nat.reduceSub, Nat.reduceLeDiff, Nat.reduceEqDiff, reduceCtorEq, Nat.reduceBEq, t1]
          refine Rcall_lend rfl (shut_spec ts cols k depth hk) (by rfl) fun y hy => ⟨by rw [hy]; rfl, ?_⟩
          subst hy
          simp -implicitDefEqProofs only [↓yP, yT, Nat.reduceAdd, Nat.reduceMul, Nat.reduceSub, Nat.reduceLeDiff, Nat.reduceEqDiff, reduceCtorEq, Nat.reduceBEq, decide_eq_false hsh]
          refine Rd_trace ?_
          simp -implicitDefEqProofs only [↓yP, yT, Nat.reduceAdd, Nat.reduceMul, Nat.reduceSub, Nat.reduceLeDiff, Nat.reduceEqDiff, reduceCtorEq, Nat.reduceBEq, get_map ht, Tok.pc, w1]
          refine ⟨[0], by decide, pinned_one _, ?_, ?_⟩
          · simp only [hnode, leafP, hop, hcol, hsu, hst, if_true, Nd.cs, pc_mk, List.map_cons, List.map_nil]
            rfl
          · simp only [hnode, leafP, hop, hcol, if_true]
            rfl
        | false =>
          have hcol : colonAt cols i k = none := by
            rw [colonAt, hfind]
            cases hq : cols[p]? with
            | none => rfl
            | some a =>
              simp only
              rw [if_neg fun ha => by have := hb.mpr ⟨a, hq, ha⟩; cases this]
          simp -implicitDefEqProofs only [↓yP, yT, Nat.reduceAdd, Nat.reduceMul, Nat.reduceSub, Nat.reduceLeDiff, Nat.reduceEqDiff, reduceCtorEq, Nat.reduceBEq]
          refine Rd_calm (by rw [C1_P]; kernel_rfl) ?_
          simp -implicitDefEqProofs only [↓yP, yT, Nat.reduceAdd, Nat.reduceMul, Nat.reduceSub, Nat.reduceLeDiff, Nat.reduceEqDiff, reduceCtorEq, Nat.reduceBEq, t1]
          refine Rcall_lend rfl (shut_spec ts cols k depth hk) (by rfl) fun y hy => ⟨by rw [hy]; rfl, ?_⟩
          subst hy
          simp -implicitDefEqProofs only [↓yP, yT, Nat.reduceAdd, Nat.reduceMul, Nat.reduceSub, Nat.reduceLeDiff, Nat.reduceEqDiff, reduceCtorEq, Nat.reduceBEq, decide_eq_false hsh]
          refine Rd_trace ?_
          simp -implicitDefEqProofs only [↓yP, yT, Nat.reduceAdd, Nat.reduceMul, Nat.reduceSub, Nat.reduceLeDiff, Nat.reduceEqDiff, reduceCtorEq, Nat.reduceBEq, get_map ht, Tok.pc, w1]
          refine ⟨[0], by decide, pinned_one _, ?_, ?_⟩
          · simp only [hnode, leafP, hop, hcol, hst, if_true, Nd.cs, pc_mk, List.map_cons, List.map_nil]
            rfl
          · simp only [hnode, leafP, hop, hcol, if_true]
            rfl
      · have f2 : eqI t.kind 17 = false := eqI_false q2
        simp -implicitDefEqProofs only [↓yP, yT, Nat.reduceAdd, Nat.reduceMul, Nat.reduceSub, Nat.reduceLeDiff, Nat.reduceEqDiff, reduceCtorEq, Nat.reduceBEq, plGet hk, t2, f1, f2, w1]
        refine ⟨d - 1, [0, 1], by omega, by decide, pinned_one _, k + 1, ?_, ?_, by omega, by omega, ?_⟩
        · simp only [yE, Nat.reduceEqDiff, Nat.reduceAdd, reduceCtorEq]
        · simp only [yE, Nat.reduceEqDiff, Nat.reduceAdd, reduceCtorEq, pbC, pds]
        · rw [← hscan, hd1, scanP, if_neg hsh, if_neg (by rw [hkk]; simp [q1, q2])]; rfl
  · have t1 : leI (ts.length : Nat) (k : Nat) = true := leI_true (by omega)
    have hd0 : d = 0 := by omega
    have hsc : scanP ts depth (ts.length - i) i = k := by rw [← hscan, hd0, scanP]
    have hop : open_ ts depth k = false := by simp [open_, hk]
    have hnode : nodeP ts cols (nodesP ts cols n) i depth = leafP ts cols depth i k := by
      simp only [nodeP, hsc, hop]; rw [if_neg (by simp)]
    simp -implicitDefEqProofs only [↓yP, yT, Nat.reduceAdd, Nat.reduceMul, Nat.reduceSub, Nat.reduceLeDiff, Nat.reduceEqDiff, reduceCtorEq, Nat.reduceBEq]
    refine Rd_calm (by rw [C1_P]; kernel_rfl) ?_
    simp -implicitDefEqProofs only [↓yP, yT, Nat.reduceAdd, Nat.reduceMul, Nat.reduceSub, Nat.reduceLeDiff, Nat.reduceEqDiff, reduceCtorEq, Nat.reduceBEq, t1]
    refine Rcall_lendF rfl (clone_spec ts cols k i k hik (by omega) hl) (by rfl) fun y hy => ?_
    subst hy
    simp -implicitDefEqProofs only [↓yP, yT, Nat.reduceAdd, Nat.reduceMul, Nat.reduceSub, Nat.reduceLeDiff, Nat.reduceEqDiff, reduceCtorEq, Nat.reduceBEq]
    refine Rcall_lend rfl (colon_spec ts cols k i hc.rise hc.len) (by rfl) fun y hy => ⟨by obtain ⟨_, _, _, rfl, _⟩ := hy; rfl, ?_⟩
    obtain ⟨p, c, b, rfl, hstd, hb, hbc⟩ := hy
    have hfind := find_stands hstd
    cases b with
    | true =>
      obtain ⟨a, ha, hak⟩ := hb.mp rfl
      have hca := hbc rfl
      rw [ha] at hca
      have hac : a = c := Option.some.inj hca
      subst hac
      have hia := hstd.2.2 p a (Nat.le_refl _) ha
      obtain ⟨cc, rfl, hcc⟩ := hc.place a (List.mem_of_getElem? ha)
      have hcol : colonAt cols i k = some cc := by rw [colonAt, hfind, ha]; simp only; rw [if_pos hak]; rfl
      obtain ⟨u, hu⟩ := get_lt hcc
      have hsu := startAt_some hu
      have w4 : wrapK .i64 ((cc : Int) + 1) = ((cc + 1 : Nat) : Int) := wrap_succ (by omega)
      simp -implicitDefEqProofs only [↓yP, yT, Nat.reduceAdd, Nat.reduceMul, Nat.reduceSub, Nat.reduceLeDiff, Nat.reduceEqDiff, reduceCtorEq, Nat.reduceBEq]
      refine Rd_calm (by rw [C1_P]; kernel_rfl) ?_
      simp -implicitDefEqProofs only [↓yP, yT, Nat.reduceAdd, Nat.reduceMul, Nat.reduceSub, Nat.reduceLeDiff, Nat.reduceEqDiff, reduceCtorEq, Nat.reduceBEq]
      refine Rcall_lendF rfl (clone_spec ts cols k i cc (by omega) (by omega) hl) (by rfl) fun y hy => ?_
      subst hy
      simp -implicitDefEqProofs only [↓yP, yT, Nat.reduceAdd, Nat.reduceMul, Nat.reduceSub, Nat.reduceLeDiff, Nat.reduceEqDiff, reduceCtorEq, Nat.reduceBEq, w4]
      refine Rcall_lendF rfl (clone_spec ts cols k (cc + 1) k (by omega) (by omega) hl) (by rfl) fun y hy => ?_
      subst hy
      simp -implicitDefEqProofs only [↓yP, yT, Nat.reduceAdd, Nat.reduceMul, Nat.reduceSub, Nat.reduceLeDiff, Nat.reduceEqDiff, reduceCtorEq, Nat.reduceBEq, get_map hu, Tok.pc]
      refine Rd_calm (by rw [C1_P]; kernel_rfl) ?_
      simp -implicitDefEqProofs only [↓yP, yT, Nat.reduceAdd, Nat.reduceMul, Nat.reduceSub, Nat.reduceLeDiff, Nat.reduceEqDiff, reduceCtorEq, Nat.reduceBEq, t1]
      refine ⟨[0], by decide, pinned_one _, ?_, ?_⟩
      · simp only [hnode, leafP, hop, hcol, hsu, Bool.false_eq_true, if_false, Nd.cs, pc_mk, List.map_cons, List.map_nil]
        rfl
      · simp only [hnode, leafP, hop, hcol, Bool.false_eq_true, if_false]
        rfl
    | false =>
      have hcol : colonAt cols i k = none := by
        rw [colonAt, hfind]
        cases hq : cols[p]? with
        | none => rfl
        | some a =>
          simp only
          rw [if_neg fun ha => by have := hb.mpr ⟨a, hq, ha⟩; cases this]
      simp -implicitDefEqProofs only [↓yP, yT, Nat.reduceAdd, Nat.reduceMul, Nat.reduceSub, Nat.reduceLeDiff, Nat.reduceEqDiff, reduceCtorEq, Nat.reduceBEq]
      refine Rd_calm (by rw [C1_P]; kernel_rfl) ?_
      simp -implicitDefEqProofs only [↓yP, yT, Nat.reduceAdd, Nat.reduceMul, Nat.reduceSub, Nat.reduceLeDiff, Nat.reduceEqDiff, reduceCtorEq, Nat.reduceBEq, t1]
      refine ⟨[0], by decide, pinned_one _, ?_, ?_⟩
      · simp only [hnode, leafP, hop, hcol, Bool.false_eq_true, if_false, Nd.cs, pc_mk, List.map_cons, List.map_nil]
        rfl
      · simp only [hnode, leafP, hop, hcol, Bool.false_eq_true, if_false]
        rfl
end Go.Vx.Seat
end
/- The program's nodes and Parse. -/
section
open Go Go.Vx Go.Proofs
set_option linter.unusedSimpArgs false
set_option linter.unusedVariables false
set_option maxRecDepth 10000
set_option maxHeartbeats 4000000
namespace Go.Vx.Seat
attribute [local congr] Rg_at Rt_at Ro_at Ri_at Rc_at Rto_at Rtk_at Rtf_at Rti_at
attribute [local irreducible] Rg Rt Ro Ri Rc Rto Rtk Rtf Rti Rw Rl Rd Rcall Rtcall kf
theorem fn12 : nth C1.P.funcs.toList 12 = some Try.f12 := by kernel_rfl
theorem leafP_in (ts : List Tok) (cols : List Int) (depth i k : Nat) (hik : i ≤ k) (hk : k ≤ ts.length) : k ≤ (leafP ts cols depth i k).2 ∧ (leafP ts cols depth i k).2 ≤ ts.length ∧ (open_ ts depth k = true → k < (leafP ts cols depth i k).2) := by
  unfold leafP
  simp only
  cases h : open_ ts depth k with
  | false => simp; exact hk
  | true =>
    simp only [open_, Bool.and_eq_true, decide_eq_true_eq] at h
    simp; omega
theorem nodeP_in (ts : List Tok) (cols : List Int) (rec : Nat → Nat → List Nd × Nat) (hin : In ts rec) (i depth : Nat) (ho : open_ ts depth i = true) : i < (nodeP ts cols rec i depth).2 ∧ (nodeP ts cols rec i depth).2 ≤ ts.length := by
  have hi : i < ts.length := by simp only [open_, Bool.and_eq_true, decide_eq_true_eq] at ho; exact ho.1
  have hns : ¬ (pl ts i).1 < depth := by simp only [open_, Bool.and_eq_true, Bool.not_eq_true', decide_eq_false_iff_not] at ho; exact ho.2
  have hs := scanP_le ts depth (ts.length - i) i
  have hgt : scanP ts depth (ts.length - i) i = i → (pl ts i).1 ≤ depth ∧ (kindAt ts i = 19 ∨ kindAt ts i = 17) := by
    intro he
    rw [show ts.length - i = (ts.length - i - 1) + 1 by omega, scanP, if_neg hns] at he
    by_cases hq : (pl ts i).1 ≤ depth ∧ (kindAt ts i = 19 ∨ kindAt ts i = 17)
    · exact hq
    · rw [if_neg hq] at he
      have := scanP_le ts depth (ts.length - i - 1) (i + 1)
      omega
  unfold nodeP
  simp only
  generalize scanP ts depth (ts.length - i) i = k at hs hgt
  split
  · rename_i hq
    have hk : k < ts.length := by have := hq.1; simp only [open_, Bool.and_eq_true, decide_eq_true_eq] at this; exact this.1
    have := hin (k + 1) (depth + 1) (by omega)
    unfold ruleP
    simp only
    split
    · omega
    · omega
  · have := leafP_in ts cols depth i k hs.1 (by omega)
    refine ⟨?_, this.2.1⟩
    by_cases he : k = i
    · subst he; exact this.2.2 ho
    · omega
theorem nodesP_in (ts : List Tok) (cols : List Int) : ∀ n, In ts (nodesP ts cols n)
  | 0 => fun i depth hi => by simp [nodesP]; exact hi
  | n + 1 => fun i depth hi => by
    unfold nodesP
    split
    · rename_i ho
      have h1 := nodeP_in ts cols _ (nodesP_in ts cols n) i depth ho
      have h2 := nodesP_in ts cols n (nodeP ts cols (nodesP ts cols n) i depth).2 depth h1.2
      simp only
      omega
    · simp; exact hi
/-- A node is a token or more. -/
theorem nodesP_length (ts : List Tok) (cols : List Int) : ∀ n i depth, i ≤ ts.length → (nodesP ts cols n i depth).1.length + i ≤ (nodesP ts cols n i depth).2
  | 0, i, depth, hi => by simp [nodesP]
  | n + 1, i, depth, hi => by
    unfold nodesP
    split
    · rename_i ho
      have h1 := nodeP_in ts cols _ (nodesP_in ts cols n) i depth ho
      have h2 := nodesP_length ts cols n (nodeP ts cols (nodesP ts cols n) i depth).2 depth h1.2
      simp only [List.length_cons]
      omega
    · simp

theorem nodes_spec (ts : List Tok) (cols : List Int) (hl : ts.length ≤ 1000000) (hc : ColsOk ts cols) (n : Nat) : NodesSpec ts cols n := by
  induction n using Nat.strongRecOn with
  | _ n ih =>
  intro i0 depth hdi0 hi0 hf0
  refine Yf0 [] (by rfl) (by rfl) fn27 (by rfl) ?_
  simp only [Try.f27, List.length_cons, List.length_nil, List.replicate, List.cons_append, List.nil_append, pbC]
  simp -implicitDefEqProofs only [↓yP, yT, Nat.reduceAdd, Nat.reduceMul, Nat.reduceSub, Nat.reduceLeDiff, Nat.reduceEqDiff, reduceCtorEq, Nat.reduceBEq]
  refine Rl_nil 5 9 (by decide) rfl ?_
  refine Rl_inv (fun d e s => ∃ (m i : Nat) (acc : List Nd), e = [.c (.ptr 0 0 0 0), yd (.int .i64 depth), .c .top, .c .top, .c .top, .c (.own 1 9 0 acc.length), .c .top, .c .top, .c .top, .c .top, .c .top, .c .top, .c .top, .c .top, .c .top, .c .top, .c .top, .c .top, .c .top, .c .top, .c .top, .c .top, .c .top, .c .top, .c .top, .c .top, .c .top, .c .top, .c .top] ∧ s = [.box (pbC ts cols i), .row 9 (acc.map Nd.pc)] ∧ m = d ∧ m ≤ n ∧ ts.length - i ≤ m ∧ depth ≤ i ∧ i ≤ ts.length ∧ acc.length ≤ i ∧ acc ++ (nodesP ts cols m i depth).1 = (nodesP ts cols n i0 depth).1 ∧ (nodesP ts cols m i depth).2 = (nodesP ts cols n i0 depth).2)
    [true, true, false, false, false, true] n [0, 1] (by decide) (pinned_one _) ⟨n, i0, [], rfl, rfl, rfl, Nat.le_refl _, hf0, hdi0, hi0, by simp, by simp, rfl⟩ ?_
  rintro d e s ⟨m, i, acc, rfl, rfl, rfl, hmn, hf, hdi, hi, hacc, hout, hend⟩
  simp only [pbC]
  simp -implicitDefEqProofs only [↓yP, yT, Nat.reduceAdd, Nat.reduceMul, Nat.reduceSub, Nat.reduceLeDiff, Nat.reduceEqDiff, reduceCtorEq, Nat.reduceBEq]
  refine Rd_calm (by rw [C1_P]; kernel_rfl) ?_
  by_cases hil : i < ts.length
  · have t1 : leI (ts.length : Nat) (i : Nat) = false := leI_false (by omega)
    simp -implicitDefEqProofs only [↓yP, yT, Nat.reduceAdd, Nat.reduceMul, Nat.reduceSub, Nat.reduceLeDiff, Nat.reduceEqDiff, reduceCtorEq, Nat.reduceBEq, t1]
    refine Rcall_lend rfl (shut_spec ts cols i depth hil) (by rfl) fun y hy => ⟨by rw [hy]; rfl, ?_⟩
    subst hy
    by_cases hsh : (pl ts i).1 < depth
    · have hop : open_ ts depth i = false := by simp [open_, hsh]
      have hres : nodesP ts cols m i depth = ([], i) := by
        cases m with
        | zero => rfl
        | succ m => rw [nodesP, hop]; rfl
      rw [hres] at hout hend
      simp only [List.append_nil] at hout hend
      simp -implicitDefEqProofs only [↓yP, yT, Nat.reduceAdd, Nat.reduceMul, Nat.reduceSub, Nat.reduceLeDiff, Nat.reduceEqDiff, reduceCtorEq, Nat.reduceBEq, decide_eq_true hsh]
      refine ⟨[0], by decide, pinned_one _, ?_, ?_⟩
      · simp only [yE, Nat.reduceEqDiff, Nat.reduceAdd, reduceCtorEq, ← hout]; rfl
      · simp only [yE, Nat.reduceEqDiff, Nat.reduceAdd, reduceCtorEq, ← hend, pbC]
    · have hop : open_ ts depth i = true := by simp [open_, hsh, hil]
      obtain ⟨m, rfl⟩ : ∃ m', m = m' + 1 := ⟨m - 1, by omega⟩
      have hin := nodesP_in ts cols m
      have hx := nodeP_in ts cols _ hin i depth hop
      have hnode := node_spec ts cols m hl hc (ih m (by omega)) hin i depth hil hdi (by omega)
      have hres : nodesP ts cols (m + 1) i depth = ((nodeP ts cols (nodesP ts cols m) i depth).1 :: (nodesP ts cols m (nodeP ts cols (nodesP ts cols m) i depth).2 depth).1, (nodesP ts cols m (nodeP ts cols (nodesP ts cols m) i depth).2 depth).2) := by
        rw [nodesP, hop]; rfl
      rw [hres] at hout hend
      have b1 : (acc.length + 1) * 104 ≤ 70368744177664 := by omega
      simp -implicitDefEqProofs only [↓yP, yT, Nat.reduceAdd, Nat.reduceMul, Nat.reduceSub, Nat.reduceLeDiff, Nat.reduceEqDiff, reduceCtorEq, Nat.reduceBEq, decide_eq_false hsh]
      refine Rcall_hand 1 [.box (pbC ts cols i)] rfl hnode (by simp) rfl (by rfl) fun y s' hy => ?_
      obtain ⟨rfl, rfl⟩ := hy
      refine ⟨rfl, ?_⟩
      generalize hr : nodeP ts cols (nodesP ts cols m) i depth = r at hx hout hend
      obtain ⟨⟨k0, h0, t0, ks0, o0, s0, m0, a0, l0⟩, j⟩ := r
      simp only [pbC, Nd.cs, pc_mk, List.map_cons, List.map_nil]
      simp -implicitDefEqProofs only [↓yP, yT, Nat.reduceAdd, Nat.reduceMul, Nat.reduceSub, Nat.reduceLeDiff, Nat.reduceEqDiff, reduceCtorEq, Nat.reduceBEq, b1]
      refine ⟨m, [0, 3], by omega, by decide, pinned_one _, m, j, acc ++ [.mk k0 h0 t0 ks0 o0 s0 m0 a0 l0], ?_, ?_, rfl, by omega, by simp only at hx; omega, by simp only at hx; omega, by simp only at hx; omega, by simp only at hx; simp; omega, ?_, hend⟩
      · simp only [yE, Nat.reduceEqDiff, Nat.reduceAdd, reduceCtorEq]
      · simp only [yE, Nat.reduceEqDiff, Nat.reduceAdd, reduceCtorEq, List.map_append, pc_mk, pbC]
      · rw [← hout]; simp
  · have t1 : leI (ts.length : Nat) (i : Nat) = true := leI_true (by omega)
    have hop : open_ ts depth i = false := by simp [open_, hil]
    have hres : nodesP ts cols m i depth = ([], i) := by
      cases m with
      | zero => rfl
      | succ m => rw [nodesP, hop]; rfl
    rw [hres] at hout hend
    simp only [List.append_nil] at hout hend
    simp -implicitDefEqProofs only [↓yP, yT, Nat.reduceAdd, Nat.reduceMul, Nat.reduceSub, Nat.reduceLeDiff, Nat.reduceEqDiff, reduceCtorEq, Nat.reduceBEq, t1]
    refine ⟨[0], by decide, pinned_one _, ?_, ?_⟩
    · simp only [yE, Nat.reduceEqDiff, Nat.reduceAdd, reduceCtorEq, ← hout]; rfl
    · simp only [yE, Nat.reduceEqDiff, Nat.reduceAdd, reduceCtorEq, ← hend, pbC]

theorem filter_get {p : Nat → Bool} {n i : Nat} {a : Nat} (h : ((List.range n).filter p)[i]? = some a) : a < n := by
  have := List.mem_of_getElem? h
  simpa using (List.mem_filter.mp this).1
theorem filter_rise (p : Nat → Bool) (n : Nat) : Rising (((List.range n).filter p).map fun i : Nat => (i : Int)) := by
  have hpw : ((List.range n).filter p).Pairwise (· < ·) := List.Pairwise.filter _ List.pairwise_lt_range
  intro i j a b hij ha hb
  rw [List.getElem?_map] at ha hb
  cases h1 : ((List.range n).filter p)[i]? with
  | none => rw [h1] at ha; cases ha
  | some x =>
    cases h2 : ((List.range n).filter p)[j]? with
    | none => rw [h2] at hb; cases hb
    | some y =>
      rw [h1] at ha; rw [h2] at hb
      cases ha; cases hb
      have li := lt_of_some h1
      have lj := lt_of_some h2
      have := List.pairwise_iff_getElem.mp hpw i j li lj hij
      rw [List.getElem?_eq_getElem li] at h1
      rw [List.getElem?_eq_getElem lj] at h2
      rw [Option.some.inj h1, Option.some.inj h2] at this
      show (x : Int) < (y : Int)
      omega
theorem colsP_ok (ts : List Tok) (hl : ts.length ≤ 1000000) : ColsOk ts (colonsP ts ts.length) := by
  refine ⟨filter_rise _ _, by have := colonsP_length ts ts.length; omega, fun c hc => ?_⟩
  obtain ⟨k, hk, rfl⟩ := List.mem_map.mp hc
  exact ⟨k, rfl, by simpa using (List.mem_filter.mp hk).1⟩
def parseP (ts : List Tok) : List Nd := (nodesP ts (colonsP ts ts.length) ts.length 0 0).1
theorem parseP_spec (ts : List Tok) (hl : ts.length ≤ 1000000) : PCall C1 12 [.c (.p (rT ts))] fun y => y = .c (.p (rN (parseP ts))) := by
  have hn := nodes_spec ts (colonsP ts ts.length) hl (colsP_ok ts hl) ts.length 0 0 (by omega) (by omega) (by omega)
  refine Pf (by rfl) (by rfl) fn12 (by rfl) ?_
  simp only [Try.f12, List.length_cons, List.length_nil, List.replicate, List.cons_append, List.nil_append]
  simp -implicitDefEqProofs only [↓yP, yT, Nat.reduceAdd, Nat.reduceMul, Nat.reduceSub, Nat.reduceLeDiff, Nat.reduceEqDiff, reduceCtorEq, Nat.reduceBEq]
  refine Rcall_pure (places_spec ts hl) (by rfl) fun y hy => ?_
  subst hy
  simp -implicitDefEqProofs only [↓yP, yT, Nat.reduceAdd, Nat.reduceMul, Nat.reduceSub, Nat.reduceLeDiff, Nat.reduceEqDiff, reduceCtorEq, Nat.reduceBEq]
  refine Rcall_pure (colonsP_spec ts hl) (by rfl) fun y hy => ?_
  subst hy
  simp -implicitDefEqProofs only [↓yP, yT, Nat.reduceAdd, Nat.reduceMul, Nat.reduceSub, Nat.reduceLeDiff, Nat.reduceEqDiff, reduceCtorEq, Nat.reduceBEq]
  refine Rcall_hand 1 [.box (pbC ts (colonsP ts ts.length) 0)] rfl hn (by simp) rfl (by rfl) fun y s' hy => ?_
  obtain ⟨rfl, rfl⟩ := hy
  refine ⟨rfl, ?_⟩
  simp only [pbC]
  simp -implicitDefEqProofs only [↓yP, yT, Nat.reduceAdd, Nat.reduceMul, Nat.reduceSub, Nat.reduceLeDiff, Nat.reduceEqDiff, reduceCtorEq, Nat.reduceBEq]
  rfl
end Go.Vx.Seat
end
/- The document's nodes: what they are. -/
section
open Go Go.Vx Go.Proofs
set_option linter.unusedSimpArgs false
set_option linter.unusedVariables false
set_option maxRecDepth 10000
set_option maxHeartbeats 8000000
namespace Go.Vx.Seat
attribute [local congr] Rg_at Rt_at Ro_at Ri_at Rc_at Rto_at Rtk_at Rtf_at Rti_at
attribute [local irreducible] Rg Rt Ro Ri Rc Rto Rtk Rtf Rti Rw Rl Rd Rcall Rtcall kf
/-- Does the document end a block there? -/
def shutD (ts : List Tok) (deep k : Nat) : Bool := decide (kindAt ts k = 20) && decide (0 < deep) && decide ((openAt ts k).length = deep)
def endD (ts : List Tok) (deep : Nat) : Nat → Nat → Nat
  | 0, k => k
  | d + 1, k => if (openAt ts k).length = deep ∧ ((kindAt ts k = 20 ∧ 0 < deep) ∨ kindAt ts k = 19 ∨ kindAt ts k = 17) then k else endD ts deep d (k + 1)
theorem endD_le (ts : List Tok) (deep : Nat) : ∀ d k, k ≤ endD ts deep d k ∧ endD ts deep d k ≤ k + d
  | 0, k => by simp [endD]
  | d + 1, k => by
    have := endD_le ts deep d (k + 1)
    unfold endD
    split
    · omega
    · omega
/-- The last colon of a declaration at a level, among so many tokens. -/
def colD (ts : List Tok) (cols : List Int) (deep i : Nat) : Nat → Option Nat
  | 0 => none
  | m + 1 => if (openAt ts (i + m)).length = deep ∧ cols.contains ((i + m : Nat) : Int) = true then some (i + m) else colD ts cols deep i m
theorem colD_le {ts : List Tok} {cols : List Int} {deep i : Nat} : ∀ {m c : Nat}, colD ts cols deep i m = some c → i ≤ c ∧ c < i + m
  | 0, c, h => by cases h
  | m + 1, c, h => by
    unfold colD at h
    split at h
    · cases h; omega
    · have := colD_le h; omega
def encC : Option Nat → Int
  | none => -1
  | some c => (c : Nat)
def leafD (ts : List Tok) (c : Option Nat) (i k : Nat) (semi : Bool) : Nd × Nat :=
  (match c with
  | some c => .mk 2 (slice ts i c) (slice ts (c + 1) k) [] false false semi (startAt ts c) (if semi then startAt ts k else 0)
  | none => .mk 3 (slice ts i k) [] [] false false semi 0 (if semi then startAt ts k else 0), if semi then k + 1 else k)
def nodeD (ts : List Tok) (cols : List Int) (rec : Nat → Nat → List Nd × Nat) (i deep : Nat) : Nd × Nat :=
  let k := endD ts deep (ts.length - i) i
  if k < ts.length ∧ kindAt ts k = 19 then ruleP ts rec i k deep
  else if k < ts.length then leafD ts (colD ts cols deep i (k - i + 1)) i k (decide (kindAt ts k = 17))
  else leafD ts (colD ts cols deep i (k - i)) i k false
def nodesD (ts : List Tok) (cols : List Int) : Nat → Nat → Nat → List Nd × Nat
  | 0, i, _ => ([], i)
  | n + 1, i, deep => if i < ts.length ∧ shutD ts deep i = false then
      let x := nodeD ts cols (nodesD ts cols n) i deep
      let r := nodesD ts cols n x.2 deep
      (x.1 :: r.1, r.2)
    else ([], i)
def tbC (ts : List Tok) (cols : List Int) (i : Nat) : List Ce := [.p (rT ts), .p (rII (nest ts)), .p (rI cols), .p (.d (.int .i64 i))]
def NodesSpecD (ts : List Tok) (cols : List Int) (n : Nat) : Prop := ∀ i deep, deep ≤ i → i ≤ ts.length → ts.length - i ≤ n →
  YC C1 false 28 [.c (.ptr 0 0 0 0), yd (.int .i64 deep)] [.box (tbC ts cols i)] fun y s => y = .c (.p (rN (nodesD ts cols n i deep).1)) ∧ s = [.box (tbC ts cols (nodesD ts cols n i deep).2)]
theorem slice_cells (ts : List Tok) (a b : Nat) : ((ts.map Tok.pc).drop a).take b = ((ts.drop a).take b).map Tok.pc := by rw [List.map_take, List.map_drop]
theorem slice_len (ts : List Tok) (a b : Nat) (h : ts.length ≤ 1000000) : ((ts.drop a).take b).length ≤ 1000000 := by simp; omega

def parseD (ts : List Tok) : List Nd := (nodesD ts (colonsTo ts ts.length) ts.length 0 0).1
end Go.Vx.Seat
end
/- The document's colons are the program's: plain law. -/
section
open Go Go.Vx Go.Proofs
set_option linter.unusedSimpArgs false
set_option linter.unusedVariables false
namespace Go.Vx.Seat
def Shuts (k : Int) : Prop := k = 22 ∨ k = 24 ∨ k = 20
theorem closes_shuts {k : Int} (h : closes k > 0) : Shuts (closes k) := by
  unfold closes at h ⊢
  unfold Shuts
  split
  · simp
  · split
    · simp
    · split
      · simp
      · simp_all
theorem closes_20 {k : Int} (h : closes k = 20) : k = 19 := by
  unfold closes at h
  split at h
  · omega
  · split at h
    · omega
    · split at h <;> omega
theorem openAt_shuts (ts : List Tok) : ∀ (i : Nat) (k : Int), k ∈ openAt ts i → Shuts k
  | 0, k, h => by simp [openAt] at h
  | i + 1, k, h => by
    have ih := openAt_shuts ts i k
    unfold openAt at h
    split at h
    · unfold nestStep at h
      split at h
      · exact ih ((List.dropLast_sublist _).subset h)
      · split at h
        · rename_i hc
          rcases List.mem_append.mp h with h | h
          · exact ih h
          · rw [List.mem_singleton.mp h]; exact closes_shuts hc
        · exact ih h
    · exact ih h
theorem last_shuts {ts : List Tok} {i : Nat} {k : Int} (h : (openAt ts i).getLast? = some k) : Shuts k := openAt_shuts ts i k (List.mem_of_getLast? h)
theorem blocks_mem {o : List Int} (h : allBlocks o = true) {k : Int} (hk : k ∈ o) : k = 20 := by
  have := List.all_eq_true.mp h k hk
  simpa using this
theorem blocks_last {o : List Int} (h : allBlocks o = true) (hn : 0 < o.length) : o.getLast? = some 20 := by
  cases hl : o.getLast? with
  | none => rw [List.getLast?_eq_none_iff.mp hl] at hn; simp at hn
  | some a => rw [blocks_mem h (List.mem_of_getLast? hl)]
/-- What is open there is what is open here and more, and not another block. -/
def Above (ts : List Tok) (o : List Int) (k : Nat) : Prop := ∃ rest, openAt ts k = o ++ rest ∧ rest.head? ≠ some 20
theorem Above.same {ts : List Tok} {o : List Int} {k : Nat} (h : openAt ts k = o) : Above ts o k := ⟨[], by simp [h], by simp⟩
theorem Above.len {ts : List Tok} {o : List Int} {k : Nat} (h : Above ts o k) : o.length ≤ (openAt ts k).length := by
  obtain ⟨r, h1, _⟩ := h; rw [h1]; simp
theorem Above.eq {ts : List Tok} {o : List Int} {k : Nat} (h : Above ts o k) (hl : (openAt ts k).length = o.length) : openAt ts k = o := by
  obtain ⟨r, h1, _⟩ := h
  rw [h1] at hl ⊢
  have : r = [] := by cases r with | nil => rfl | cons a r => simp at hl
  simp [this]
theorem Above.blocks {ts : List Tok} {o : List Int} {k : Nat} (h : Above ts o k) (hb : allBlocks (openAt ts k) = true) : openAt ts k = o := by
  obtain ⟨r, h1, h2⟩ := h
  cases r with
  | nil => simpa using h1
  | cons a r => exact absurd (by rw [List.head?_cons, blocks_mem hb (k := a) (by rw [h1]; simp)]) h2
/-- Does what is looked at stop there? -/
def stopD (ts : List Tok) (n k : Nat) : Prop := (openAt ts k).length = n ∧ (kindAt ts k = 19 ∨ (kindAt ts k = 20 ∧ 0 < n))
theorem getLast_app {o r : List Int} (h : r ≠ []) : (o ++ r).getLast? = r.getLast? := by
  rw [List.getLast?_append]; cases hr : r.getLast? with
  | none => exact absurd (List.getLast?_eq_none_iff.mp hr) h
  | some a => rfl
theorem Above.step {ts : List Tok} {o : List Int} {k : Nat} (h : Above ts o k) (hb : allBlocks o = true) (hk : k < ts.length) (hs : ¬ stopD ts o.length k) : Above ts o (k + 1) := by
  obtain ⟨r, h1, h2⟩ := h
  have ht : ts[k]? = some ts[k] := List.getElem?_eq_getElem hk
  have hkk := kindAt_some ht
  unfold stopD at hs
  rw [Above, openAt_succ ht, ← hkk]
  generalize kindAt ts k = K at hs
  rw [h1] at hs ⊢
  unfold nestStep
  cases r with
  | nil =>
    simp only [List.append_nil] at hs ⊢
    split
    · rename_i hl
      have hm := blocks_mem hb (List.mem_of_getLast? hl)
      have : 0 < o.length := List.length_pos_of_mem (List.mem_of_getLast? hl)
      exact absurd ⟨by simp, .inr ⟨hm, this⟩⟩ hs
    · split
      · refine ⟨[closes K], rfl, fun h => ?_⟩
        have : closes K = 20 := by simpa using h
        exact hs ⟨by simp, .inl (closes_20 this)⟩
      · exact ⟨[], by simp, by simp⟩
  | cons a r =>
    split
    · refine ⟨(a :: r).dropLast, by rw [List.dropLast_append_of_ne_nil (by simp)], ?_⟩
      cases r with
      | nil => simp
      | cons b r => simpa using h2
    · split
      · exact ⟨a :: r ++ [closes K], by simp, by simpa using h2⟩
      · exact ⟨a :: r, rfl, h2⟩
theorem pl_closes {ts : List Tok} {k : Nat} (h : (openAt ts k).getLast? = some (kindAt ts k)) : (pl ts k).1 = (openAt ts k).length - 1 := by
  simp [pl, plOf, h]
theorem pl_open {ts : List Tok} {k : Nat} (h : ¬ (openAt ts k).getLast? = some (kindAt ts k)) : pl ts k = ((openAt ts k).length, allBlocks (openAt ts k), false) := by
  simp [pl, plOf, h]
theorem Above.lt {ts : List Tok} {o : List Int} {k : Nat} (h : Above ts o k) (hb : allBlocks o = true) : (pl ts k).1 < o.length ↔ (openAt ts k).length = o.length ∧ kindAt ts k = 20 ∧ 0 < o.length := by
  have hl := h.len
  by_cases hc : (openAt ts k).getLast? = some (kindAt ts k)
  · rw [pl_closes hc]
    constructor
    · intro h1
      have h2 : (openAt ts k).length = o.length := by omega
      have h3 := h.eq h2
      rw [h3] at hc
      exact ⟨h2, blocks_mem hb (List.mem_of_getLast? hc), List.length_pos_of_mem (List.mem_of_getLast? hc)⟩
    · rintro ⟨h1, h2, h3⟩
      omega
  · rw [pl_open hc]
    constructor
    · intro h1; simp only at h1; omega
    · rintro ⟨h1, h2, h3⟩
      rw [h.eq h1, h2] at hc
      exact absurd (blocks_last hb h3) hc
theorem Above.part {ts : List Tok} {o : List Int} {k : Nat} (h : Above ts o k) (hb : allBlocks o = true) (hn : ¬ (pl ts k).1 < o.length) : ((pl ts k).1 = o.length ∧ partK (kindAt ts k) = true) ↔ ((openAt ts k).length = o.length ∧ partK (kindAt ts k) = true) := by
  by_cases hc : (openAt ts k).getLast? = some (kindAt ts k)
  · have hp := pl_closes hc
    obtain ⟨r, h1, h2⟩ := h
    have hsh := last_shuts hc
    have hlen : (openAt ts k).length = o.length + r.length := by rw [h1]; simp
    cases r with
    | nil =>
      exfalso
      have : 0 < (openAt ts k).length := List.length_pos_of_mem (List.mem_of_getLast? hc)
      simp at hlen
      omega
    | cons a r =>
      constructor
      · rintro ⟨h3, h4⟩
        exfalso
        have hr : r = [] := by
          cases r with
          | nil => rfl
          | cons b r => simp at hlen; omega
        subst hr
        rw [h1, getLast_app (by simp)] at hc
        simp at hc h2
        rcases hsh with h | h | h
        · rw [h] at h4; simp [partK] at h4
        · rw [h] at h4; simp [partK] at h4
        · rw [h] at hc; exact h2 hc
      · rintro ⟨h3, h4⟩
        simp at hlen; omega
  · rw [pl_open hc]
theorem not_last {ts : List Tok} {i : Nat} {k : Int} (h : ¬ Shuts k) : ¬ (openAt ts i).getLast? = some k := fun hl => h (last_shuts hl)
/-! ### The colons -/
theorem plain_behind {ts : List Tok} {i : Nat} (hb : allBlocks (openAt ts i) = true) (hp : (pl ts i).1 = (openAt ts i).length) : ∀ (d k : Nat), k + d = ts.length → Above ts (openAt ts i) k → plainFrom ts i d k = behind ts i d k
  | 0, k, _, _ => by rw [plainFrom, behind]
  | d + 1, k, hd, ha => by
    rw [plainFrom, behind, hp]
    by_cases h1 : (pl ts k).1 < (openAt ts i).length
    · obtain ⟨h2, h3, h4⟩ := (ha.lt hb).mp h1
      rw [if_pos h1, if_pos ⟨h2, by rw [h3]; rfl⟩, h3]; rfl
    · rw [if_neg h1]
      by_cases h2 : (openAt ts k).length = (openAt ts i).length ∧ partK (kindAt ts k) = true
      · rw [if_pos ((ha.part hb h1).mpr h2), if_pos h2]
      · rw [if_neg fun h => h2 ((ha.part hb h1).mp h), if_neg h2]
        refine plain_behind hb hp d (k + 1) (by omega) (ha.step hb (by omega) ?_)
        rintro ⟨h3, h4⟩
        refine h2 ⟨h3, ?_⟩
        rcases h4 with h4 | h4
        · rw [h4]; rfl
        · rw [h4.1]; rfl
theorem part_at (ts : List Tok) (i : Nat) : (partK (kindAt ts i) = true ∧ (pl ts i).2.1 = true) ↔ partAt ts i = true := by
  rw [partAt, Bool.and_eq_true]
  refine and_congr_right fun hp => ?_
  by_cases hc : (openAt ts i).getLast? = some (kindAt ts i)
  · have hsh := last_shuts hc
    have h20 : kindAt ts i = 20 := by
      rcases hsh with h | h | h
      · rw [h] at hp; simp [partK] at hp
      · rw [h] at hp; simp [partK] at hp
      · exact h
    rw [h20] at hc
    have hd : openAt ts i = (openAt ts i).dropLast ++ [20] := by
      obtain ⟨ys, hy⟩ := List.getLast?_eq_some_iff.mp hc
      rw [hy, List.dropLast_concat]
    simp only [pl, plOf, h20, hc, if_pos]
    conv => rhs; rw [hd]
    simp [allBlocks]
  · rw [pl_open hc]
theorem back_add (ts : List Tok) : ∀ (n a b : Nat), back ts n a b = (a + (back ts n 0 0).1, b + (back ts n 0 0).2)
  | 0, a, b => by simp [back]
  | n + 1, a, b => by
    unfold back
    split
    · simp
    · split
      · exact back_add ts n a b
      · split
        · rw [back_add ts n (a + 1) b, back_add ts n (0 + 1) 0]; simp; omega
        · rw [back_add ts n a (b + 1), back_add ts n 0 (0 + 1)]; simp; omega
theorem since_back (ts : List Tok) : ∀ n : Nat, (since ts n).1 = (back ts n 0 0).1 + (back ts n 0 0).2 ∧ ((since ts n).1 = 1 → ((since ts n).2 = true ↔ (back ts n 0 0).1 = 1))
  | 0 => by simp [since, back]
  | n + 1 => by
    obtain ⟨h1, h2⟩ := since_back ts n
    have hp := part_at ts n
    unfold since back
    by_cases hq : quiet (kindAt ts n) = true
    · have hno : ¬ partAt ts n = true := by
        rw [partAt, Bool.and_eq_true]
        rintro ⟨h3, _⟩
        simp [quiet] at hq
        rcases hq with h | h <;> rw [h] at h3 <;> simp [partK] at h3
      rw [if_pos hq, if_neg hno, if_pos hq]
      exact ⟨h1, h2⟩
    · rw [if_neg hq]
      by_cases hpa : partAt ts n = true
      · rw [if_pos (hp.mpr hpa), if_pos hpa]; simp
      · rw [if_neg fun h => hpa (hp.mp h), if_neg hpa, if_neg hq]
        by_cases h3 : kindAt ts n = 1
        · rw [if_pos h3, back_add]; simp [h3]; omega
        · rw [if_neg h3, back_add]; simp [h3]; omega
theorem colon_same (ts : List Tok) {i : Nat} (hi : i < ts.length) : isColon ts i = docColon ts i := by
  rw [Bool.eq_iff_iff, isColon, docColon]
  simp only [Bool.and_eq_true, decide_eq_true_eq]
  by_cases hk : kindAt ts i = 16
  · have hno : ¬ (openAt ts i).getLast? = some (kindAt ts i) := not_last (by rw [hk]; simp [Shuts])
    have hpl := pl_open hno
    obtain ⟨s1, s2⟩ := since_back ts i
    rw [hpl]
    simp only
    by_cases hb : allBlocks (openAt ts i) = true
    · have h1 : plainAt ts i = behind ts i (ts.length - (i + 1)) (i + 1) := by
        refine plain_behind hb (by rw [hpl]) _ _ (by omega) ((Above.same rfl).step hb hi ?_)
        rintro ⟨_, h⟩
        rw [hk] at h; simp at h
      rw [h1]
      constructor
      · rintro ⟨⟨⟨⟨⟨_, _⟩, h2⟩, h3⟩, h4⟩, h5⟩
        have h6 := (s2 h3).mp h4
        refine ⟨⟨⟨⟨hk, by omega⟩, hb⟩, ?_⟩, h5⟩
        exact Prod.ext h6 (by simp only; omega)
      · rintro ⟨⟨⟨⟨_, h2⟩, _⟩, h3⟩, h5⟩
        rw [h3] at s1 s2
        have h4 : (since ts i).1 = 1 := by simpa using s1
        exact ⟨⟨⟨⟨⟨hk, hb⟩, by omega⟩, h4⟩, (s2 h4).mpr rfl⟩, h5⟩
    · simp [hb]
  · simp [hk]
theorem colons_same (ts : List Tok) : colonsP ts ts.length = colonsTo ts ts.length := by
  rw [colonsP, colonsTo]
  congr 1
  refine List.filter_congr fun i hi => colon_same ts (by simpa using hi)
end Go.Vx.Seat
end
/- The document's Parse is the program's: plain law. -/
section
open Go Go.Vx Go.Proofs
set_option linter.unusedSimpArgs false
set_option linter.unusedVariables false
namespace Go.Vx.Seat
def reps (n : Nat) : List Int := List.replicate n 20
theorem reps_len (n : Nat) : (reps n).length = n := by simp [reps]
theorem reps_blocks (n : Nat) : allBlocks (reps n) = true := by simp [reps, allBlocks]
def stopE (ts : List Tok) (deep k : Nat) : Prop := (openAt ts k).length = deep ∧ ((kindAt ts k = 20 ∧ 0 < deep) ∨ kindAt ts k = 19 ∨ kindAt ts k = 17)
theorem stopE_D {ts : List Tok} {deep k : Nat} (h : stopD ts (reps deep).length k) : stopE ts deep k := by
  rw [reps_len] at h
  exact ⟨h.1, h.2.elim (fun h => .inr (.inl h)) (fun h => .inl h)⟩
theorem flat_pl {ts : List Tok} {k : Nat} (h : kindAt ts k = 19 ∨ kindAt ts k = 17) : (pl ts k).1 = (openAt ts k).length := by
  rw [pl_open (not_last (by rcases h with h | h <;> rw [h] <;> simp [Shuts]))]
theorem scan_same (ts : List Tok) (deep : Nat) : ∀ d k : Nat, k + d = ts.length → Above ts (reps deep) k →
    scanP ts deep d k = endD ts deep d k ∧ (∀ p, k ≤ p → p < endD ts deep d k → Above ts (reps deep) p ∧ ¬ stopE ts deep p) ∧ (endD ts deep d k < ts.length → Above ts (reps deep) (endD ts deep d k) ∧ stopE ts deep (endD ts deep d k))
  | 0, k, hd, ha => by
    rw [scanP, endD]
    exact ⟨rfl, fun p h1 h2 => by omega, fun h => by omega⟩
  | d + 1, k, hd, ha => by
    have hlt := ha.lt (reps_blocks deep)
    have hlen := ha.len
    rw [reps_len] at hlt hlen
    by_cases hs : stopE ts deep k
    · have e1 : endD ts deep (d + 1) k = k := by rw [endD]; exact if_pos hs
      rw [e1]
      refine ⟨?_, fun p h1 h2 => by omega, fun _ => ⟨ha, hs⟩⟩
      rw [scanP]
      obtain ⟨h1, h2⟩ := hs
      rcases h2 with h2 | h2
      · rw [if_pos (hlt.mpr ⟨h1, h2.1, h2.2⟩)]
      · have hf := flat_pl h2
        rw [if_neg (by omega), if_pos ⟨by omega, h2⟩]
    · have e1 : endD ts deep (d + 1) k = endD ts deep d (k + 1) := by rw [endD]; exact if_neg hs
      have e2 : scanP ts deep (d + 1) k = scanP ts deep d (k + 1) := by
        rw [scanP, if_neg, if_neg]
        · rintro ⟨h1, h2⟩
          have hf := flat_pl h2
          exact hs ⟨by omega, .inr h2⟩
        · intro h
          obtain ⟨h1, h2, h3⟩ := hlt.mp h
          exact hs ⟨h1, .inl ⟨h2, h3⟩⟩
      rw [e1, e2]
      obtain ⟨h1, h2, h3⟩ := scan_same ts deep d (k + 1) (by omega) (ha.step (reps_blocks deep) (by omega) fun h => hs (stopE_D h))
      refine ⟨h1, fun p hp1 hp2 => ?_, h3⟩
      by_cases hp : p = k
      · subst hp; exact ⟨ha, hs⟩
      · exact h2 p (by omega) hp2
/-! ### Which colon -/
theorem contains_colons (ts : List Tok) (n c : Nat) : (colonsTo ts n).contains (c : Int) = true ↔ c < n ∧ docColon ts c = true := by
  rw [List.contains_iff_mem, colonsTo, List.mem_map]
  constructor
  · rintro ⟨a, ha, he⟩
    have : a = c := by omega
    subst this
    simpa using ha
  · intro h
    exact ⟨c, by simpa using h, rfl⟩
theorem colonAt_some {ts : List Tok} {n i k c : Nat} (h : colonAt (colonsTo ts n) i k = some c) : i ≤ c ∧ c < k ∧ c < n ∧ docColon ts c = true := by
  unfold colonAt at h
  split at h
  · rename_i a hf
    split at h
    · rename_i hlt
      cases h
      have h1 := List.find?_some hf
      have h2 := List.mem_of_find?_eq_some hf
      rw [colonsTo, List.mem_map] at h2
      obtain ⟨b, hb, rfl⟩ := h2
      simp at h1 hb
      simp only [Int.toNat_natCast]
      exact ⟨h1, by omega, hb.1, hb.2⟩
    · cases h
  · cases h
theorem colonsTo_sorted (ts : List Tok) (n : Nat) : (colonsTo ts n).Pairwise (· < ·) := by
  rw [colonsTo, List.pairwise_map]
  exact ((List.pairwise_lt_range).filter _).imp fun h => by omega
theorem colonAt_none {ts : List Tok} {n i k c : Nat} (h : colonAt (colonsTo ts n) i k = none) (h1 : i ≤ c) (h2 : c < k) (h3 : c < n) : docColon ts c = false := by
  rw [← Bool.not_eq_true]
  intro hd
  have hm : (c : Int) ∈ colonsTo ts n := List.contains_iff_mem.mp ((contains_colons ts n c).mpr ⟨h3, hd⟩)
  unfold colonAt at h
  cases hf : List.find? (fun c => decide ((i : Int) ≤ c)) (colonsTo ts n) with
  | none =>
    have := List.find?_eq_none.mp hf c hm
    simp at this; omega
  | some a =>
    rw [hf] at h
    simp only at h
    split at h
    · cases h
    · rename_i hak
      obtain ⟨_, xs, ys, he, has⟩ := List.find?_eq_some_iff_append.mp hf
      have hs := colonsTo_sorted ts n
      rw [he] at hm hs
      rcases List.mem_append.mp hm with hm | hm
      · have := has c hm
        simp at this; omega
      · rcases List.mem_cons.mp hm with hm | hm
        · omega
        · have := List.rel_of_pairwise_cons (List.pairwise_append.mp hs).2.1 hm
          omega
theorem colD_some {ts : List Tok} {cols : List Int} {deep i : Nat} : ∀ {m c : Nat}, colD ts cols deep i m = some c → (openAt ts c).length = deep ∧ cols.contains (c : Int) = true
  | 0, c, h => by cases h
  | m + 1, c, h => by
    unfold colD at h
    split at h
    · rename_i hc; cases h; exact hc
    · exact colD_some h
theorem colD_none {ts : List Tok} {cols : List Int} {deep i : Nat} : ∀ {m : Nat}, colD ts cols deep i m = none → ∀ c, i ≤ c → c < i + m → ¬ ((openAt ts c).length = deep ∧ cols.contains (c : Int) = true)
  | 0, h, c, h1, h2 => by omega
  | m + 1, h, c, h1, h2 => by
    unfold colD at h
    split at h
    · cases h
    · rename_i hn
      by_cases hc : c = i + m
      · subst hc; exact hn
      · exact colD_none h c h1 (by omega)
theorem back_other {ts : List Tok} {c : Nat} (hk : kindAt ts c = 16) : ∀ (n a b : Nat), c < n → (∀ p, c < p → p < n → ¬ partAt ts p = true) → b + 1 ≤ (back ts n a b).2
  | n + 1, a, b, hc, hp => by
    unfold back
    by_cases hn : c = n
    · subst hn
      rw [if_neg (by simp [partAt, hk, partK]), if_neg (by simp [quiet, hk]), if_neg (by omega), back_add]
      simp only; omega
    · have ih := fun a b => back_other hk n a b (by omega) fun p h1 h2 => hp p h1 (by omega)
      rw [if_neg (hp n (by omega) (by omega))]
      split
      · exact ih a b
      · split
        · exact ih (a + 1) b
        · have := ih a (b + 1); omega
theorem docColon_facts {ts : List Tok} {c : Nat} (h : docColon ts c = true) : kindAt ts c = 16 ∧ (openAt ts c).length ≠ 0 ∧ allBlocks (openAt ts c) = true ∧ back ts c 0 0 = (1, 0) := by
  simp [docColon] at h
  exact ⟨h.1.1.1.1, fun h0 => h.1.1.1.2 (List.length_eq_zero_iff.mp h0), h.1.1.2, h.1.2⟩
/-- Among what is looked at there is one colon at most, at the level itself. -/
theorem one_colon {ts : List Tok} {deep i k c c' : Nat} (ha : ∀ p, i ≤ p → p < k → Above ts (reps deep) p ∧ ¬ stopE ts deep p) (h1 : i ≤ c) (h2 : c < c') (h3 : c' < k) (hc : docColon ts c = true) (hc' : docColon ts c' = true) : False := by
  obtain ⟨k1, l1, b1, _⟩ := docColon_facts hc
  obtain ⟨k2, l2, b2, e2⟩ := docColon_facts hc'
  have hd : 0 < deep := by
    have := (ha c h1 (by omega)).1.blocks b1
    rw [this, reps_len] at l1
    omega
  have := back_other k1 c' 0 0 h2 fun p hp1 hp2 hpa => by
    obtain ⟨g1, g2⟩ := ha p (by omega) (by omega)
    rw [partAt, Bool.and_eq_true] at hpa
    refine g2 ⟨by rw [g1.blocks hpa.2, reps_len], ?_⟩
    have := hpa.1
    simp [partK] at this
    rcases this with (h | h) | h
    · exact .inr (.inl h)
    · exact .inl ⟨h, hd⟩
    · exact .inr (.inr h)
  rw [e2] at this
  simp at this
theorem colon_at_same {ts : List Tok} {deep i k m : Nat} (ha : ∀ p, i ≤ p → p < k → Above ts (reps deep) p ∧ ¬ stopE ts deep p) (hk : k ≤ ts.length) (hik : i ≤ k) (hm : m = k - i ∨ (m = k - i + 1 ∧ kindAt ts k ≠ 16)) :
    colonAt (colonsTo ts ts.length) i k = colD ts (colonsTo ts ts.length) deep i m := by
  cases hP : colonAt (colonsTo ts ts.length) i k with
  | some c =>
    obtain ⟨p1, p2, p3, p4⟩ := colonAt_some hP
    obtain ⟨k1, l1, b1, _⟩ := docColon_facts p4
    have hlen : (openAt ts c).length = deep := by rw [(ha c p1 p2).1.blocks b1, reps_len]
    cases hD : colD ts (colonsTo ts ts.length) deep i m with
    | none => exact absurd ⟨hlen, (contains_colons ts _ c).mpr ⟨p3, p4⟩⟩ (colD_none hD c p1 (by omega))
    | some c' =>
      obtain ⟨q1, q2⟩ := colD_le hD
      obtain ⟨_, q3⟩ := colD_some hD
      obtain ⟨q4, q5⟩ := (contains_colons ts _ c').mp q3
      have q6 : c' < k := by
        rcases hm with h | ⟨h, h'⟩
        · omega
        · by_cases hck : c' = k
          · rw [hck] at q5; exact absurd (docColon_facts q5).1 h'
          · omega
      rcases Nat.lt_trichotomy c c' with h | h | h
      · exact (one_colon ha p1 h q6 p4 q5).elim
      · rw [h]
      · exact (one_colon ha q1 h p2 q5 p4).elim
  | none =>
    cases hD : colD ts (colonsTo ts ts.length) deep i m with
    | none => rfl
    | some c' =>
      obtain ⟨q1, q2⟩ := colD_le hD
      obtain ⟨_, q3⟩ := colD_some hD
      obtain ⟨q4, q5⟩ := (contains_colons ts _ c').mp q3
      have q6 : c' < k := by
        rcases hm with h | ⟨h, h'⟩
        · omega
        · by_cases hck : c' = k
          · rw [hck] at q5; exact absurd (docColon_facts q5).1 h'
          · omega
      rw [colonAt_none hP q1 q6 q4] at q5
      cases q5
/-! ### A node, nodes -/
theorem open_same {ts : List Tok} {deep k : Nat} (hk : k < ts.length) (ho : openAt ts k = reps deep) : open_ ts deep k = !shutD ts deep k := by
  have hlt := (Above.same ho).lt (reps_blocks deep)
  rw [reps_len] at hlt
  have hl : (openAt ts k).length = deep := by rw [ho, reps_len]
  rw [Bool.eq_iff_iff, open_, shutD]
  simp only [hk, decide_true, Bool.true_and, Bool.not_eq_true', decide_eq_false_iff_not, Bool.and_eq_false_iff]
  rw [hlt]
  simp only [hl, true_and, not_true_eq_false, or_false]
  omega
theorem reps_block {ts : List Tok} {deep k : Nat} (hk : k < ts.length) (ho : openAt ts k = reps deep) (h : kindAt ts k = 19) : openAt ts (k + 1) = reps (deep + 1) := by
  have ht : ts[k]? = some ts[k] := List.getElem?_eq_getElem hk
  have hn : ¬ (reps deep).getLast? = some 19 := by
    rw [← ho]; exact not_last (by simp [Shuts])
  rw [openAt_succ ht, ← kindAt_some ht, h, nestStep, ho, if_neg hn, if_pos (by decide)]
  rw [show closes 19 = 20 from rfl, reps, reps, List.replicate_succ']
theorem reps_semi {ts : List Tok} {deep k : Nat} (hk : k < ts.length) (ho : openAt ts k = reps deep) (h : kindAt ts k = 17) : openAt ts (k + 1) = reps deep := by
  have ht : ts[k]? = some ts[k] := List.getElem?_eq_getElem hk
  have hn : ¬ (reps deep).getLast? = some 17 := by
    rw [← ho]; exact not_last (by simp [Shuts])
  rw [openAt_succ ht, ← kindAt_some ht, h, nestStep, ho, if_neg hn, if_neg (by decide)]
theorem reps_shut {ts : List Tok} {deep k : Nat} (hk : k < ts.length) (ho : openAt ts k = reps (deep + 1)) (h : kindAt ts k = 20) : openAt ts (k + 1) = reps deep := by
  have ht : ts[k]? = some ts[k] := List.getElem?_eq_getElem hk
  rw [openAt_succ ht, ← kindAt_some ht, h, nestStep, ho, if_pos (blocks_last (reps_blocks _) (by simp [reps]))]
  rw [reps, reps, List.replicate_succ', List.dropLast_concat]
def recOk (ts : List Tok) (cols : List Int) (n : Nat) : Prop := ∀ i deep, i ≤ ts.length → ts.length - i ≤ n → (i < ts.length → openAt ts i = reps deep) →
  nodesP ts cols n i deep = nodesD ts cols n i deep ∧ i ≤ (nodesD ts cols n i deep).2 ∧ (nodesD ts cols n i deep).2 ≤ ts.length ∧
  ((nodesD ts cols n i deep).2 < ts.length → openAt ts (nodesD ts cols n i deep).2 = reps deep ∧ shutD ts deep (nodesD ts cols n i deep).2 = true)
theorem node_same {ts : List Tok} {n i deep : Nat} (hr : recOk ts (colonsTo ts ts.length) n) (hi : i < ts.length) (ho : openAt ts i = reps deep) (hs : shutD ts deep i = false) (hf : ts.length - (i + 1) ≤ n) :
    nodeP ts (colonsTo ts ts.length) (nodesP ts (colonsTo ts ts.length) n) i deep = nodeD ts (colonsTo ts ts.length) (nodesD ts (colonsTo ts ts.length) n) i deep ∧
    i < (nodeD ts (colonsTo ts ts.length) (nodesD ts (colonsTo ts ts.length) n) i deep).2 ∧ (nodeD ts (colonsTo ts ts.length) (nodesD ts (colonsTo ts ts.length) n) i deep).2 ≤ ts.length ∧
    ((nodeD ts (colonsTo ts ts.length) (nodesD ts (colonsTo ts ts.length) n) i deep).2 < ts.length → openAt ts (nodeD ts (colonsTo ts ts.length) (nodesD ts (colonsTo ts ts.length) n) i deep).2 = reps deep) := by
  obtain ⟨e1, ha, hstop⟩ := scan_same ts deep (ts.length - i) i (by omega) (.same ho)
  have hle := endD_le ts deep (ts.length - i) i
  unfold nodeP nodeD
  simp only
  rw [e1]
  generalize endD ts deep (ts.length - i) i = k at ha hstop hle
  by_cases hk : k < ts.length
  · obtain ⟨hab, hlk, hkind⟩ := hstop hk
    have hok := hab.eq (by rw [reps_len]; exact hlk)
    have hop := open_same hk hok
    by_cases h19 : kindAt ts k = 19
    · have hsh : shutD ts deep k = false := by simp [shutD, h19]
      rw [hop, hsh, if_pos ⟨rfl, h19⟩, if_pos ⟨hk, h19⟩]
      obtain ⟨g1, g2, g3, g4⟩ := hr (k + 1) (deep + 1) (by omega) (by omega) fun _ => reps_block hk hok h19
      unfold ruleP
      simp only
      rw [g1]
      refine ⟨rfl, ?_, ?_, ?_⟩
      · split <;> omega
      · split <;> omega
      · split
        · rename_i hlt
          intro _
          obtain ⟨g5, g6⟩ := g4 hlt
          refine reps_shut hlt g5 ?_
          simp [shutD] at g6
          exact g6.1
        · intro h; omega
    · rw [if_neg fun h => h19 h.2, if_neg fun h => h19 h.2, if_pos hk]
      have hcol := colon_at_same (m := k - i + 1) ha (by omega) (by omega) (.inr ⟨rfl, by rcases hkind with h | h | h <;> omega⟩)
      unfold leafP leafD
      simp only
      by_cases h17 : kindAt ts k = 17
      · have hsh : shutD ts deep k = false := by simp [shutD, h17]
        rw [hop, hsh, hcol, h17]
        refine ⟨rfl, ?_, ?_, fun _ => ?_⟩
        · simp; omega
        · simp; omega
        · simpa using reps_semi hk hok h17
      · have h20 : kindAt ts k = 20 ∧ 0 < deep := by rcases hkind with h | h | h <;> first | exact h | omega
        have hsh : shutD ts deep k = true := by simp [shutD, h20.1, h20.2, hlk]
        have hne : k ≠ i := fun h => by rw [h, hs] at hsh; cases hsh
        rw [hop, hsh, hcol, decide_eq_false h17]
        refine ⟨rfl, ?_, ?_, fun _ => ?_⟩
        · simp; omega
        · simp; omega
        · simpa using hok
  · have hkn : k = ts.length := by omega
    have hop : open_ ts deep k = false := by simp [open_, hk]
    rw [hop, if_neg (by simp), if_neg fun h => hk h.1, if_neg hk]
    have hcol := colon_at_same (m := k - i) ha (by omega) (by omega) (.inl rfl)
    unfold leafP leafD
    simp only
    rw [hop, hcol]
    refine ⟨rfl, ?_, ?_, fun h => ?_⟩
    · simp; omega
    · simp; omega
    · simp at h; omega
theorem nodes_same (ts : List Tok) : ∀ n, recOk ts (colonsTo ts ts.length) n
  | 0 => fun i deep h1 h2 h3 => ⟨rfl, Nat.le_refl _, h1, fun h => by simp only [nodesD] at h; omega⟩
  | n + 1 => fun i deep h1 h2 h3 => by
    have ih := nodes_same ts n
    unfold nodesP nodesD
    by_cases hi : i < ts.length
    · have ho := h3 hi
      rw [open_same hi ho]
      cases hs : shutD ts deep i with
      | true => simp [hs, ho, hi, h1]
      | false =>
        obtain ⟨g1, g2, g3, g4⟩ := node_same ih hi ho hs (by omega)
        rw [if_pos (by rfl : (!false) = true), if_pos ⟨hi, rfl⟩]
        simp only
        rw [g1]
        obtain ⟨k1, k2, k3, k4⟩ := ih (nodeD ts (colonsTo ts ts.length) (nodesD ts (colonsTo ts ts.length) n) i deep).2 deep g3 (by omega) g4
        rw [k1]
        exact ⟨rfl, by omega, k3, k4⟩
    · rw [if_neg (by simp [open_, hi]), if_neg fun h => hi h.1]
      exact ⟨rfl, Nat.le_refl _, h1, fun h => absurd h hi⟩
theorem parse_same (ts : List Tok) : parseP ts = parseD ts := by
  rw [parseP, parseD, colons_same]
  rw [(nodes_same ts ts.length 0 0 (by omega) (by omega) fun _ => by simp [openAt, reps]).1]
end Go.Vx.Seat
end
