/- The '==' of the tokens, the numbers and the colours is the cells' own. -/
import Derived.Test.YtmbonddknackiaaVxTold
import Derived.KernelRfl
import Derived.Test.YtmbonddknackiaaProg
namespace Go.Vx.Seat
open Go.Proofs
theorem eq_int (d : Nat) (a b : Int) (w : World) : (Op.equalIn (d + 1) 3 (.int .i64 a) (.int .i64 b)).run Try.prog w = .ok (a == b) w := by
  simp [Op.equalIn, run_underlying Try.underlying3]
theorem eq_str (d : Nat) (a b : ByteArray) (w : World) : (Op.equalIn (d + 1) 9 (.string a) (.string b)).run Try.prog w = .ok (a == b) w := by
  simp [Op.equalIn, run_underlying Try.underlying9]
theorem eq_bool (d : Nat) (a b : Bool) (w : World) : (Op.equalIn (d + 1) 4 (.bool a) (.bool b)).run Try.prog w = .ok (a == b) w := by
  simp [Op.equalIn, run_underlying Try.underlying4]
theorem ite_ok (b c : Bool) (w : World) : (if b = false then Result.ok false w else Result.ok c w) = Result.ok (b && c) w := by cases b <;> rfl
theorem heldN : Try.prog.stoodInHeld 35 = false := by kernel_rfl
theorem heldT : Try.prog.stoodInHeld 38 = false := by kernel_rfl
theorem ag3 : tyAgg Try.prog 3 = some false := by kernel_rfl
theorem ag9 : tyAgg Try.prog 9 = some false := by kernel_rfl
theorem ag4 : tyAgg Try.prog 4 = some false := by kernel_rfl
theorem agN : tyAgg Try.prog 35 = some true := by kernel_rfl
theorem agC : tyAgg Try.prog 36 = some true := by kernel_rfl
theorem szN : tySz Try.prog 35 = 3 := by kernel_rfl
theorem szC : tySz Try.prog 36 = 4 := by kernel_rfl
theorem sz3 : tySz Try.prog 3 = 1 := by kernel_rfl
theorem part_cell {t : TypeId} (h : tyAgg Try.prog t = some false) (cs : Array Value) (off : Nat) (w : World) : (part t cs off).run Try.prog w = match cs[off]? with | some v => .ok v w | none => .halt (.stuck "part: no such cell") w := by
  simp only [part, Sem.run_bind, run_isAgg h, Result.andThen]
  cases cs[off]? <;> simp
theorem part_agg {t n : TypeId} (h : tyAgg Try.prog t = some true) (hz : tySz Try.prog t = n) (cs : Array Value) (off : Nat) (w : World) : (part t cs off).run Try.prog w = .ok (.agg (cs.extract off (off + n))) w := by
  simp [part, run_isAgg h, run_sizeOf (tyAgg_info h), hz]
theorem eq_num (d : Nat) (a b : Bool) (a1 b1 a2 b2 : ByteArray) (w : World) : (Op.equalIn (d + 1 + 1) 35 (.agg #[.bool a, .string a1, .string a2]) (.agg #[.bool b, .string b1, .string b2])).run Try.prog w = .ok ((a == b) && ((a1 == b1) && (a2 == b2))) w := by
  rw [Op.equalIn]
  simp only [Sem.run_bind, run_underlying Try.underlying35, Result.andThen, run_program, heldN]
  simp only [forIn]
  simp [part_cell ag4, part_cell ag9, eq_bool, eq_str]
  simp only [ite_ok]
  cases h1 : a == b <;> cases h2 : a1 == b1 <;> cases h3 : a2 == b2 <;> simp_all
theorem eq_col (d : Nat) (a0 a1 a2 a3 b0 b1 b2 b3 : Int) (w : World) : (Op.equalIn (d + 1 + 1) 36 (.agg #[.int .i64 a0, .int .i64 a1, .int .i64 a2, .int .i64 a3]) (.agg #[.int .i64 b0, .int .i64 b1, .int .i64 b2, .int .i64 b3])).run Try.prog w =
    .ok ((a0 == b0) && ((a1 == b1) && ((a2 == b2) && (a3 == b3)))) w := by
  rw [Op.equalIn]
  simp only [Sem.run_bind, run_underlying Try.underlying36, Result.andThen, run_sizeOf (tyAgg_info ag3), sz3]
  simp [Std.Legacy.Range.forIn_eq_forIn_range', Std.Legacy.Range.size, List.range'_succ, part_cell ag3, eq_int]
  by_cases h1 : a0 = b0 <;> by_cases h2 : a1 = b1 <;> by_cases h3 : a2 = b2 <;> by_cases h4 : a3 = b3 <;> simp_all
theorem eq_tok (d : Nat) (a0 a8 a9 a10 a11 a12 b0 b8 b9 b10 b11 b12 : Int) (a1 a2 a4 a5 b1 b2 b4 b5 : ByteArray) (p3 p6 p7 q3 q6 q7 : Bool) (w : World) :
    (Op.equalIn (d + 1 + 1 + 1) 38 (.agg #[.int .i64 a0, .string a1, .string a2, .bool p3, .string a4, .string a5, .bool p6, .bool p7, .int .i64 a8, .int .i64 a9, .int .i64 a10, .int .i64 a11, .int .i64 a12])
      (.agg #[.int .i64 b0, .string b1, .string b2, .bool q3, .string b4, .string b5, .bool q6, .bool q7, .int .i64 b8, .int .i64 b9, .int .i64 b10, .int .i64 b11, .int .i64 b12])).run Try.prog w =
    .ok ((a0 == b0) && ((a1 == b1) && ((a2 == b2) && (((p3 == q3) && ((a4 == b4) && (a5 == b5))) && ((p6 == q6) && ((p7 == q7) && (((a8 == b8) && ((a9 == b9) && ((a10 == b10) && (a11 == b11)))) && (a12 == b12)))))))) w := by
  rw [Op.equalIn]
  simp only [Sem.run_bind, run_underlying Try.underlying38, Result.andThen, run_program, heldT]
  simp only [forIn]
  simp [part_cell ag4, part_cell ag9, part_cell ag3, part_agg agN szN, part_agg agC szC, eq_bool, eq_str, eq_int, eq_num, eq_col]
  by_cases h0 : ¬ a0 = b0
  · simp [h0]
  have h0 : a0 = b0 := Classical.not_not.1 h0
  cases h1 : a1 == b1
  · simp
  cases h2 : a2 == b2
  · simp
  by_cases h3 : ¬ p3 = q3
  · simp [h3]
  have h3 : p3 = q3 := Classical.not_not.1 h3
  cases h4 : a4 == b4
  · simp
  cases h5 : a5 == b5
  · simp [h3]
  by_cases h6 : ¬ p6 = q6
  · simp [h0, h3, h6]
  have h6 : p6 = q6 := Classical.not_not.1 h6
  by_cases h7 : ¬ p7 = q7
  · simp [h0, h3, h6, h7]
  have h7 : p7 = q7 := Classical.not_not.1 h7
  by_cases h8 : ¬ a8 = b8
  · simp [h0, h3, h6, h7, h8]
  have h8 : a8 = b8 := Classical.not_not.1 h8
  by_cases h9 : ¬ a9 = b9
  · simp [h0, h3, h6, h7, h8, h9]
  have h9 : a9 = b9 := Classical.not_not.1 h9
  by_cases h10 : ¬ a10 = b10
  · simp [h0, h3, h6, h7, h8, h9, h10]
  have h10 : a10 = b10 := Classical.not_not.1 h10
  by_cases h11 : ¬ a11 = b11
  · simp [h0, h3, h6, h7, h8, h9, h10, h11]
  have h11 : a11 = b11 := Classical.not_not.1 h11
  by_cases h12 : a12 = b12 <;> simp [h0, h3, h6, h7, h8, h9, h10, h11, h12]

theorem likes_int {k : IntKind} {z : Int} {zs xs : List Value} (h : likes (.int k z :: zs) xs = true) : ∃ n xs', xs = .int k n :: xs' ∧ likes zs xs' = true := by
  cases xs with
  | nil => simp [likes] at h
  | cons x xs =>
    cases x <;> simp [likes] at h
    obtain ⟨rfl, h⟩ := h
    exact ⟨_, xs, rfl, h⟩
theorem likes_str {z : ByteArray} {zs xs : List Value} (h : likes (.string z :: zs) xs = true) : ∃ n xs', xs = .string n :: xs' ∧ likes zs xs' = true := by
  cases xs with
  | nil => simp [likes] at h
  | cons x xs => cases x <;> simp [likes] at h; exact ⟨_, xs, rfl, h⟩
theorem likes_bool {z : Bool} {zs xs : List Value} (h : likes (.bool z :: zs) xs = true) : ∃ n xs', xs = .bool n :: xs' ∧ likes zs xs' = true := by
  cases xs with
  | nil => simp [likes] at h
  | cons x xs => cases x <;> simp [likes] at h; exact ⟨_, xs, rfl, h⟩
theorem likes_nil {xs : List Value} (h : likes [] xs = true) : xs = [] := by
  cases xs with
  | nil => rfl
  | cons x xs => simp [likes] at h

abbrev noStr : ByteArray := ⟨#[]⟩
theorem zeroT : tyZero Try.prog 38 = some (.agg #[.int .i64 0, .string noStr, .string noStr, .bool false, .string noStr, .string noStr, .bool false, .bool false, .int .i64 0, .int .i64 0, .int .i64 0, .int .i64 0, .int .i64 0]) := by kernel_rfl
theorem zeroN : tyZero Try.prog 35 = some (.agg #[.bool false, .string noStr, .string noStr]) := by kernel_rfl
theorem zeroC : tyZero Try.prog 36 = some (.agg #[.int .i64 0, .int .i64 0, .int .i64 0, .int .i64 0]) := by kernel_rfl

theorem likesN {xs : List Value} (h : likes [.bool false, .string noStr, .string noStr] xs = true) : ∃ a b c, xs = [.bool a, .string b, .string c] := by
  obtain ⟨a, x1, rfl, g1⟩ := likes_bool h
  obtain ⟨b, x2, rfl, g2⟩ := likes_str g1
  obtain ⟨c, x3, rfl, g3⟩ := likes_str g2
  cases likes_nil g3
  exact ⟨a, b, c, rfl⟩
theorem likesC {xs : List Value} (h : likes [.int .i64 0, .int .i64 0, .int .i64 0, .int .i64 0] xs = true) : ∃ a b c d, xs = [.int .i64 a, .int .i64 b, .int .i64 c, .int .i64 d] := by
  obtain ⟨a, x1, rfl, g1⟩ := likes_int h
  obtain ⟨b, x2, rfl, g2⟩ := likes_int g1
  obtain ⟨c, x3, rfl, g3⟩ := likes_int g2
  obtain ⟨d, x4, rfl, g4⟩ := likes_int g3
  cases likes_nil g4
  exact ⟨a, b, c, d, rfl⟩
theorem likesT {xs : List Value} (h : likes [.int .i64 0, .string noStr, .string noStr, .bool false, .string noStr, .string noStr, .bool false, .bool false, .int .i64 0, .int .i64 0, .int .i64 0, .int .i64 0, .int .i64 0] xs = true) :
    ∃ a0 a1 a2 a3 a4 a5 a6 a7 a8 a9 a10 a11 a12, xs = [.int .i64 a0, .string a1, .string a2, .bool a3, .string a4, .string a5, .bool a6, .bool a7, .int .i64 a8, .int .i64 a9, .int .i64 a10, .int .i64 a11, .int .i64 a12] := by
  obtain ⟨a0, x0, rfl, g1⟩ := likes_int h
  obtain ⟨a1, x1, rfl, g2⟩ := likes_str g1
  obtain ⟨a2, x2, rfl, g3⟩ := likes_str g2
  obtain ⟨a3, x3, rfl, g4⟩ := likes_bool g3
  obtain ⟨a4, x4, rfl, g5⟩ := likes_str g4
  obtain ⟨a5, x5, rfl, g6⟩ := likes_str g5
  obtain ⟨a6, x6, rfl, g7⟩ := likes_bool g6
  obtain ⟨a7, x7, rfl, g8⟩ := likes_bool g7
  obtain ⟨a8, x8, rfl, g9⟩ := likes_int g8
  obtain ⟨a9, x9, rfl, g10⟩ := likes_int g9
  obtain ⟨a10, x10, rfl, g11⟩ := likes_int g10
  obtain ⟨a11, x11, rfl, g12⟩ := likes_int g11
  obtain ⟨a12, x12, rfl, g13⟩ := likes_int g12
  cases likes_nil g13
  exact ⟨_, _, _, _, _, _, _, _, _, _, _, _, _, rfl⟩

theorem guard_none {t : TypeId} (h : Try.prog.eqGuardType Try.prog.depth t = false) (op : BinOp) (xo yo : Operand) (a b : Array Value) (w : World) : (eqGuard op t xo yo (.agg a) (.agg b)).run Try.prog w = .ok () w := by
  unfold eqGuard
  cases op <;> simp [h]
theorem guardT : Try.prog.eqGuardType Try.prog.depth 38 = false := by kernel_rfl
theorem guardN : Try.prog.eqGuardType Try.prog.depth 35 = false := by kernel_rfl
theorem guardC : Try.prog.eqGuardType Try.prog.depth 36 = false := by kernel_rfl

theorem arr_of {xs : Array Value} {l : List Value} (h : xs.toList = l) : xs = l.toArray := by subst h; simp

theorem eq_of_deep {t : TypeId} {x y : Value} {b : Bool} {w : World} (h : ∀ d, (Op.equalIn (d + 1 + 1 + 1) t x y).run Try.prog w = .ok b w) : (Op.equal t x y).run Try.prog w = .ok b w := by
  unfold Op.equal
  have : Op.maxDepth = 9997 + 1 + 1 + 1 := by unfold Op.maxDepth; omega
  rw [this]
  exact h 9997

theorem eqsOk : EqsOk Try.prog [38, 35, 36] := by
  intro t ht xs ys b hab xo yo w
  simp only [List.mem_cons, List.not_mem_nil, or_false] at ht
  rcases ht with rfl | rfl | rfl
  · refine ⟨guard_none guardT _ _ _ _ _ _, guard_none guardT _ _ _ _ _ _, ?_⟩
    unfold aggEq at hab
    rw [zeroT] at hab
    simp only at hab
    split at hab
    · rename_i hl
      simp only [Bool.and_eq_true] at hl
      obtain ⟨a0, a1, a2, a3, a4, a5, a6, a7, a8, a9, a10, a11, a12, hx⟩ := likesT hl.1
      obtain ⟨b0, b1, b2, b3, b4, b5, b6, b7, b8, b9, b10, b11, b12, hy⟩ := likesT hl.2
      rw [hx, hy] at hab
      simp only [cellsEq, cellEq, if_true] at hab
      cases hab
      rw [arr_of hx, arr_of hy]
      refine eq_of_deep fun d => ?_
      have := eq_tok d a0 a8 a9 a10 a11 a12 b0 b8 b9 b10 b11 b12 a1 a2 a4 a5 b1 b2 b4 b5 a3 a6 a7 b3 b6 b7 w
      rw [this]
      refine congrArg (fun q => Result.ok q w) ?_
      simp only [beq_str, Bool.and_assoc, Bool.and_true]
      rfl
    · cases hab
  · refine ⟨guard_none guardN _ _ _ _ _ _, guard_none guardN _ _ _ _ _ _, ?_⟩
    unfold aggEq at hab
    rw [zeroN] at hab
    simp only at hab
    split at hab
    · rename_i hl
      simp only [Bool.and_eq_true] at hl
      obtain ⟨a0, a1, a2, hx⟩ := likesN hl.1
      obtain ⟨b0, b1, b2, hy⟩ := likesN hl.2
      rw [hx, hy] at hab
      simp only [cellsEq, cellEq] at hab
      cases hab
      rw [arr_of hx, arr_of hy]
      refine eq_of_deep fun d => ?_
      have := eq_num (d + 1) a0 b0 a1 b1 a2 b2 w
      rw [this]
      refine congrArg (fun q => Result.ok q w) ?_
      simp only [beq_str, Bool.and_true]
    · cases hab
  · refine ⟨guard_none guardC _ _ _ _ _ _, guard_none guardC _ _ _ _ _ _, ?_⟩
    unfold aggEq at hab
    rw [zeroC] at hab
    simp only at hab
    split at hab
    · rename_i hl
      simp only [Bool.and_eq_true] at hl
      obtain ⟨a0, a1, a2, a3, hx⟩ := likesC hl.1
      obtain ⟨b0, b1, b2, b3, hy⟩ := likesC hl.2
      rw [hx, hy] at hab
      simp only [cellsEq, cellEq, if_true] at hab
      cases hab
      rw [arr_of hx, arr_of hy]
      refine eq_of_deep fun d => ?_
      have := eq_col (d + 1) a0 a1 a2 a3 b0 b1 b2 b3 w
      rw [this]
      refine congrArg (fun q => Result.ok q w) ?_
      simp only [Bool.and_true]
      rfl
    · cases hab

def zerosB (P : Program) : Bool := P.types.toList.all fun i => match i.zero with | some z => isTup z || dryV z | none => true
theorem zerosOk_of {P : Program} (h : zerosB P = true) : ZerosOk P := by
  intro t z hz
  obtain ⟨i, hi, hiz, ht⟩ := tyZero_types hz
  unfold zerosB at h
  simp only [List.all_eq_true] at h
  have hm : i ∈ P.types.toList := by
    rw [Array.getElem?_eq_some_iff] at hi
    obtain ⟨hlt, rfl⟩ := hi
    simp
  have := h i hm
  rw [hiz] at this
  simp only [ht, Bool.false_or] at this
  exact this
theorem zerosOk : ZerosOk Try.prog := zerosOk_of (by kernel_rfl)
theorem mixed : Try.prog.follows .mixedOrders = true := by kernel_rfl

noncomputable def C0 : Cx := { P := Try.prog, eqs := [38, 35, 36], told := fun f => if f = 0 then some (fun _ _ _ => none) else none, top := 123 }
def fnsB (P : Program) : Nat → Bool
  | 0 => true
  | f + 1 => fnsB P f && (f == 0 || (match P.funcs.toList[f]? with | some fn => okFn P fn | none => true))
theorem fnsB_all {P : Program} : ∀ {n : Nat}, fnsB P n = true → ∀ f fn, f < n → f ≠ 0 → P.funcs[f]? = some fn → okFn P fn = true
  | 0, _, f, fn, hf, _, _ => by omega
  | n + 1, h, f, fn, hf, hs, hfn => by
    simp only [fnsB, Bool.and_eq_true] at h
    by_cases e : f = n
    · subst e
      have : P.funcs.toList[f]? = some fn := by simpa using hfn
      have h2 := h.2
      rw [this] at h2
      simpa [hs] using h2
    · exact fnsB_all h.1 f fn (by omega) hs hfn
theorem fns0 : fnsB Try.prog 123 = true := by kernel_rfl
theorem told0 (f : FuncId) : C0.told f = if f = 0 then some (fun _ _ _ => none) else none := rfl
theorem good0 : Good C0 := by
  refine ⟨mixed, eqsOk, zerosOk, fun f fn hf ht hfn => ?_, fun f g h lo args h1 v h' hx => ?_, fun base f g h lo f' args h1 v h' hx => ?_⟩
  · refine fnsB_all fns0 f fn hf (fun e => ?_) hfn
    rw [told0, if_pos e] at ht; cases ht
  · rw [told0] at h
    split at h <;> cases h
    cases hx
  · rw [told0] at h
    split at h <;> cases h
    simp at hx
end Go.Vx.Seat
