/- A functional interpreter of the translated program over a heap of its own: definitions. -/
import Derived.Orders
import Derived.Below
namespace Go.Vx
structure Blk where
  own : Bool
  cells : List Value
structure H where
  n : Nat
  bs : List (Option Blk)
noncomputable def nth {α : Type} (xs : List α) : Nat → Option α :=
  List.rec (motive := fun _ => Nat → Option α) (fun _ => none) (fun x _ ih n => Nat.rec (motive := fun _ => Option α) (some x) (fun m _ => ih m) n) xs
theorem nth_eq {α : Type} : ∀ (xs : List α) (n : Nat), nth xs n = xs[n]?
  | [], n => by simp [nth]
  | x :: xs, 0 => rfl
  | x :: xs, n + 1 => by rw [List.getElem?_cons_succ, ← nth_eq xs n]; rfl
noncomputable def nthD {α : Type} (xs : List α) (d : α) : Nat → α :=
  List.rec (motive := fun _ => Nat → α) (fun _ => d) (fun x _ ih n => Nat.rec (motive := fun _ => α) x (fun m _ => ih m) n) xs
theorem nthD_eq {α : Type} (d : α) : ∀ (xs : List α) (n : Nat), nthD xs d n = xs.getD n d
  | [], n => by simp [nthD]
  | x :: xs, 0 => rfl
  | x :: xs, n + 1 => by rw [List.getD_cons_succ, ← nthD_eq d xs n]; rfl
def H.get (h : H) (i : Nat) : Option Blk := if i < h.n then (h.bs[h.n - 1 - i]?).join else none
noncomputable def H.getK (h : H) (i : Nat) : Option Blk := match Nat.ble (i + 1) h.n with
  | true => (match nth h.bs (h.n - 1 - i) with | some b => b | none => none)
  | false => none
theorem H.getK_eq (h : H) (i : Nat) : h.getK i = h.get i := by
  unfold H.getK H.get
  rw [nth_eq]
  cases hb : Nat.ble (i + 1) h.n with
  | true =>
    have hlt : i < h.n := Nat.le_of_ble_eq_true hb
    rw [if_pos hlt]; cases h.bs[h.n - 1 - i]? <;> rfl
  | false =>
    have hlt : ¬ i < h.n := fun h1 => by rw [Nat.ble_eq_true_of_le h1] at hb; cases hb
    rw [if_neg hlt]
def H.push (h : H) (b : Blk) : H := ⟨h.n + 1, some b :: h.bs⟩
def H.put (h : H) (i : Nat) (b : Option Blk) : H := ⟨h.n, h.bs.set (h.n - 1 - i) b⟩
abbrev Env := List Value
noncomputable def ev (e : Env) : Operand → Value
  | .tmp t => nthD e undef t
  | .const v => v
  | .global _ => undef
  | .func f => .func (.func f) #[] #[]
def clist : Value → List Value
  | .agg cs => cs.toList
  | v => [v]
def dry : Value → Bool
  | .bool _ | .int _ _ | .string _ | .nilFunc | .nilIface | .float _ _ => true
  | .pointer none => true
  | .slice none 0 0 => true
  | .func (.func _) a b => a.toList.isEmpty && b.toList.isEmpty
  | _ => false
def isTup : Value → Bool
  | .tuple _ => true
  | _ => false
section types
variable (P : Program)
def tySz (t : TypeId) : Nat := match P.info? t with | some i => i.size | none => 0
def tyBytes (t : TypeId) : Nat := match P.info? t with | some i => i.bytes | none => 0
def tyAgg (t : TypeId) : Option Bool := match P.underlying t with
  | some (.struct _) | some (.array _ _) => some true
  | some _ => some false
  | none => none
noncomputable def tyZero (t : TypeId) : Option Value := match nth P.types.toList t with
  | some i => (match i.zero with | some z => (match isTup z with | true => none | false => some z) | none => none)
  | none => none
def tyElem (t : TypeId) : Option TypeId := match P.underlying t with | some (.slice e) => some e | _ => none
def tyField (s : TypeId) (f : Nat) : Option (Nat × TypeId) := match P.underlying s with
  | some (.struct fs) => match fs.toList[f]? with | some f => some (f.offset, f.type) | none => none
  | _ => none
def tyFields (s : TypeId) : Option (List (Nat × Nat)) := match P.underlying s with
  | some (.struct fs) => if fs.toList.all (fun f => (P.info? f.type).isSome) then some (fs.toList.map fun f => (f.offset, tySz P f.type)) else none
  | _ => none
def tyArr (t : TypeId) : Option (Nat × TypeId) := match P.underlying t with | some (.array n e) => some (n, e) | _ => none
def tyIsStr (t : TypeId) : Bool := match P.underlying t with | some .string => true | _ => false
def tyIntOrNone (t : TypeId) : Bool := match P.underlying t with | some (.int _) => true | some _ => false | none => true
def tyInt (t : TypeId) : Option IntKind := match P.underlying t with | some (.int k) => some k | _ => none
end types
def forceN {α : Type} (n : Nat) (k : Nat → α) : α := match n with | 0 => k 0 | m + 1 => k (m + 1)
def forceI {α : Type} (i : Int) (k : Int → α) : α := match i with | .ofNat n => forceN n fun n => k (.ofNat n) | .negSucc n => forceN n fun n => k (.negSucc n)
def forceV {α : Type} (v : Value) (k : Value → α) : α :=
  match v with
  | .bool b => (match b with | true => k (.bool true) | false => k (.bool false))
  | .int ik n => forceI n fun n => k (.int ik n)
  | .pointer (some a) => forceN a.block fun b => forceN a.off fun o => k (.pointer (some ⟨b, o, a.spot⟩))
  | .slice (some a) n c => forceN a.block fun b => forceN a.off fun o => forceN n fun n => k (.slice (some ⟨b, o, a.spot⟩) n c)
  | v => k v
@[simp] theorem forceN_eq {α : Type} (n : Nat) (k : Nat → α) : forceN n k = k n := by cases n <;> rfl
@[simp] theorem forceI_eq {α : Type} (i : Int) (k : Int → α) : forceI i k = k i := by cases i <;> simp [forceI]
@[simp] theorem forceV_eq {α : Type} (v : Value) (k : Value → α) : forceV v k = k v := by
  unfold forceV
  split
  · split <;> rfl
  all_goals simp
noncomputable def setL {α β : Type} (v : α) (xs : List α) : Nat → (List α → β) → β :=
  List.rec (motive := fun _ => Nat → (List α → β) → β) (fun _ k => k []) (fun x xs ih n => Nat.rec (motive := fun _ => (List α → β) → β) (fun k => k (v :: xs)) (fun m _ k => ih m fun r => k (x :: r)) n) xs
@[simp] theorem setL_eq {α β : Type} (v : α) : ∀ (xs : List α) (n : Nat) (k : List α → β), setL v xs n k = k (xs.set n v)
  | [], _, _ => rfl
  | _ :: _, 0, _ => rfl
  | x :: xs, n + 1, k => by
    show setL v xs n (fun r => k (x :: r)) = _
    rw [setL_eq v xs n]; rfl
def splice (cs : List Value) (off : Nat) (vs : List Value) : List Value := cs.take off ++ vs ++ cs.drop (off + vs.length)
def lfill (place : Nat → Option (Nat × Nat)) (cells : List Value) : List (Nat × Value) → Option (List Value)
  | [] => some cells
  | (i, v) :: rest =>
    match place i with
    | none => none
    | some (off, size) =>
      if (clist v).length ≠ size ∨ off + (clist v).length > cells.length ∨ isTup v = true then none
      else lfill place (splice cells off (clist v)) rest
inductive Out where
  | val (v : Value)
  | call (f : FuncId) (args : List Value)
def strOf (s : ByteArray) : List UInt8 := s.data.toList
def strMk (l : List UInt8) : ByteArray := ⟨⟨l⟩⟩
def byteCells (s : ByteArray) : List Value := (strOf s).map fun b => .int .u8 b.toNat
def bytesOf : List Value → Option (List UInt8)
  | [] => some []
  | .int .u8 n :: r => match bytesOf r with | some l => some (UInt8.ofNat n.toNat :: l) | none => none
  | _ => none
def lessBytes : List UInt8 → List UInt8 → Bool
  | _, [] => false
  | [], _ :: _ => true
  | a :: x, b :: y => a < b || (a == b && lessBytes x y)
def wrapK (k : IntKind) (n : Int) : Int :=
  match n with
  | .ofNat m => (match k with
    | .i64 => (match Nat.ble m 9223372036854775807 with | true => .ofNat m | false => IntKind.i64.wrap (.ofNat m))
    | .u8 => .ofNat (m % 256)
    | k => k.wrap (.ofNat m))
  | .negSucc m => (match k with
    | .i64 => (match Nat.ble m 9223372036854775807 with | true => .negSucc m | false => IntKind.i64.wrap (.negSucc m))
    | k => k.wrap (.negSucc m))
theorem wrapK_eq (k : IntKind) (n : Int) : wrapK k n = k.wrap n := by
  unfold wrapK
  have h64 : ∀ i : Int, -9223372036854775808 ≤ i → i ≤ 9223372036854775807 → IntKind.i64.wrap i = i := fun i h1 h2 => by
    simp only [IntKind.wrap, IntKind.bits, IntKind.signed]
    have : (2 ^ 64 : Int) = 18446744073709551616 := by decide
    have : (2 ^ (64 - 1) : Int) = 9223372036854775808 := by decide
    simp only [*, Bool.true_and, decide_eq_true_eq]
    split <;> omega
  split
  · rename_i m
    split
    · split
      · rename_i hb
        have := Nat.le_of_ble_eq_true hb
        exact (h64 (m : Int) (by omega) (by omega)).symm
      · rfl
    · simp only [IntKind.wrap, IntKind.bits, IntKind.signed, Bool.false_and, Bool.false_eq_true, if_false]
      rfl
    · rfl
  · rename_i m
    split
    · split
      · rename_i hb
        have := Nat.le_of_ble_eq_true hb
        exact (h64 (.negSucc m) (by omega) (by omega)).symm
      · rfl
    · rfl
def eqI : Int → Int → Bool
  | .ofNat a, .ofNat b => Nat.beq a b
  | .negSucc a, .negSucc b => Nat.beq a b
  | _, _ => false
def leI : Int → Int → Bool
  | .ofNat a, .ofNat b => Nat.ble a b
  | .negSucc a, .negSucc b => Nat.ble b a
  | .negSucc _, .ofNat _ => true
  | .ofNat _, .negSucc _ => false
theorem eqI_eq (a b : Int) : eqI a b = decide (a = b) := by
  rw [Bool.eq_iff_iff, decide_eq_true_eq]
  cases a <;> cases b <;> simp only [eqI, Nat.beq_eq, Int.ofNat.injEq, Int.negSucc.injEq, reduceCtorEq] <;> simp
theorem leI_eq (a b : Int) : leI a b = decide (a ≤ b) := by
  rw [Bool.eq_iff_iff, decide_eq_true_eq]
  cases a with
  | ofNat a => cases b with
    | ofNat b => simp only [leI, Nat.ble_eq, Int.ofNat_eq_natCast]; omega
    | negSucc b => simp only [leI, Int.ofNat_eq_natCast]; constructor
                   · intro h; cases h
                   · intro h; omega
  | negSucc a => cases b with
    | ofNat b => simp only [leI, Int.ofNat_eq_natCast]; constructor
                 · intro _; omega
                 · intro _; trivial
    | negSucc b => simp only [leI, Nat.ble_eq]; omega
def xint (op : BinOp) (k : IntKind) (a b : Int) : Option Value :=
  match op with
  | .add => some (.int k (wrapK k (a + b)))
  | .sub => some (.int k (wrapK k (a - b)))
  | .mul => some (.int k (wrapK k (a * b)))
  | .quo => if b = 0 then none else some (.int k (k.wrap (a.tdiv b)))
  | .rem => if b = 0 then none else some (.int k (a.tmod b))
  | .and => some (.int k (k.wrap (BitVec.ofInt k.bits a &&& BitVec.ofInt k.bits b).toNat))
  | .or => some (.int k (k.wrap (BitVec.ofInt k.bits a ||| BitVec.ofInt k.bits b).toNat))
  | .xor => some (.int k (k.wrap (BitVec.ofInt k.bits a ^^^ BitVec.ofInt k.bits b).toNat))
  | .eql => some (.bool (eqI a b))
  | .neq => some (.bool (!eqI a b))
  | .lss => some (.bool (!leI b a))
  | .leq => some (.bool (leI a b))
  | .gtr => some (.bool (!leI a b))
  | .geq => some (.bool (leI b a))
  | _ => none
def xstr (op : BinOp) (x y : ByteArray) : Option Value :=
  match op with
  | .add => if (strOf x).length + (strOf y).length ≤ 140737488355328 then some (.string (strMk (strOf x ++ strOf y))) else none
  | .eql => some (.bool (strOf x == strOf y))
  | .neq => some (.bool (!(strOf x == strOf y)))
  | .lss => some (.bool (lessBytes (strOf x) (strOf y)))
  | .leq => some (.bool (lessBytes (strOf x) (strOf y) || strOf x == strOf y))
  | .gtr => some (.bool (!(lessBytes (strOf x) (strOf y) || strOf x == strOf y)))
  | .geq => some (.bool (!(lessBytes (strOf x) (strOf y))))
  | _ => none
def xshift (op : BinOp) (k : IntKind) (a b : Int) : Option Value :=
  if b < 0 then none
  else match op with
    | .shl => some (.int k (k.wrap (a * 2 ^ (min b.toNat k.bits))))
    | .shr => some (.int k (a.fdiv (2 ^ (min b.toNat k.bits))))
    | _ => none
def cellEq : Value → Value → Option Bool
  | .int k a, .int k' b => if k = k' then some (decide (a = b)) else none
  | .string a, .string b => some (strOf a == strOf b)
  | .bool a, .bool b => some (a == b)
  | _, _ => none
def cellsEq : List Value → List Value → Option Bool
  | [], [] => some true
  | a :: x, b :: y => match cellEq a b, cellsEq x y with
    | some p, some q => some (p && q)
    | _, _ => none
  | _, _ => none
def likes : List Value → List Value → Bool
  | [], [] => true
  | .int k _ :: x, .int k' _ :: y => decide (k = k') && likes x y
  | .string _ :: x, .string _ :: y => likes x y
  | .bool _ :: x, .bool _ :: y => likes x y
  | _, _ => false
noncomputable def aggEq (P : Program) (t : TypeId) (xs ys : List Value) : Option Bool :=
  match tyZero P t with
  | some z => if likes (clist z) xs && likes (clist z) ys then cellsEq xs ys else none
  | none => none
def xbinI (op : BinOp) (k k' : IntKind) (a b : Int) : Option Value :=
  match op with
  | .shl => xshift .shl k a b
  | .shr => xshift .shr k a b
  | op => if k = k' then xint op k a b else none
def xbinB (P : Program) (op : BinOp) (t : TypeId) (a b : Bool) : Option Value :=
  match P.underlying t with
  | some .bool => (match op with | .eql => some (.bool (a == b)) | .neq => some (.bool (!(a == b))) | _ => none)
  | _ => none
noncomputable def xbinA (P : Program) (eqs : List TypeId) (op : BinOp) (t : TypeId) (xs ys : List Value) : Option Value :=
  if eqs.contains t then
    (match aggEq P t xs ys with
    | some b => (match op with | .eql => some (.bool b) | .neq => some (.bool (!b)) | _ => none)
    | none => none)
  else none
noncomputable def xbin (P : Program) (eqs : List TypeId) (op : BinOp) (t : TypeId) (x y : Value) : Option Value :=
  match x with
  | .int k a => (match y with | .int k' b => xbinI op k k' a b | _ => none)
  | .string a => (match y with | .string b => xstr op a b | _ => none)
  | .bool a => (match y with | .bool b => xbinB P op t a b | _ => none)
  | .agg xs => (match y with | .agg ys => xbinA P eqs op t xs.toList ys.toList | _ => none)
  | _ => none
def xun (op : UnOp) (x : Value) : Option Value :=
  match op, x with
  | .not, .bool b => some (.bool (!b))
  | .neg, .int k n => some (.int k (k.wrap (0 - n)))
  | _, _ => none
def low (x : Option Value) (d : Int) : Option Int := match x with | none => some d | some (.int _ i) => some i | _ => none
def xslice (P : Program) (t : TypeId) (x : Value) (lo hi : Option Value) : Option Value :=
  match x with
  | .string s => if tyIsStr P t then
      match low lo 0, low hi ((strOf s).length : Nat) with
      | some l, some h => if 0 ≤ l ∧ l ≤ h ∧ h ≤ ((strOf s).length : Nat) then some (.string (strMk (((strOf s).drop l.toNat).take (h.toNat - l.toNat)))) else none
      | _, _ => none
    else none
  | .slice a len s =>
    match tyElem P t, low lo 0, low hi (len : Nat) with
    | some e, some l, some h => if 0 ≤ l ∧ l ≤ h ∧ h ≤ (len : Nat) ∧ tySz P e ≠ 0 then
        (match a with
        | none => some (.slice none 0 0)
        | some a => if tySz P e = s then some (.slice (some ⟨a.block, a.off + l.toNat * s, none⟩) (h.toNat - l.toNat) s) else none)
      else none
    | _, _, _ => none
  | _ => none
noncomputable def xsource (h : H) (sz : Nat) : Value → Option (Nat × List Value)
  | .slice none 0 _ => some (0, [])
  | .slice (some a) m _ => match h.getK a.block with
    | some b => if a.off + m * sz ≤ b.cells.length then some (m, (b.cells.drop a.off).take (m * sz)) else none
    | none => none
  | .string s => if sz = 1 then some ((strOf s).length, byteCells s) else none
  | _ => none
noncomputable def xappend (P : Program) (lo : Nat) (t xt : TypeId) (s x : Value) (h : H) : Option (Value × H) :=
  match tyElem P t with
  | none => none
  | some e =>
  if tySz P e = 0 ∨ tyBytes P e = 0 ∨ tyIntOrNone P xt = true then none else
  match tyZero P e with
  | none => none
  | some z =>
  if tySz P e ≠ (clist z).length then none else
  match xsource h (tySz P e) x with
  | none => none
  | some (0, _) => match s with | .slice _ _ _ => some (s, h) | _ => none
  | some (m + 1, src) =>
    match s with
    | .slice none 0 0 =>
      if (m + 1) * tyBytes P e ≤ 70368744177664 then some (.slice (some ⟨h.n, 0, none⟩) (m + 1) (tySz P e), h.push ⟨true, src⟩) else none
    | .slice (some a) n s =>
      match h.getK a.block with
      | some b =>
        if b.own = true ∧ lo ≤ a.block ∧ s = tySz P e ∧ a.off + n * tySz P e ≤ b.cells.length ∧ (n + (m + 1)) * tyBytes P e ≤ 70368744177664 then
          some (.slice (some ⟨h.n, 0, none⟩) (n + (m + 1)) s, (h.put a.block none).push ⟨true, (b.cells.drop a.off).take (n * tySz P e) ++ src⟩)
        else none
      | none => none
    | _ => none
noncomputable def xload (P : Program) (t : TypeId) (h : H) : Value → Option Value
  | .pointer (some a) =>
    match h.getK a.block, tyAgg P t with
    | some b, some true => if a.off + tySz P t ≤ b.cells.length then some (.agg ⟨(b.cells.drop a.off).take (tySz P t)⟩) else none
    | some b, some false => b.cells[a.off]?
    | _, _ => none
  | _ => none
noncomputable def xstore (P : Program) (lo : Nat) (t : TypeId) (h : H) (p v : Value) : Option H :=
  match p with
  | .pointer (some a) =>
    match h.getK a.block with
    | some b =>
      if b.own = true ∧ lo ≤ a.block ∧ (clist v).length = tySz P t ∧ a.off + (clist v).length ≤ b.cells.length ∧ isTup v = false ∧ tySz P t ≠ 0 then
        some (h.put a.block (some { b with cells := splice b.cells a.off (clist v) }))
      else none
    | none => none
  | _ => none
noncomputable def xconvert (P : Program) (lo : Nat) (s d : TypeId) (x : Value) (h : H) : Option (Value × H) :=
  match P.underlying s, P.underlying d, x with
  | some _, some (.int k), .int _ n => some (.int k (wrapK k n), h)
  | some .string, some .string, .string _ => some (x, h)
  | some _, some (.slice e), .string b =>
    if tyInt P e = some .u8 ∧ (strOf b).length ≤ 70368744177664 then some (.slice (some ⟨h.n, 0, none⟩) (strOf b).length 1, h.push ⟨true, byteCells b⟩) else none
  | some (.slice _), some (.slice e), .slice (some a) n sz =>
    match h.getK a.block with
    | some b => if tyInt P e = some .u8 ∧ (s == d) = true ∧ b.own = true ∧ lo ≤ a.block ∧ sz = 1 then some (.slice (some ⟨h.n, a.off, none⟩) n sz, (h.put a.block none).push b) else none
    | none => none
  | some (.slice e), some .string, .slice a n _ =>
    if tyInt P e = some .u8 then
      (match a with
      | none => some (.string (strMk []), h)
      | some a => match h.getK a.block with
        | some b => if a.off + n ≤ b.cells.length then
            (match bytesOf ((b.cells.drop a.off).take n) with
            | some l => some (.string (strMk l), h)
            | none => none) else none
        | none => none) else none
  | _, _, _ => none
def xindexAddr (P : Program) (t : TypeId) (x i : Value) : Option Value :=
  match x, i with
  | .slice (some a) len s, .int _ i => match tyElem P t with
    | some e => if 0 ≤ i ∧ i < len ∧ tySz P e = s ∧ tySz P e ≠ 0 then some (.pointer (some ⟨a.block, a.off + i.toNat * tySz P e, none⟩)) else none
    | none => none
  | .pointer (some a), .int _ i => match tyArr P t with
    | some (len, e) => if 0 ≤ i ∧ i < len ∧ tySz P e ≠ 0 then some (.pointer (some ⟨a.block, a.off + i.toNat * tySz P e, none⟩)) else none
    | none => none
  | _, _ => none
def xpart (P : Program) (t : TypeId) (cs : List Value) (off : Nat) : Option Value :=
  match tyAgg P t with
  | some true => some (.agg ⟨(cs.drop off).take (tySz P t)⟩)
  | some false => cs[off]?
  | none => none
def xindex (P : Program) (t : TypeId) (x i : Value) : Option Value :=
  match x, i with
  | .string s, .int _ i => if tyIsStr P t ∧ 0 ≤ i then (match (strOf s)[i.toNat]? with | some b => some (.int .u8 b.toNat) | none => none) else none
  | .agg cs, .int _ i => match tyArr P t with
    | some (len, e) => if 0 ≤ i ∧ i < len ∧ tySz P e ≠ 0 then xpart P e cs.toList (i.toNat * tySz P e) else none
    | none => none
  | _, _ => none
def zeroRow (z : List Value) : Nat → List Value
  | 0 => []
  | n + 1 => z ++ zeroRow z n
def opRes (h : H) : Option Value → Option (Out × H)
  | some v => some (.val v, h)
  | none => none
def opRes2 : Option (Value × H) → Option (Out × H)
  | some (v, h) => some (.val v, h)
  | none => none
section ops
variable (P : Program) (eqs : List TypeId) (lo : Nat) (ρ : Operand → Value)
def opPick (c a b : Value) : Option Value := match c with | .bool true => some a | .bool false => some b | _ => none
noncomputable def opAlloc (t : TypeId) (h : H) : Option (Out × H) := match tyZero P t with
  | some z => some (.val (.pointer (some ⟨h.n, 0, none⟩)), h.push ⟨true, clist z⟩)
  | none => none
def opBox (v : Value) (h : H) : Option (Out × H) := match isTup v with
  | true => none
  | false => some (.val (.pointer (some ⟨h.n, 0, none⟩)), h.push ⟨true, clist v⟩)
noncomputable def opBuild (t : TypeId) (parts : List (Nat × Operand)) : Option Value := match tyZero P t with
  | some z =>
    (match tyFields P t with
    | some pl => (match lfill (fun i => pl[i]?) (clist z) (parts.map fun p => (p.1, ρ p.2)) with
      | some cs => some (.agg ⟨cs⟩) | none => none)
    | none => (match tyArr P t with
      | some (_, e) => if tySz P e = 0 then none else (match lfill (fun i => some (i * tySz P e, tySz P e)) (clist z) (parts.map fun p => (p.1, ρ p.2)) with
        | some cs => some (.agg ⟨cs⟩) | none => none)
      | none => none))
  | none => none
noncomputable def opBuildSlice (t : TypeId) (len : Nat) (parts : List (Nat × Operand)) (h : H) : Option (Out × H) := match tyElem P t with
  | some e => match tyZero P e with
    | some z => if tySz P e = (clist z).length ∧ 0 < tySz P e ∧ len * tySz P e ≤ 16777216 ∧ 0 < len then
        (match lfill (fun i => some (i * tySz P e, tySz P e)) (zeroRow (clist z) len) (parts.map fun p => (p.1, ρ p.2)) with
        | some cs => some (.val (.slice (some ⟨h.n, 0, none⟩) len (tySz P e)), h.push ⟨true, cs⟩)
        | none => none) else none
    | none => none
  | none => none
def opStore (r : Option H) : Option (Out × H) := match r with | some h' => some (.val undef, h') | none => none
def opNil (v : Value) : Option Value := match v with | .pointer (some a) => some (.pointer (some a)) | _ => none
def opFieldAddr (s : TypeId) (f : Nat) (v : Value) : Option Value := match v with
  | .pointer (some a) => (match tyField P s f with
    | some (off, ft) => if tySz P ft = 0 then none else some (.pointer (some ⟨a.block, a.off + off, none⟩))
    | none => none)
  | _ => none
def opField (t : TypeId) (f : Nat) (v : Value) : Option Value := match v with
  | .agg cs => (match tyField P t f with
    | some (off, ft) => xpart P ft cs.toList off
    | none => none)
  | _ => none
def opExtract (i : Nat) (v : Value) : Option Value := match v with | .tuple vs => vs.toList[i]? | _ => none
noncomputable def opMake (t : TypeId) (l c : Value) (h : H) : Option (Out × H) := match tyElem P t, l, c with
  | some e, .int .i64 l, .int .i64 c => match tyZero P e with
    | some z => if l = c ∧ 0 ≤ l ∧ tySz P e = (clist z).length ∧ 0 < tySz P e ∧ tyBytes P e * l ≤ 70368744177664 ∧ l ≤ 70368744177664 then
        some (.val (.slice (some ⟨h.n, 0, none⟩) l.toNat (tySz P e)), h.push ⟨true, zeroRow (clist z) l.toNat⟩) else none
    | none => none
  | _, _, _ => none
def opCallV (f : Value) (args : List Value) (h : H) : Option (Out × H) := match f with
  | .func (.func f) a b => if a.toList.isEmpty && b.toList.isEmpty then some (.call f args, h) else none
  | _ => none
def opLen (t : TypeId) (x : Value) : Option Value := match x with
  | .string s => (match P.underlying t with | some .string => some (.int .i64 ((strOf s).length : Nat)) | _ => none)
  | .slice _ n _ => (match P.underlying t with | some (.slice _) => some (.int .i64 (n : Nat)) | _ => none)
  | _ => none
noncomputable def opCall (c : Call) (h : H) : Option (Out × H) := match c.callee with
  | .value f => opCallV (ρ f) (c.args.toList.map ρ) h
  | .builtin .len => (match c.argTypes.toList with
    | t :: _ => (match c.args.toList with | x :: _ => opRes h (opLen P t (ρ x)) | [] => none)
    | [] => none)
  | .builtin .append => (match c.argTypes.toList with
    | [t, xt] => (match c.args.toList with | [s, x] => opRes2 (xappend P lo t xt (ρ s) (ρ x) h) | _ => none)
    | _ => none)
  | _ => none
def opSlice (t : TypeId) (x : Value) (l hi mx : Option Value) : Option Value := match mx with
  | none => xslice P t x l hi
  | some _ => none
noncomputable def xop (op : Op) (h : H) : Option (Out × H) :=
  match op with
  | .move x | .assign x => some (.val (ρ x), h)
  | .pick c a b => opRes h (opPick (ρ c) (ρ a) (ρ b))
  | .alloc t => opAlloc P t h
  | .box _ x => opBox (ρ x) h
  | .build t parts => opRes h (opBuild P ρ t parts.toList)
  | .buildSlice t len parts => opBuildSlice P ρ t len parts.toList h
  | .load t a => opRes h (xload P t h (ρ a))
  | .store t a v => opStore (xstore P lo t h (ρ a) (ρ v))
  | .nilCheck x => opRes h (opNil (ρ x))
  | .binOp op t x y _ => opRes h (xbin P eqs op t (ρ x) (ρ y))
  | .unOp op _ x => opRes h (xun op (ρ x))
  | .convert s d x => opRes2 (xconvert P lo s d (ρ x) h)
  | .slice t x l hi mx => opRes h (opSlice P t (ρ x) (l.map ρ) (hi.map ρ) (mx.map ρ))
  | .fieldAddr s x f => opRes h (opFieldAddr P s f (ρ x))
  | .field t x f => opRes h (opField P t f (ρ x))
  | .indexAddr t x i => opRes h (xindexAddr P t (ρ x) (ρ i))
  | .index t x i => opRes h (xindex P t (ρ x) (ρ i))
  | .extract x i => opRes h (opExtract i (ρ x))
  | .makeSlice t l c => opMake P t (ρ l) (ρ c) h
  | .call c => opCall P lo ρ c h
  | _ => none
end ops
noncomputable def wants (ops : List Oper) (e : Env) (o : Oper) : Bool :=
  match o.guard with
  | none => true
  | some (j, want) => match nth ops j with
    | some p => match p.dst with
      | some d => (match nth e d with | some (.bool b) => b == want | _ => false)
      | none => false
    | none => false
def eput (e : Env) (dst : Option Nat) (v : Value) : Env := match dst with | some d => e.set d v | none => e
noncomputable def eputL {β : Type} (e : Env) (dst : Option Nat) (v : Value) (k : Env → β) : β := match dst with | some d => setL v e d k | none => k e
@[simp] theorem eputL_eq {β : Type} (e : Env) (dst : Option Nat) (v : Value) (k : Env → β) : eputL e dst v k = k (eput e dst v) := by
  cases dst <;> simp [eputL, eput]
def forceH {β : Type} (h : H) (k : H → β) : β := match h with | ⟨n, bs⟩ => forceN n fun n => k ⟨n, bs⟩
@[simp] theorem forceH_eq {β : Type} (h : H) (k : H → β) : forceH h k = k h := by cases h; simp [forceH]
inductive X where
  | normal
  | exit (id : Nat)
  | ret
abbrev Told := FuncId → Option (Nat → List Value → H → Option (Value × H))
section classes
variable (P : Program)
def rdOf (ρ : Operand → Value) : Op → Option Nat
  | .load _ a => match ρ a with | .pointer (some a) => some a.block | _ => none
  | .convert s d x => if (tyElem P s).isSome && tyIsStr P d then (match ρ x with | .slice (some a) _ _ => some a.block | _ => none) else none
  | _ => none
def tgOf (ρ : Operand → Value) : Op → Option Nat
  | .store _ a _ => match ρ a with | .pointer (some a) => some a.block | _ => none
  | .convert s d x => if (tyElem P s).isSome && (tyElem P d).isSome then (match ρ x with | .slice (some a) _ _ => some a.block | _ => none) else none
  | .call { callee := .builtin .append, args, .. } => match args.toList with
    | s :: _ => (match ρ s with | .slice (some a) _ _ => some a.block | _ => none)
    | [] => none
  | _ => none
def isMut : Op → Bool
  | .store .. => true
  | .convert s d _ => (tyElem P s).isSome && (tyElem P d).isSome
  | .call { callee := .builtin .append, .. } => true
  | _ => false
def isRd : Op → Bool
  | .load .. => true
  | .convert s d _ => (tyElem P s).isSome && tyIsStr P d
  | _ => false
def isCall : Op → Bool
  | .call { callee := .value _, .. } => true
  | _ => false
def befs : List Oper → List Nat → List Nat
  | [], acc => acc
  | o :: r, acc => befs r (acc ++ [o.after.toList.foldl (fun s e => if Region.binds .any e then s ||| 2 ^ e.on ||| acc.getD e.on 0 else s) 0])
def ahead (b : List Nat) (i j : Nat) : Bool := (b.getD j 0).testBit i
def rdsOf : List (Option Nat × Option Nat) → Nat → List (Nat × Nat)
  | [], _ => []
  | (some r, _) :: tr, i => (i, r) :: rdsOf tr (i + 1)
  | (none, _) :: tr, i => rdsOf tr (i + 1)
def tgsOf : List (Option Nat × Option Nat) → Nat → List (Nat × Nat)
  | [], _ => []
  | (_, some t) :: tr, i => (i, t) :: tgsOf tr (i + 1)
  | (_, none) :: tr, i => tgsOf tr (i + 1)
def apartTr (b : List Nat) (x y : Nat × Nat) : Bool := ahead b x.1 y.1 || ahead b y.1 x.1 || !(x.2 == y.2)
def okPairs (ops : List Oper) (rs : List (Nat × Nat)) : List (Nat × Nat) → Bool
  | [] => true
  | t :: ts => let b := befs ops []
    (t :: ts).all fun y => rs.all fun x => apartTr b x y
def okTrace (ops : List Oper) (tr : List (Option Nat × Option Nat)) : Bool := okPairs ops (rdsOf tr 0) (tgsOf tr 0)
end classes
structure Cx where
  P : Program
  eqs : List TypeId
  told : Told
  top : Nat
  low : Nat → World → Prop := fun _ _ => True
section run
variable (C : Cx)
noncomputable def xstep (callf : Nat → FuncId → List Value → H → Option (Value × H)) (draw : Bool) (lo : Nat) (ops : List Oper) (o : Oper) (e : Env) (h : H) : Option (Value × H) :=
  if wants ops e o then
    match xop C.P C.eqs lo (ev e) o.op h with
    | some (.val v, h') => some (v, h')
    | some (.call f args, h') => callf (if draw then max lo h'.n else lo) f args h'
    | none => none
  else some (undef, h)
noncomputable def xopsK (callf : Nat → FuncId → List Value → H → Option (Value × H)) (draw : Bool) (lo : Nat) (ops : List Oper) (o : Oper) (k : Env → H → Option (Env × H)) (e : Env) (h : H) : Option (Env × H) :=
  match xstep C callf draw lo ops o e h with
  | some (v, h') => forceH h' fun h' => forceV v fun v => eputL e o.dst v fun e => k e h'
  | none => none
noncomputable def xops (callf : Nat → FuncId → List Value → H → Option (Value × H)) (draw : Bool) (lo : Nat) (ops : List Oper) (os : List Oper) : Env → H → Option (Env × H) :=
  List.rec (motive := fun _ => Env → H → Option (Env × H)) (fun e h => some (e, h)) (fun o _ ih => xopsK C callf draw lo ops o ih) os
theorem xops_nil (callf : Nat → FuncId → List Value → H → Option (Value × H)) (draw : Bool) (lo : Nat) (ops : List Oper) (e : Env) (h : H) : xops C callf draw lo ops [] e h = some (e, h) := rfl
theorem xops_cons (callf : Nat → FuncId → List Value → H → Option (Value × H)) (draw : Bool) (lo : Nat) (ops : List Oper) (o : Oper) (os : List Oper) (e : Env) (h : H) :
    xops C callf draw lo ops (o :: os) e h = match xstep C callf draw lo ops o e h with
      | some (v, h') => xops C callf draw lo ops os (eput e o.dst v) h'
      | none => none := by
  show xopsK C callf draw lo ops o (xops C callf draw lo ops os) e h = _
  unfold xopsK
  simp only [forceH_eq, forceV_eq, eputL_eq]
noncomputable def xopsTK (callf : Nat → FuncId → List Value → H → Option (Value × H)) (lo : Nat) (ops : List Oper) (o : Oper) (k : Env → H → Option (Env × H × List (Option Nat × Option Nat))) (e : Env) (h : H) :
    Option (Env × H × List (Option Nat × Option Nat)) :=
  match xstep C callf true lo ops o e h with
  | some (v, h') => (match forceH h' (fun h' => forceV v fun v => eputL e o.dst v fun e => k e h') with
    | some (e2, h2, tr) => some (e2, h2, (rdOf C.P (ev e) o.op, tgOf C.P (ev e) o.op) :: tr)
    | none => none)
  | none => none
noncomputable def xopsT (callf : Nat → FuncId → List Value → H → Option (Value × H)) (lo : Nat) (ops : List Oper) (os : List Oper) : Env → H → Option (Env × H × List (Option Nat × Option Nat)) :=
  List.rec (motive := fun _ => Env → H → Option (Env × H × List (Option Nat × Option Nat))) (fun e h => some (e, h, [])) (fun o _ ih => xopsTK C callf lo ops o ih) os
theorem xopsT_nil (callf : Nat → FuncId → List Value → H → Option (Value × H)) (lo : Nat) (ops : List Oper) (e : Env) (h : H) : xopsT C callf lo ops [] e h = some (e, h, []) := rfl
theorem xopsT_cons (callf : Nat → FuncId → List Value → H → Option (Value × H)) (lo : Nat) (ops : List Oper) (o : Oper) (os : List Oper) (e : Env) (h : H) :
    xopsT C callf lo ops (o :: os) e h = match xstep C callf true lo ops o e h with
      | some (v, h') => (match xopsT C callf lo ops os (eput e o.dst v) h' with
        | some (e2, h2, tr) => some (e2, h2, (rdOf C.P (ev e) o.op, tgOf C.P (ev e) o.op) :: tr)
        | none => none)
      | none => none := by
  show xopsTK C callf lo ops o (xopsT C callf lo ops os) e h = _
  unfold xopsTK
  simp only [forceH_eq, forceV_eq, eputL_eq]
noncomputable def xresult (e : Env) (h : H) : ResultVar → Option Value
  | .tmp t => some (nthD e undef t)
  | .cell a t => xload C.P t h (nthD e undef a)
noncomputable def xresults (e : Env) (h : H) : List ResultVar → Option (List Value)
  | [] => some []
  | r :: rs => match xresult C e h r, xresults e h rs with
    | some v, some vs => if isTup v = true then none else some (v :: vs)
    | _, _ => none
def one : List Value → Value
  | [v] => v
  | vs => .tuple ⟨vs⟩
def exSeq (r : Option (X × Env × H)) (k : Env → H → Option (X × Env × H)) : Option (X × Env × H) :=
  match r with
  | some (.normal, e', h') => k e' h'
  | r => r
def exCond (v : Value) (a b : Option (X × Env × H)) : Option (X × Env × H) :=
  match v with
  | .bool true => a
  | .bool false => b
  | _ => none
def exBlock (id : Nat) (r : Option (X × Env × H)) : Option (X × Env × H) :=
  match r with
  | some (.exit i, e', h') => (match Nat.beq i id with | true => some (.normal, e', h') | false => some (.exit i, e', h'))
  | r => r
noncomputable def xcall (run : Nat → Code → Env → H → Option (X × Env × H)) (lo : Nat) (f : FuncId) (args : List Value) (h : H) : Option (Value × H) :=
  match C.told f with
  | some g => g lo args h
  | none =>
  match Nat.ble (f + 1) C.top with
  | true =>
    match nth C.P.funcs.toList f with
    | none => none
    | some fn =>
      match fn.body with
      | none => none
      | some c =>
        match run lo c (args ++ List.replicate (fn.ntmps - args.length) undef) h with
        | some (.normal, e, h') | some (.ret, e, h') => match xresults C e h' fn.results.toList with
          | some vs => some (one vs, h')
          | none => none
        | _ => none
  | false => none
noncomputable def exRegion (run : Nat → Code → Env → H → Option (X × Env × H)) (lo : Nat) (ops : List Oper) (draw : Bool) (e : Env) (h : H) : Option (X × Env × H) :=
  match draw with
  | false => (match xops C (xcall C run) false lo ops ops e h with
    | some (e', h') => some (.normal, e', h')
    | none => none)
  | true => (match xopsT C (xcall C run) lo ops ops e h with
    | some (e', h', tr) => if okTrace ops tr then some (.normal, e', h') else none
    | none => none)
noncomputable def exStep (run : Nat → Code → Env → H → Option (X × Env × H)) (lo : Nat) (c : Code) (e : Env) (h : H) : Option (X × Env × H) :=
    match c with
    | .skip => some (.normal, e, h)
    | .region _ ops draw => exRegion C run lo ops.toList draw e h
    | .seq a b => exSeq (run lo a e h) fun e' h' => run lo b e' h'
    | .cond c a b => exCond (ev e c) (run lo a e h) (run lo b e h)
    | .block id c => exBlock id (run lo c e h)
    | .loop c => exSeq (run lo c e h) fun e' h' => run lo (.loop c) e' h'
    | .exit id => some (.exit id, e, h)
    | .ret => some (.ret, e, h)
    | _ => none
noncomputable def ex (n : Nat) : Nat → Code → Env → H → Option (X × Env × H) :=
  Nat.rec (motive := fun _ => Nat → Code → Env → H → Option (X × Env × H)) (fun _ _ _ _ => none) (fun _ ih => exStep C ih) n
theorem ex_zero (lo : Nat) (c : Code) (e : Env) (h : H) : ex C 0 lo c e h = none := rfl
theorem ex_succ (n lo : Nat) (c : Code) (e : Env) (h : H) : ex C (n + 1) lo c e h = exStep C (ex C n) lo c e h := rfl
noncomputable def xfun (n : Nat) (lo : Nat) (f : FuncId) (args : List Value) (h : H) : Option (Value × H) := xcall C (ex C n) lo f args h
end run
def dryV : Value → Bool
  | .agg cs => cs.toList.all dry
  | v => dry v
def okOperand : Operand → Bool
  | .tmp _ => true
  | .const v => dryV v
  | .global _ => false
  | .func _ => true
def okOp (op : Op) : Bool := (match op with | .load _ (.global _) => true | _ => false) || op.operands.toList.all okOperand
def pairOk (P : Program) (b : List Nat) (ops : Array Oper) (i j : Nat) (oi oj : Oper) : Bool :=
  ahead b i j || (oi.apart ops oj && !(isMut P oi.op && (isMut P oj.op || isCall oj.op)) && !(isCall oi.op && isMut P oj.op))
def okDraw (P : Program) (ops : Array Oper) : Bool :=
  let b := befs ops.toList []
  (ops.toList.zipIdx.all fun (o, j) => (o.after.toList.all fun e => !Region.binds .any e || e.on < j) &&
    (ops.toList.zipIdx.all fun (p, i) => !(i < j) || pairOk P b ops i j p o))
def noConf (P : Program) (ops : List Oper) : Bool :=
  let b := befs ops []
  ops.zipIdx.all fun (o, i) => !isRd P o.op || ops.zipIdx.all fun (p, j) => !isMut P p.op || ahead b i j || ahead b j i
def okOps (P : Program) (ops : Array Oper) (draw : Bool) : Bool :=
  (ops.toList.all fun o => okOp o.op) && (!draw || okDraw P ops)
def okCode (P : Program) : Code → Bool
  | .region _ ops draw => okOps P ops draw
  | .seq a b => okCode P a && okCode P b
  | .cond c a b => okOperand c && okCode P a && okCode P b
  | .block _ c => okCode P c
  | .loop c => okCode P c
  | .skip | .exit _ | .ret => true
  | _ => false
def okFn (P : Program) (fn : Func) : Bool := match fn.body with
  | some c => okCode P c && !(fn.name == "runtime.NumGoroutine")
  | none => true
end Go.Vx
