/- Values as they are, without a heap for what is only read: definitions. -/
import Derived.Test.YtbndpenalacjaaaVxRun
namespace Go.Vx
inductive PC where
  | d (v : Value)
  | row (sz : Nat) (els : List (List PC))
inductive Ce where
  | p (c : PC)
  | own (id sz off len : Nat)
  | ptr (id sz i off : Nat)
  | rp (cs : List PC)
  | top
inductive YV where
  | c (c : Ce)
  | agg (cs : List Ce)
  | tup (vs : List YV)
inductive Ent where
  | dead
  | box (cs : List Ce)
  | row (sz : Nat) (els : List (List PC))
abbrev Sto := List Ent
abbrev yd (v : Value) : YV := .c (.p (.d v))
def pds (vs : List Value) : List Ce := vs.map fun v => .p (.d v)
noncomputable def ofConst (v : Value) : YV := match dry v with
  | true => .c (.p (.d v))
  | false => match v with
    | .agg cs => (match cs.toList.all dry with | true => .agg (pds cs.toList) | false => .c .top)
    | _ => .c .top
noncomputable def yv (e : List YV) : Operand → YV
  | .tmp t => nthD e (.c .top) t
  | .const v => ofConst v
  | .global _ => .c .top
  | .func f => .c (.p (.d (.func (.func f) #[] #[])))
def ycl : YV → Option (List Ce)
  | .c .top => none
  | .c c => some [c]
  | .agg cs => some cs
  | .tup _ => none
def cep : Ce → Option PC
  | .p c => some c
  | _ => none
def pcs : List Ce → Option (List PC)
  | [] => some []
  | .p c :: r => (match pcs r with | some l => some (c :: l) | none => none)
  | _ => none
def ypc : YV → Option (List PC)
  | .c (.p c) => some [c]
  | .agg cs => pcs cs
  | _ => none
def dvs : List Ce → Option (List Value)
  | [] => some []
  | .p (.d v) :: r => (match dvs r with | some l => some (v :: l) | none => none)
  | _ => none
def dvA : YV → Option Value
  | .c (.p (.d v)) => some v
  | .agg cs => (match dvs cs with | some l => some (.agg ⟨l⟩) | none => none)
  | _ => none
def dv : YV → Option Value
  | .c (.p (.d v)) => some v
  | _ => none
def ydry (v : Value) : Option YV := match dry v with | true => some (.c (.p (.d v))) | false => none
def gsplice {α : Type} (cs : List α) (off : Nat) (vs : List α) : List α := cs.take off ++ vs ++ cs.drop (off + vs.length)
inductive YOut where
  | val (v : YV)
  | call (f : FuncId) (args : List YV)
def yRes (s : Sto) : Option YV → Option (YOut × Sto)
  | some v => some (.val v, s)
  | none => none
def yNew (s : Sto) (e : Ent) (v : YV) : Option (YOut × Sto) := some (.val v, s ++ [e])
section
variable (P : Program)
noncomputable def yzero (t : TypeId) : Option (List Value) := match tyZero P t with
  | some z => (match (clist z).all dry with | true => some (clist z) | false => none)
  | none => none
def yPick : YV → YV → YV → Option YV
  | .c (.p (.d (.bool true))), a, _ => some a
  | .c (.p (.d (.bool false))), _, b => some b
  | _, _, _ => none
noncomputable def yAlloc (t : TypeId) (s : Sto) : Option (YOut × Sto) := match yzero P t with
  | some z => yNew s (.box (pds z)) (.c (.ptr s.length 0 0 0))
  | none => none
def yBox (x : YV) (s : Sto) : Option (YOut × Sto) := match ycl x with
  | some cs => yNew s (.box cs) (.c (.ptr s.length 0 0 0))
  | none => none
def yfill (place : Nat → Option (Nat × Nat)) (cells : List Ce) : List (Nat × YV) → Option (List Ce)
  | [] => some cells
  | (i, v) :: rest =>
    match place i with
    | none => none
    | some (off, size) =>
      match ycl v with
      | none => none
      | some cs => if cs.length = size ∧ off + cs.length ≤ cells.length then yfill place (gsplice cells off cs) rest else none
noncomputable def yBuild (ρ : Operand → YV) (t : TypeId) (parts : List (Nat × Operand)) : Option YV := match yzero P t with
  | some z =>
    (match tyFields P t with
    | some pl => (match yfill (fun i => pl[i]?) (pds z) (parts.map fun p => (p.1, ρ p.2)) with
      | some cs => some (.agg cs) | none => none)
    | none => (match tyArr P t with
      | some (_, e) => if tySz P e = 0 then none else (match yfill (fun i => some (i * tySz P e, tySz P e)) (pds z) (parts.map fun p => (p.1, ρ p.2)) with
        | some cs => some (.agg cs) | none => none)
      | none => none))
  | none => none
def yels (sz : Nat) (els : List (List PC)) : List (Nat × YV) → Option (List (List PC))
  | [] => some els
  | (i, v) :: rest =>
    match ypc v with
    | none => none
    | some cs => if cs.length = sz ∧ i < els.length then yels sz (els.set i cs) rest else none
noncomputable def yrow (s : Sto) : YV → Option (Nat × List (List PC))
  | .c (.p (.row sz els)) => some (sz, els)
  | .c (.own id sz off len) => (match nth s id with
    | some (.row z els) => if z = sz ∧ off + len ≤ els.length then some (sz, (els.drop off).take len) else none
    | _ => none)
  | _ => none
noncomputable def yfzC (s : Sto) : Ce → Option (Ce × Sto)
  | .p c => some (.p c, s)
  | .own id sz off len => (match yrow s (.c (.own id sz off len)) with | some (z, els) => some (.p (.row z els), s.set id .dead) | none => none)
  | _ => none
noncomputable def yfzL (s : Sto) : List Ce → Option (List Ce × Sto)
  | [] => some ([], s)
  | c :: cs => (match yfzC s c with
    | some (c', s1) => (match yfzL s1 cs with | some (cs', s2) => some (c' :: cs', s2) | none => none)
    | none => none)
noncomputable def yfzV (s : Sto) : YV → Option (YV × Sto)
  | .c c => (match yfzC s c with | some (c', s1) => some (.c c', s1) | none => none)
  | .agg cs => (match yfzL s cs with | some (cs', s1) => some (.agg cs', s1) | none => none)
  | .tup _ => none
noncomputable def yfzP (s : Sto) : List (Nat × YV) → Option (List (Nat × YV) × Sto)
  | [] => some ([], s)
  | (i, v) :: r => (match yfzV s v with
    | some (v', s1) => (match yfzP s1 r with | some (r', s2) => some ((i, v') :: r', s2) | none => none)
    | none => none)
noncomputable def yBuildRow (e : TypeId) (z : List Value) (len : Nat) : Option (List (Nat × YV) × Sto) → Option (YOut × Sto)
  | some (parts, s) => if tySz P e = z.length ∧ 0 < tySz P e ∧ len * tySz P e ≤ 16777216 ∧ 0 < len then
        (match yels (tySz P e) (List.replicate len (z.map .d)) parts with
        | some els => yNew s (.row (tySz P e) els) (.c (.own s.length (tySz P e) 0 len))
        | none => none) else none
  | none => none
noncomputable def yBuildSlice (ρ : Operand → YV) (t : TypeId) (len : Nat) (parts : List (Nat × Operand)) (s : Sto) : Option (YOut × Sto) := match tyElem P t with
  | some e => match yzero P e with
    | some z => yBuildRow P e z len (yfzP s (parts.map fun p => (p.1, ρ p.2)))
    | none => none
  | none => none
def yfrz (ρ : Operand → YV) : Op → Bool
  | .buildSlice _ _ parts => parts.toList.any fun p => (ypc (ρ p.2)).isNone
  | _ => false
noncomputable def ycells (s : Sto) : YV → Option (List Ce)
  | .c (.ptr id sz i off) => (match nth s id with
    | some (.box cs) => (match sz, i with | 0, 0 => some (cs.drop off) | _, _ => none)
    | some (.row z els) => if z = sz then (match els[i]? with | some cs => some ((cs.drop off).map .p) | none => none) else none
    | _ => none)
  | .c (.rp cs) => some (cs.map .p)
  | _ => none
noncomputable def yLoad (t : TypeId) (s : Sto) (a : YV) : Option YV := match ycells s a with
  | some (c :: cs) => (match tyAgg P t with
    | some true => if tySz P t ≤ cs.length + 1 then some (.agg ((c :: cs).take (tySz P t))) else none
    | some false => some (.c c)
    | none => none)
  | _ => none
noncomputable def yStore (t : TypeId) (s : Sto) (a v : YV) : Option (YOut × Sto) := match a with
  | .c (.ptr id sz i off) => (match nth s id with
    | some (.box cs) => (match sz, i with
      | 0, 0 => (match ycl v with
        | some vs => if vs.length = tySz P t ∧ off + vs.length ≤ cs.length ∧ tySz P t ≠ 0 then some (.val (.c .top), s.set id (.box (gsplice cs off vs))) else none
        | none => none)
      | _, _ => none)
    | some (.row z els) => if z = sz then (match els[i]?, ypc v with
      | some cs, some vs => if vs.length = tySz P t ∧ off + vs.length ≤ cs.length ∧ tySz P t ≠ 0 then some (.val (.c .top), s.set id (.row z (els.set i (gsplice cs off vs)))) else none
      | _, _ => none) else none
    | _ => none)
  | _ => none
def yNil : YV → Option YV
  | .c (.ptr id sz i off) => some (.c (.ptr id sz i off))
  | .c (.rp cs) => some (.c (.rp cs))
  | _ => none
noncomputable def yBin (eqs : List TypeId) (op : BinOp) (t : TypeId) (x y : YV) : Option YV := match dvA x, dvA y with
  | some a, some b => (match xbin P eqs op t a b with | some v => ydry v | none => none)
  | _, _ => none
def yUn (op : UnOp) (x : YV) : Option YV := match dv x with
  | some a => (match xun op a with | some v => ydry v | none => none)
  | none => none
def ybytes : List (List PC) → Option (List Value)
  | [] => some []
  | [.d v] :: r => (match ybytes r with | some l => some (v :: l) | none => none)
  | _ => none
noncomputable def yConvert (sT d : TypeId) (x : YV) (s : Sto) : Option (YOut × Sto) :=
  match P.underlying sT, P.underlying d, dv x with
  | some _, some (.int k), some (.int _ n) => some (.val (.c (.p (.d (.int k (wrapK k n))))), s)
  | some .string, some .string, some (.string b) => some (.val (.c (.p (.d (.string b)))), s)
  | some _, some (.slice e), some (.string b) =>
    if tyInt P e = some .u8 ∧ (strOf b).length ≤ 70368744177664 then yNew s (.row 1 ((byteCells b).map fun v => [.d v])) (.c (.own s.length 1 0 (strOf b).length)) else none
  | some (.slice e), some .string, some (.slice none 0 0) => if tyInt P e = some .u8 then some (.val (.c (.p (.d (.string (strMk []))))), s) else none
  | some (.slice e), some .string, none => if tyInt P e = some .u8 then
      (match yrow s x with
      | some (1, els) => (match ybytes els with
        | some l => (match bytesOf l with | some b => some (.val (.c (.p (.d (.string (strMk b))))), s) | none => none)
        | none => none)
      | _ => none) else none
  | _, _, _ => none
noncomputable def ySlice (t : TypeId) (x : YV) (lo hi : Option Value) : Option YV := match x with
  | .c (.p (.d v)) => (match xslice P t v lo hi with | some v => ydry v | none => none)
  | .c (.p (.row sz els)) => (match tyElem P t, low lo 0, low hi (els.length : Nat) with
    | some e, some l, some h => if 0 ≤ l ∧ l ≤ h ∧ h ≤ (els.length : Nat) ∧ tySz P e ≠ 0 ∧ tySz P e = sz then some (.c (.p (.row sz ((els.drop l.toNat).take (h.toNat - l.toNat))))) else none
    | _, _, _ => none)
  | .c (.own id sz off len) => (match tyElem P t, low lo 0, low hi (len : Nat) with
    | some e, some l, some h => if 0 ≤ l ∧ l ≤ h ∧ h ≤ (len : Nat) ∧ tySz P e ≠ 0 ∧ tySz P e = sz then some (.c (.own id sz (off + l.toNat) (h.toNat - l.toNat))) else none
    | _, _, _ => none)
  | _ => none
def yFieldAddr (t : TypeId) (f : Nat) (x : YV) : Option YV := match tyField P t f with
  | some (o, ft) => if tySz P ft = 0 then none else (match x with
    | .c (.ptr id sz i off) => some (.c (.ptr id sz i (off + o)))
    | .c (.rp cs) => if o ≤ cs.length then some (.c (.rp (cs.drop o))) else none
    | _ => none)
  | none => none
def yPart (t : TypeId) (cs : List Ce) (off : Nat) : Option YV := match tyAgg P t with
  | some true => some (.agg ((cs.drop off).take (tySz P t)))
  | some false => (match cs[off]? with | some c => some (.c c) | none => none)
  | none => none
def yField (t : TypeId) (f : Nat) (x : YV) : Option YV := match x with
  | .agg cs => (match tyField P t f with | some (off, ft) => yPart P ft cs off | none => none)
  | _ => none
def yIndexAddr (t : TypeId) (x i : YV) : Option YV := match dv i with
  | some (.int _ i) => (match x with
    | .c (.own id sz off len) => (match tyElem P t with
      | some e => if 0 ≤ i ∧ i < len ∧ tySz P e = sz ∧ tySz P e ≠ 0 then some (.c (.ptr id sz (off + i.toNat) 0)) else none
      | none => none)
    | .c (.p (.row sz els)) => (match tyElem P t with
      | some e => if 0 ≤ i ∧ tySz P e = sz ∧ tySz P e ≠ 0 then (match els[i.toNat]? with | some cs => some (.c (.rp cs)) | none => none) else none
      | none => none)
    | .c (.ptr id sz i0 off) => (match tyArr P t with
      | some (len, e) => if 0 ≤ i ∧ i < len ∧ tySz P e ≠ 0 then some (.c (.ptr id sz i0 (off + i.toNat * tySz P e))) else none
      | none => none)
    | .c (.rp cs) => (match tyArr P t with
      | some (len, e) => if 0 ≤ i ∧ i < len ∧ tySz P e ≠ 0 ∧ i.toNat * tySz P e ≤ cs.length then some (.c (.rp (cs.drop (i.toNat * tySz P e)))) else none
      | none => none)
    | _ => none)
  | _ => none
def yIndex (t : TypeId) (x i : YV) : Option YV := match dv i with
  | some (.int k i) => (match x with
    | .c (.p (.d v)) => (match xindex P t v (.int k i) with | some v => ydry v | none => none)
    | .agg cs => (match tyArr P t with
      | some (len, e) => if 0 ≤ i ∧ i < len ∧ tySz P e ≠ 0 then yPart P e cs (i.toNat * tySz P e) else none
      | none => none)
    | _ => none)
  | _ => none
def yExtract (i : Nat) : YV → Option YV
  | .tup vs => vs[i]?
  | _ => none
noncomputable def yMake (t : TypeId) (l c : YV) (s : Sto) : Option (YOut × Sto) := match tyElem P t, dv l, dv c with
  | some e, some (.int .i64 l), some (.int .i64 c) => match yzero P e with
    | some z => if l = c ∧ 0 ≤ l ∧ tySz P e = z.length ∧ 0 < tySz P e ∧ tyBytes P e * l ≤ 70368744177664 ∧ l ≤ 70368744177664 then
        yNew s (.row (tySz P e) (List.replicate l.toNat (z.map .d))) (.c (.own s.length (tySz P e) 0 l.toNat)) else none
    | none => none
  | _, _, _ => none
noncomputable def yLen (t : TypeId) (x : YV) : Option YV := match x with
  | .c (.p (.d v)) => (match opLen P t v with | some v => ydry v | none => none)
  | .c (.p (.row _ els)) => (match P.underlying t with | some (.slice _) => some (yd (.int .i64 (els.length : Nat))) | _ => none)
  | .c (.own _ _ _ len) => (match P.underlying t with | some (.slice _) => some (yd (.int .i64 (len : Nat))) | _ => none)
  | _ => none
noncomputable def ySource (s : Sto) (sz : Nat) (x : YV) : Option (List (List PC)) := match x with
  | .c (.p (.d (.slice none 0 _))) => some []
  | .c (.p (.d (.string b))) => if sz = 1 then some ((byteCells b).map fun v => [.d v]) else none
  | x => (match yrow s x with | some (z, els) => if z = sz then some els else none | none => none)
noncomputable def yAppend (t xt : TypeId) (sv x : YV) (s : Sto) : Option (YOut × Sto) :=
  match tyElem P t with
  | none => none
  | some e =>
  match yzero P e with
  | none => none
  | some z =>
  if tySz P e ≠ 0 ∧ tyBytes P e ≠ 0 ∧ tyIntOrNone P xt = false ∧ tySz P e = z.length then
    match ySource s (tySz P e) x with
    | none => none
    | some src =>
      match sv with
      | .c (.p (.d (.slice none 0 0))) => if src.length * tyBytes P e ≤ 70368744177664 then
          yNew s (.row (tySz P e) src) (.c (.own s.length (tySz P e) 0 src.length)) else none
      | .c (.own id sz off len) => (match nth s id with
        | some (.row z els) => if z = sz ∧ sz = tySz P e ∧ off = 0 ∧ len ≤ els.length ∧ (len + src.length) * tyBytes P e ≤ 70368744177664 then
            yNew (s.set id .dead) (.row sz (els.take len ++ src)) (.c (.own s.length sz 0 (len + src.length))) else none
        | _ => none)
      | _ => none
  else none
noncomputable def yCall (ρ : Operand → YV) (c : Call) (s : Sto) : Option (YOut × Sto) := match c.callee with
  | .value f => (match ρ f with
    | .c (.p (.d (.func (.func f) a b))) => if a.toList.isEmpty && b.toList.isEmpty then some (.call f (c.args.toList.map ρ), s) else none
    | _ => none)
  | .builtin .len => (match c.argTypes.toList with
    | t :: _ => (match c.args.toList with | x :: _ => yRes s (yLen P t (ρ x)) | [] => none)
    | [] => none)
  | .builtin .append => (match c.argTypes.toList with
    | [t, xt] => (match c.args.toList with | [a, x] => yAppend P t xt (ρ a) (ρ x) s | _ => none)
    | _ => none)
  | _ => none
noncomputable def yop (eqs : List TypeId) (ρ : Operand → YV) (op : Op) (s : Sto) : Option (YOut × Sto) :=
  match op with
  | .move x | .assign x => some (.val (ρ x), s)
  | .pick c a b => yRes s (yPick (ρ c) (ρ a) (ρ b))
  | .alloc t => yAlloc P t s
  | .box _ x => yBox (ρ x) s
  | .build t parts => yRes s (yBuild P ρ t parts.toList)
  | .buildSlice t len parts => yBuildSlice P ρ t len parts.toList s
  | .load t a => yRes s (yLoad P t s (ρ a))
  | .store t a v => yStore P t s (ρ a) (ρ v)
  | .nilCheck x => yRes s (yNil (ρ x))
  | .binOp op t x y _ => yRes s (yBin P eqs op t (ρ x) (ρ y))
  | .unOp op _ x => yRes s (yUn op (ρ x))
  | .convert sT d x => yConvert P sT d (ρ x) s
  | .slice t x l hi none => (match (match l with | some l => (dv (ρ l)).map some | none => some none), (match hi with | some h => (dv (ρ h)).map some | none => some none) with
    | some l, some h => yRes s (ySlice P t (ρ x) l h)
    | _, _ => none)
  | .fieldAddr t x f => yRes s (yFieldAddr P t f (ρ x))
  | .field t x f => yRes s (yField P t f (ρ x))
  | .indexAddr t x i => yRes s (yIndexAddr P t (ρ x) (ρ i))
  | .index t x i => yRes s (yIndex P t (ρ x) (ρ i))
  | .extract x i => yRes s (yExtract i (ρ x))
  | .makeSlice t l c => yMake P t (ρ l) (ρ c) s
  | .call c => yCall P ρ c s
  | _ => none
end
end Go.Vx
