/- A functional interpreter of the translated program over a heap of its own: definitions. -/
import Derived.Orders
import Derived.Below
namespace Go.Vx
structure Blk where
 own:Bool
 cells:List Value
structure H where
 n:Nat
 bs:List (Option Blk)
noncomputable def By {α:Type} (xs:List α):Nat→Option α:=
 List.rec (motive:=fun _=>Nat→Option α) (fun _=>none) (fun x _ ih n=>Nat.rec (motive:=fun _=>Option α) (some x) (fun m _=>ih m) n) xs
theorem Cf {α:Type}:∀(xs:List α) (n:Nat),By xs n=xs[n]?
 |[],n=>by simp [By]
 |x::xs,0=>rfl
 |x::xs,n+1=>by rw [List.getElem?_cons_succ,←Cf xs n];rfl
noncomputable def Gi {α:Type} (xs:List α) (d:α):Nat→α:=
 List.rec (motive:=fun _=>Nat→α) (fun _=>d) (fun x _ ih n=>Nat.rec (motive:=fun _=>α) x (fun m _=>ih m) n) xs
theorem F0 {α:Type} (d:α):∀(xs:List α) (n:Nat),Gi xs d n=xs.getD n d
 |[],n=>by simp [Gi]
 |x::xs,0=>rfl
 |x::xs,n+1=>by rw [List.getD_cons_succ,←F0 d xs n];rfl
def H.get (h:H) (i:Nat):Option Blk:=if i<h.n then (h.bs[h.n - 1 - i]?).join else none
noncomputable def H.getK (h:H) (i:Nat):Option Blk:=match Nat.ble (i+1) h.n with
 |true=>(match By h.bs (h.n - 1 - i) with|some b=>b|none=>none)
 |false=>none
theorem H.getK_eq (h:H) (i:Nat):h.getK i=h.get i:=by
 unfold H.getK H.get
 rw [Cf]
 cases hb:Nat.ble (i+1) h.n with
 |true=>
  have hlt:i<h.n:=Nat.le_of_ble_eq_true hb
  rw [if_pos hlt];cases h.bs[h.n - 1 - i]?<;>rfl
 |false=>
  have hlt:¬i<h.n:=fun h1=>by rw [Nat.ble_eq_true_of_le h1] at hb;cases hb
  rw [if_neg hlt]
def H.push (h:H) (b:Blk):H:=⟨h.n+1,some b::h.bs⟩
def H.put (h:H) (i:Nat) (b:Option Blk):H:=⟨h.n,h.bs.set (h.n - 1 - i) b⟩
abbrev BF:=List Value
noncomputable def ev (e:BF):Operand→Value
 |.tmp t=>Gi e undef t
 |.const v=>v
 |.global _=>undef
 |.func f=>.func (.func f) #[] #[]
def clist:Value→List Value
 |.agg cs=>cs.toList
 |v=>[v]
def dry:Value→Bool
 |.bool _|.int _ _|.string _|.nilFunc|.nilIface|.float _ _=>true
 |.pointer none=>true
 |.slice none 0 0=>true
 |.func (.func _) a b=>a.toList.isEmpty&&b.toList.isEmpty
 |_=>false
def Dv:Value→Bool
 |.tuple _=>true
 |_=>false
section types
variable (P:Program)
def Ab (t:TypeId):Nat:=match P.info? t with|some i=>i.size|none=>0
def A0 (t:TypeId):Nat:=match P.info? t with|some i=>i.bytes|none=>0
def Bw (t:TypeId):Option Bool:=match P.underlying t with
 |some (.struct _)|some (.array _ _)=>some true
 |some _=>some false
 |none=>none
noncomputable def Cv (t:TypeId):Option Value:=match By P.types.toList t with
 |some i=>(match i.zero with|some z=>(match Dv z with|true=>none|false=>some z)|none=>none)
 |none=>none
def Bt (t:TypeId):Option TypeId:=match P.underlying t with|some (.slice e)=>some e|_=>none
def A5 (s:TypeId) (f:Nat):Option (Nat×TypeId):=match P.underlying s with
 |some (.struct fs)=>match fs.toList[f]? with|some f=>some (f.offset,f.type)|none=>none
 |_=>none
def C3 (s:TypeId):Option (List (Nat×Nat)):=match P.underlying s with
 |some (.struct fs)=>if fs.toList.all (fun f=>(P.info? f.type).isSome) then some (fs.toList.map fun f=>(f.offset,Ab P f.type)) else none
 |_=>none
def J4 (t:TypeId):Option (Nat×TypeId):=match P.underlying t with|some (.array n e)=>some (n,e)|_=>none
def BJ (t:TypeId):Bool:=match P.underlying t with|some .string=>true|_=>false
def Ac (t:TypeId):Bool:=match P.underlying t with|some (.int _)=>true|some _=>false|none=>true
def G4 (t:TypeId):Option IntKind:=match P.underlying t with|some (.int k)=>some k|_=>none
end types
def IA {α:Type} (n:Nat) (k:Nat→α):α:=match n with|0=>k 0|m+1=>k (m+1)
def T1 {α:Type} (i:Int) (k:Int→α):α:=match i with|.ofNat n=>IA n fun n=>k (.ofNat n)|.negSucc n=>IA n fun n=>k (.negSucc n)
def RI {α:Type} (v:Value) (k:Value→α):α:=
 match v with
 |.bool b=>(match b with|true=>k (.bool true)|false=>k (.bool false))
 |.int ik n=>T1 n fun n=>k (.int ik n)
 |.pointer (some a)=>IA a.block fun b=>IA a.off fun o=>k (.pointer (some ⟨b,o,a.spot⟩))
 |.slice (some a) n c=>IA a.block fun b=>IA a.off fun o=>IA n fun n=>k (.slice (some ⟨b,o,a.spot⟩) n c)
 |v=>k v
@[simp] theorem kO {α:Type} (n:Nat) (k:Nat→α):IA n k=k n:=by cases n<;>rfl
@[simp] theorem kM {α:Type} (i:Int) (k:Int→α):T1 i k=k i:=by cases i<;>simp [T1]
@[simp] theorem PS {α:Type} (v:Value) (k:Value→α):RI v k=k v:=by
 unfold RI
 split
 ·split<;>rfl
 all_goals simp
noncomputable def iG {α β:Type} (v:α) (xs:List α):Nat→(List α→β)→β:=
 List.rec (motive:=fun _=>Nat→(List α→β)→β) (fun _ k=>k []) (fun x xs ih n=>Nat.rec (motive:=fun _=>(List α→β)→β) (fun k=>k (v::xs)) (fun m _ k=>ih m fun r=>k (x::r)) n) xs
@[simp] theorem dX {α β:Type} (v:α):∀(xs:List α) (n:Nat) (k:List α→β),iG v xs n k=k (xs.set n v)
 |[],_,_=>rfl
 |_::_,0,_=>rfl
 |x::xs,n+1,k=>by
  show iG v xs n (fun r=>k (x::r))=_
  rw [dX v xs n];rfl
def splice (cs:List Value) (off:Nat) (vs:List Value):List Value:=cs.take off++vs++cs.drop (off+vs.length)
def Fh (place:Nat→Option (Nat×Nat)) (cells:List Value):List (Nat×Value)→Option (List Value)
 |[]=>some cells
 |(i,v)::rest=>
  match place i with
  |none=>none
  |some (off,size)=>
   if (clist v).length≠size∨off+(clist v).length>cells.length∨Dv v=true then none
   else Fh place (splice cells off (clist v)) rest
inductive Out where
 |val (v:Value)
 |call (f:FuncId) (args:List Value)
def AA (s:ByteArray):List UInt8:=s.data.toList
def AI (l:List UInt8):ByteArray:=⟨⟨l⟩⟩
def BE (s:ByteArray):List Value:=(AA s).map fun b=>.int .u8 b.toNat
def bytesOf:List Value→Option (List UInt8)
 |[]=>some []
 |.int .u8 n::r=>match bytesOf r with|some l=>some (UInt8.ofNat n.toNat::l)|none=>none
 |_=>none
def Bz:List UInt8→List UInt8→Bool
 |_,[]=>false
 |[],_::_=>true
 |a::x,b::y=>a<b||(a==b&&Bz x y)
def AG (k:IntKind) (n:Int):Int:=
 match n with
 |.ofNat m=>(match k with
  |.i64=>(match Nat.ble m 9223372036854775807 with|true=>.ofNat m|false=>IntKind.i64.wrap (.ofNat m))
  |.u8=>.ofNat (m % 256)
  |k=>k.wrap (.ofNat m))
 |.negSucc m=>(match k with
  |.i64=>(match Nat.ble m 9223372036854775807 with|true=>.negSucc m|false=>IntKind.i64.wrap (.negSucc m))
  |k=>k.wrap (.negSucc m))
theorem D0 (k:IntKind) (n:Int):AG k n=k.wrap n:=by
 unfold AG
 have h64:∀i:Int, -9223372036854775808≤i→i≤9223372036854775807→IntKind.i64.wrap i=i:=fun i h1 h2=>by
  simp only [IntKind.wrap,IntKind.bits,IntKind.signed]
  have:(2 ^ 64:Int)=18446744073709551616:=by decide
  have:(2 ^ (64 - 1):Int)=9223372036854775808:=by decide
  simp only [*,Bool.true_and,decide_eq_true_eq]
  split<;>omega
 split
 ·rename_i m
  split
  ·split
   ·rename_i hb
    have:=Nat.le_of_ble_eq_true hb
    exact (h64 (m:Int) (by omega) (by omega)).symm
   ·rfl
  ·simp only [IntKind.wrap,IntKind.bits,IntKind.signed,Bool.false_and,Bool.false_eq_true,if_false]
   rfl
  ·rfl
 ·rename_i m
  split
  ·split
   ·rename_i hb
    have:=Nat.le_of_ble_eq_true hb
    exact (h64 (.negSucc m) (by omega) (by omega)).symm
   ·rfl
  ·rfl
def AJ:Int→Int→Bool
 |.ofNat a,.ofNat b=>Nat.beq a b
 |.negSucc a,.negSucc b=>Nat.beq a b
 |_,_=>false
def AN:Int→Int→Bool
 |.ofNat a,.ofNat b=>Nat.ble a b
 |.negSucc a,.negSucc b=>Nat.ble b a
 |.negSucc _,.ofNat _=>true
 |.ofNat _,.negSucc _=>false
theorem BN (a b:Int):AJ a b=decide (a=b):=by
 rw [Bool.eq_iff_iff,decide_eq_true_eq]
 cases a<;>cases b<;>simp only [AJ,Nat.beq_eq,Int.ofNat.injEq,Int.negSucc.injEq,reduceCtorEq]<;>simp
theorem HG (a b : Int) : AN a b = decide (a ≤ b) := by
  rw [Bool.eq_iff_iff, decide_eq_true_eq]
  cases a with
  | ofNat a => cases b with
    | ofNat b => simp only [AN, Nat.ble_eq, Int.ofNat_eq_natCast]; omega
    | negSucc b => simp only [AN, Int.ofNat_eq_natCast]; constructor
                   · intro h; cases h
                   · intro h; omega
  | negSucc a => cases b with
    | ofNat b => simp only [AN, Int.ofNat_eq_natCast]; constructor
                 · intro _; omega
                 · intro _; trivial
    | negSucc b => simp only [AN, Nat.ble_eq]; omega
def D3 (op:BinOp) (k:IntKind) (a b:Int):Option Value:=
 match op with
 |.add=>some (.int k (AG k (a+b)))
 |.sub=>some (.int k (AG k (a - b)))
 |.mul=>some (.int k (AG k (a*b)))
 |.quo=>if b=0 then none else some (.int k (k.wrap (a.tdiv b)))
 |.rem=>if b=0 then none else some (.int k (a.tmod b))
 |.and=>some (.int k (k.wrap (BitVec.ofInt k.bits a&&&BitVec.ofInt k.bits b).toNat))
 |.or=>some (.int k (k.wrap (BitVec.ofInt k.bits a|||BitVec.ofInt k.bits b).toNat))
 |.xor=>some (.int k (k.wrap (BitVec.ofInt k.bits a ^^^ BitVec.ofInt k.bits b).toNat))
 |.eql=>some (.bool (AJ a b))
 |.neq=>some (.bool (!AJ a b))
 |.lss=>some (.bool (!AN b a))
 |.leq=>some (.bool (AN a b))
 |.gtr=>some (.bool (!AN a b))
 |.geq=>some (.bool (AN b a))
 |_=>none
def Cr (op:BinOp) (x y:ByteArray):Option Value:=
 match op with
 |.add=>if (AA x).length+(AA y).length≤140737488355328 then some (.string (AI (AA x++AA y))) else none
 |.eql=>some (.bool (AA x==AA y))
 |.neq=>some (.bool (!(AA x==AA y)))
 |.lss=>some (.bool (Bz (AA x) (AA y)))
 |.leq=>some (.bool (Bz (AA x) (AA y)||AA x==AA y))
 |.gtr=>some (.bool (!(Bz (AA x) (AA y)||AA x==AA y)))
 |.geq=>some (.bool (!(Bz (AA x) (AA y))))
 |_=>none
def D8 (op:BinOp) (k:IntKind) (a b:Int):Option Value:=
 if b<0 then none
 else match op with
  |.shl=>some (.int k (k.wrap (a*2 ^ (min b.toNat k.bits))))
  |.shr=>some (.int k (a.fdiv (2 ^ (min b.toNat k.bits))))
  |_=>none
def JG:Value→Value→Option Bool
 |.int k a,.int k' b=>if k=k' then some (decide (a=b)) else none
 |.string a,.string b=>some (AA a==AA b)
 |.bool a,.bool b=>some (a==b)
 |_,_=>none
def EK:List Value→List Value→Option Bool
 |[],[]=>some true
 |a::x,b::y=>match JG a b,EK x y with
  |some p,some q=>some (p&&q)
  |_,_=>none
 |_,_=>none
def CO:List Value→List Value→Bool
 |[],[]=>true
 |.int k _::x,.int k' _::y=>decide (k=k')&&CO x y
 |.string _::x,.string _::y=>CO x y
 |.bool _::x,.bool _::y=>CO x y
 |_,_=>false
noncomputable def HU (P:Program) (t:TypeId) (xs ys:List Value):Option Bool:=
 match Cv P t with
 |some z=>if CO (clist z) xs&&CO (clist z) ys then EK xs ys else none
 |none=>none
def LZ (op:BinOp) (k k':IntKind) (a b:Int):Option Value:=
 match op with
 |.shl=>D8 .shl k a b
 |.shr=>D8 .shr k a b
 |op=>if k=k' then D3 op k a b else none
def Kf (P:Program) (op:BinOp) (t:TypeId) (a b:Bool):Option Value:=
 match P.underlying t with
 |some .bool=>(match op with|.eql=>some (.bool (a==b))|.neq=>some (.bool (!(a==b)))|_=>none)
 |_=>none
noncomputable def Og (P:Program) (eqs:List TypeId) (op:BinOp) (t:TypeId) (xs ys:List Value):Option Value:=
 if eqs.contains t then
  (match HU P t xs ys with
  |some b=>(match op with|.eql=>some (.bool b)|.neq=>some (.bool (!b))|_=>none)
  |none=>none)
 else none
noncomputable def EH (P:Program) (eqs:List TypeId) (op:BinOp) (t:TypeId) (x y:Value):Option Value:=
 match x with
 |.int k a=>(match y with|.int k' b=>LZ op k k' a b|_=>none)
 |.string a=>(match y with|.string b=>Cr op a b|_=>none)
 |.bool a=>(match y with|.bool b=>Kf P op t a b|_=>none)
 |.agg xs=>(match y with|.agg ys=>Og P eqs op t xs.toList ys.toList|_=>none)
 |_=>none
def VT (op:UnOp) (x:Value):Option Value:=
 match op,x with
 |.not,.bool b=>some (.bool (!b))
 |.neg,.int k n=>some (.int k (k.wrap (0 - n)))
 |_,_=>none
def low (x:Option Value) (d:Int):Option Int:=match x with|none=>some d|some (.int _ i)=>some i|_=>none
def Aw (P:Program) (t:TypeId) (x:Value) (lo hi:Option Value):Option Value:=
 match x with
 |.string s=>if BJ P t then
   match low lo 0,low hi ((AA s).length:Nat) with
   |some l,some h=>if 0≤l∧l≤h∧h≤((AA s).length:Nat) then some (.string (AI (((AA s).drop l.toNat).take (h.toNat - l.toNat)))) else none
   |_,_=>none
  else none
 |.slice a len s=>
  match Bt P t,low lo 0,low hi (len:Nat) with
  |some e,some l,some h=>if 0≤l∧l≤h∧h≤(len:Nat)∧Ab P e≠0 then
    (match a with
    |none=>some (.slice none 0 0)
    |some a=>if Ab P e=s then some (.slice (some ⟨a.block,a.off+l.toNat*s,none⟩) (h.toNat - l.toNat) s) else none)
   else none
  |_,_,_=>none
 |_=>none
noncomputable def EW (h:H) (sz:Nat):Value→Option (Nat×List Value)
 |.slice none 0 _=>some (0,[])
 |.slice (some a) m _=>match h.getK a.block with
  |some b=>if a.off+m*sz≤b.cells.length then some (m,(b.cells.drop a.off).take (m*sz)) else none
  |none=>none
 |.string s=>if sz=1 then some ((AA s).length,BE s) else none
 |_=>none
noncomputable def EZ (P:Program) (lo:Nat) (t xt:TypeId) (s x:Value) (h:H):Option (Value×H):=
 match Bt P t with
 |none=>none
 |some e=>
 if Ab P e=0∨A0 P e=0∨Ac P xt=true then none else
 match Cv P e with
 |none=>none
 |some z=>
 if Ab P e≠(clist z).length then none else
 match EW h (Ab P e) x with
 |none=>none
 |some (0,_)=>match s with|.slice _ _ _=>some (s,h)|_=>none
 |some (m+1,src)=>
  match s with
  |.slice none 0 0=>
   if (m+1)*A0 P e≤70368744177664 then some (.slice (some ⟨h.n,0,none⟩) (m+1) (Ab P e),h.push ⟨true,src⟩) else none
  |.slice (some a) n s=>
   match h.getK a.block with
   |some b=>
    if b.own=true∧lo≤a.block∧s=Ab P e∧a.off+n*Ab P e≤b.cells.length∧(n+(m+1))*A0 P e≤70368744177664 then
     some (.slice (some ⟨h.n,0,none⟩) (n+(m+1)) s,(h.put a.block none).push ⟨true,(b.cells.drop a.off).take (n*Ab P e)++src⟩)
    else none
   |none=>none
  |_=>none
noncomputable def G0 (P:Program) (t:TypeId) (h:H):Value→Option Value
 |.pointer (some a)=>
  match h.getK a.block,Bw P t with
  |some b,some true=>if a.off+Ab P t≤b.cells.length then some (.agg ⟨(b.cells.drop a.off).take (Ab P t)⟩) else none
  |some b,some false=>b.cells[a.off]?
  |_,_=>none
 |_=>none
noncomputable def Fv (P:Program) (lo:Nat) (t:TypeId) (h:H) (p v:Value):Option H:=
 match p with
 |.pointer (some a)=>
  match h.getK a.block with
  |some b=>
   if b.own=true∧lo≤a.block∧(clist v).length=Ab P t∧a.off+(clist v).length≤b.cells.length∧Dv v=false∧Ab P t≠0 then
    some (h.put a.block (some {b with cells:=splice b.cells a.off (clist v)}))
   else none
  |none=>none
 |_=>none
noncomputable def Bi (P:Program) (lo:Nat) (s d:TypeId) (x:Value) (h:H):Option (Value×H):=
 match P.underlying s,P.underlying d,x with
 |some _,some (.int k),.int _ n=>some (.int k (AG k n),h)
 |some .string,some .string,.string _=>some (x,h)
 |some _,some (.slice e),.string b=>
  if G4 P e=some .u8∧(AA b).length≤70368744177664 then some (.slice (some ⟨h.n,0,none⟩) (AA b).length 1,h.push ⟨true,BE b⟩) else none
 |some (.slice _),some (.slice e),.slice (some a) n sz=>
  match h.getK a.block with
  |some b=>if G4 P e=some .u8∧(s==d)=true∧b.own=true∧lo≤a.block∧sz=1 then some (.slice (some ⟨h.n,a.off,none⟩) n sz,(h.put a.block none).push b) else none
  |none=>none
 |some (.slice e),some .string,.slice a n _=>
  if G4 P e=some .u8 then
   (match a with
   |none=>some (.string (AI []),h)
   |some a=>match h.getK a.block with
    |some b=>if a.off+n≤b.cells.length then
      (match bytesOf ((b.cells.drop a.off).take n) with
      |some l=>some (.string (AI l),h)
      |none=>none) else none
    |none=>none) else none
 |_,_,_=>none
def CL (P:Program) (t:TypeId) (x i:Value):Option Value:=
 match x,i with
 |.slice (some a) len s,.int _ i=>match Bt P t with
  |some e=>if 0≤i∧i<len∧Ab P e=s∧Ab P e≠0 then some (.pointer (some ⟨a.block,a.off+i.toNat*Ab P e,none⟩)) else none
  |none=>none
 |.pointer (some a),.int _ i=>match J4 P t with
  |some (len,e)=>if 0≤i∧i<len∧Ab P e≠0 then some (.pointer (some ⟨a.block,a.off+i.toNat*Ab P e,none⟩)) else none
  |none=>none
 |_,_=>none
def Ka (P:Program) (t:TypeId) (cs:List Value) (off:Nat):Option Value:=
 match Bw P t with
 |some true=>some (.agg ⟨(cs.drop off).take (Ab P t)⟩)
 |some false=>cs[off]?
 |none=>none
def AV (P:Program) (t:TypeId) (x i:Value):Option Value:=
 match x,i with
 |.string s,.int _ i=>if BJ P t∧0≤i then (match (AA s)[i.toNat]? with|some b=>some (.int .u8 b.toNat)|none=>none) else none
 |.agg cs,.int _ i=>match J4 P t with
  |some (len,e)=>if 0≤i∧i<len∧Ab P e≠0 then Ka P e cs.toList (i.toNat*Ab P e) else none
  |none=>none
 |_,_=>none
def DK (z:List Value):Nat→List Value
 |0=>[]
 |n+1=>z++DK z n
def De (h:H):Option Value→Option (Out×H)
 |some v=>some (.val v,h)
 |none=>none
def Fq:Option (Value×H)→Option (Out×H)
 |some (v,h)=>some (.val v,h)
 |none=>none
section ops
variable (P:Program) (eqs:List TypeId) (lo:Nat) (ρ:Operand→Value)
def Li (c a b:Value):Option Value:=match c with|.bool true=>some a|.bool false=>some b|_=>none
noncomputable def Gp (t:TypeId) (h:H):Option (Out×H):=match Cv P t with
 |some z=>some (.val (.pointer (some ⟨h.n,0,none⟩)),h.push ⟨true,clist z⟩)
 |none=>none
def Mc (v:Value) (h:H):Option (Out×H):=match Dv v with
 |true=>none
 |false=>some (.val (.pointer (some ⟨h.n,0,none⟩)),h.push ⟨true,clist v⟩)
noncomputable def Gw (t:TypeId) (parts:List (Nat×Operand)):Option Value:=match Cv P t with
 |some z=>
  (match C3 P t with
  |some pl=>(match Fh (fun i=>pl[i]?) (clist z) (parts.map fun p=>(p.1,ρ p.2)) with
   |some cs=>some (.agg ⟨cs⟩)|none=>none)
  |none=>(match J4 P t with
   |some (_,e)=>if Ab P e=0 then none else (match Fh (fun i=>some (i*Ab P e,Ab P e)) (clist z) (parts.map fun p=>(p.1,ρ p.2)) with
    |some cs=>some (.agg ⟨cs⟩)|none=>none)
   |none=>none))
 |none=>none
noncomputable def CQ (t:TypeId) (len:Nat) (parts:List (Nat×Operand)) (h:H):Option (Out×H):=match Bt P t with
 |some e=>match Cv P e with
  |some z=>if Ab P e=(clist z).length∧0<Ab P e∧len*Ab P e≤16777216∧0<len then
    (match Fh (fun i=>some (i*Ab P e,Ab P e)) (DK (clist z) len) (parts.map fun p=>(p.1,ρ p.2)) with
    |some cs=>some (.val (.slice (some ⟨h.n,0,none⟩) len (Ab P e)),h.push ⟨true,cs⟩)
    |none=>none) else none
  |none=>none
 |none=>none
def JL (r:Option H):Option (Out×H):=match r with|some h'=>some (.val undef,h')|none=>none
def P0 (v:Value):Option Value:=match v with|.pointer (some a)=>some (.pointer (some a))|_=>none
def C8 (s:TypeId) (f:Nat) (v:Value):Option Value:=match v with
 |.pointer (some a)=>(match A5 P s f with
  |some (off,ft)=>if Ab P ft=0 then none else some (.pointer (some ⟨a.block,a.off+off,none⟩))
  |none=>none)
 |_=>none
def Gq (t:TypeId) (f:Nat) (v:Value):Option Value:=match v with
 |.agg cs=>(match A5 P t f with
  |some (off,ft)=>Ka P ft cs.toList off
  |none=>none)
 |_=>none
def GE (i:Nat) (v:Value):Option Value:=match v with|.tuple vs=>vs.toList[i]?|_=>none
noncomputable def Ge (t:TypeId) (l c:Value) (h:H):Option (Out×H):=match Bt P t,l,c with
 |some e,.int .i64 l,.int .i64 c=>match Cv P e with
  |some z=>if l=c∧0≤l∧Ab P e=(clist z).length∧0<Ab P e∧A0 P e*l≤70368744177664∧l≤70368744177664 then
    some (.val (.slice (some ⟨h.n,0,none⟩) l.toNat (Ab P e)),h.push ⟨true,DK (clist z) l.toNat⟩) else none
  |none=>none
 |_,_,_=>none
def F9 (f:Value) (args:List Value) (h:H):Option (Out×H):=match f with
 |.func (.func f) a b=>if a.toList.isEmpty&&b.toList.isEmpty then some (.call f args,h) else none
 |_=>none
def AY (t:TypeId) (x:Value):Option Value:=match x with
 |.string s=>(match P.underlying t with|some .string=>some (.int .i64 ((AA s).length:Nat))|_=>none)
 |.slice _ n _=>(match P.underlying t with|some (.slice _)=>some (.int .i64 (n:Nat))|_=>none)
 |_=>none
noncomputable def FD (c:Call) (h:H):Option (Out×H):=match c.callee with
 |.value f=>F9 (ρ f) (c.args.toList.map ρ) h
 |.builtin .len=>(match c.argTypes.toList with
  |t::_=>(match c.args.toList with|x::_=>De h (AY P t (ρ x))|[]=>none)
  |[]=>none)
 |.builtin .append=>(match c.argTypes.toList with
  |[t,xt]=>(match c.args.toList with|[s,x]=>Fq (EZ P lo t xt (ρ s) (ρ x) h)|_=>none)
  |_=>none)
 |_=>none
def NA (t:TypeId) (x:Value) (l hi mx:Option Value):Option Value:=match mx with
 |none=>Aw P t x l hi
 |some _=>none
noncomputable def KJ (op:Op) (h:H):Option (Out×H):=
 match op with
 |.move x|.assign x=>some (.val (ρ x),h)
 |.pick c a b=>De h (Li (ρ c) (ρ a) (ρ b))
 |.alloc t=>Gp P t h
 |.box _ x=>Mc (ρ x) h
 |.build t parts=>De h (Gw P ρ t parts.toList)
 |.buildSlice t len parts=>CQ P ρ t len parts.toList h
 |.load t a=>De h (G0 P t h (ρ a))
 |.store t a v=>JL (Fv P lo t h (ρ a) (ρ v))
 |.nilCheck x=>De h (P0 (ρ x))
 |.binOp op t x y _=>De h (EH P eqs op t (ρ x) (ρ y))
 |.unOp op _ x=>De h (VT op (ρ x))
 |.convert s d x=>Fq (Bi P lo s d (ρ x) h)
 |.slice t x l hi mx=>De h (NA P t (ρ x) (l.map ρ) (hi.map ρ) (mx.map ρ))
 |.fieldAddr s x f=>De h (C8 P s f (ρ x))
 |.field t x f=>De h (Gq P t f (ρ x))
 |.indexAddr t x i=>De h (CL P t (ρ x) (ρ i))
 |.index t x i=>De h (AV P t (ρ x) (ρ i))
 |.extract x i=>De h (GE i (ρ x))
 |.makeSlice t l c=>Ge P t (ρ l) (ρ c) h
 |.call c=>FD P lo ρ c h
 |_=>none
end ops
noncomputable def wants (ops:List Oper) (e:BF) (o:Oper):Bool:=
 match o.guard with
 |none=>true
 |some (j,want)=>match By ops j with
  |some p=>match p.dst with
   |some d=>(match By e d with|some (.bool b)=>b==want|_=>false)
   |none=>false
  |none=>false
def Fz (e:BF) (dst:Option Nat) (v:Value):BF:=match dst with|some d=>e.set d v|none=>e
noncomputable def WC {β:Type} (e:BF) (dst:Option Nat) (v:Value) (k:BF→β):β:=match dst with|some d=>iG v e d k|none=>k e
@[simp] theorem TV {β:Type} (e:BF) (dst:Option Nat) (v:Value) (k:BF→β):WC e dst v k=k (Fz e dst v):=by
 cases dst<;>simp [WC,Fz]
def RO {β:Type} (h:H) (k:H→β):β:=match h with|⟨n,bs⟩=>IA n fun n=>k ⟨n,bs⟩
@[simp] theorem PQ {β:Type} (h:H) (k:H→β):RO h k=k h:=by cases h;simp [RO]
inductive X where
 |normal
 |exit (id:Nat)
 |ret
abbrev nO:=FuncId→Option (Nat→List Value→H→Option (Value×H))
section classes
variable (P:Program)
def GL (ρ:Operand→Value):Op→Option Nat
 |.load _ a=>match ρ a with|.pointer (some a)=>some a.block|_=>none
 |.convert s d x=>if (Bt P s).isSome&&BJ P d then (match ρ x with|.slice (some a) _ _=>some a.block|_=>none) else none
 |_=>none
def Hf (ρ:Operand→Value):Op→Option Nat
 |.store _ a _=>match ρ a with|.pointer (some a)=>some a.block|_=>none
 |.convert s d x=>if (Bt P s).isSome&&(Bt P d).isSome then (match ρ x with|.slice (some a) _ _=>some a.block|_=>none) else none
 |.call {callee:=.builtin .append,args,..}=>match args.toList with
  |s::_=>(match ρ s with|.slice (some a) _ _=>some a.block|_=>none)
  |[]=>none
 |_=>none
def DH:Op→Bool
 |.store ..=>true
 |.convert s d _=>(Bt P s).isSome&&(Bt P d).isSome
 |.call {callee:=.builtin .append,..}=>true
 |_=>false
def iF:Op→Bool
 |.load ..=>true
 |.convert s d _=>(Bt P s).isSome&&BJ P d
 |_=>false
def EO:Op→Bool
 |.call {callee:=.value _,..}=>true
 |_=>false
def E7:List Oper→List Nat→List Nat
 |[],acc=>acc
 |o::r,acc=>E7 r (acc++[o.after.toList.foldl (fun s e=>if Region.binds .any e then s|||2 ^ e.on|||acc.getD e.on 0 else s) 0])
def ET (b:List Nat) (i j:Nat):Bool:=(b.getD j 0).testBit i
def GV:List (Option Nat×Option Nat)→Nat→List (Nat×Nat)
 |[],_=>[]
 |(some r,_)::tr,i=>(i,r)::GV tr (i+1)
 |(none,_)::tr,i=>GV tr (i+1)
def Fg:List (Option Nat×Option Nat)→Nat→List (Nat×Nat)
 |[],_=>[]
 |(_,some t)::tr,i=>(i,t)::Fg tr (i+1)
 |(_,none)::tr,i=>Fg tr (i+1)
def FS (b:List Nat) (x y:Nat×Nat):Bool:=ET b x.1 y.1||ET b y.1 x.1|| !(x.2==y.2)
def QR (ops:List Oper) (rs:List (Nat×Nat)):List (Nat×Nat)→Bool
 |[]=>true
 |t::ts=>let b:=E7 ops []
  (t::ts).all fun y=>rs.all fun x=>FS b x y
def F4 (ops:List Oper) (tr:List (Option Nat×Option Nat)):Bool:=QR ops (GV tr 0) (Fg tr 0)
end classes
structure Cx where
 P:Program
 eqs:List TypeId
 told:nO
 top:Nat
 low:Nat→World→Prop:=fun _ _=>True
section run
variable (C:Cx)
noncomputable def Dy (callf:Nat→FuncId→List Value→H→Option (Value×H)) (draw:Bool) (lo:Nat) (ops:List Oper) (o:Oper) (e:BF) (h:H):Option (Value×H):=
 if wants ops e o then
  match KJ C.P C.eqs lo (ev e) o.op h with
  |some (.val v,h')=>some (v,h')
  |some (.call f args,h')=>callf (if draw then max lo h'.n else lo) f args h'
  |none=>none
 else some (undef,h)
noncomputable def aK (callf:Nat→FuncId→List Value→H→Option (Value×H)) (draw:Bool) (lo:Nat) (ops:List Oper) (o:Oper) (k:BF→H→Option (BF×H)) (e:BF) (h:H):Option (BF×H):=
 match Dy C callf draw lo ops o e h with
 |some (v,h')=>RO h' fun h'=>RI v fun v=>WC e o.dst v fun e=>k e h'
 |none=>none
noncomputable def Lt (callf:Nat→FuncId→List Value→H→Option (Value×H)) (draw:Bool) (lo:Nat) (ops:List Oper) (os:List Oper):BF→H→Option (BF×H):=
 List.rec (motive:=fun _=>BF→H→Option (BF×H)) (fun e h=>some (e,h)) (fun o _ ih=>aK C callf draw lo ops o ih) os
theorem Hc (callf:Nat→FuncId→List Value→H→Option (Value×H)) (draw:Bool) (lo:Nat) (ops:List Oper) (e:BF) (h:H):Lt C callf draw lo ops [] e h=some (e,h):=rfl
theorem Dj (callf:Nat→FuncId→List Value→H→Option (Value×H)) (draw:Bool) (lo:Nat) (ops:List Oper) (o:Oper) (os:List Oper) (e:BF) (h:H):
  Lt C callf draw lo ops (o::os) e h=match Dy C callf draw lo ops o e h with
   |some (v,h')=>Lt C callf draw lo ops os (Fz e o.dst v) h'
   |none=>none:=by
 show aK C callf draw lo ops o (Lt C callf draw lo ops os) e h=_
 unfold aK
 simp only [PQ,PS,TV]
noncomputable def VF (callf:Nat→FuncId→List Value→H→Option (Value×H)) (lo:Nat) (ops:List Oper) (o:Oper) (k:BF→H→Option (BF×H×List (Option Nat×Option Nat))) (e:BF) (h:H):
  Option (BF×H×List (Option Nat×Option Nat)):=
 match Dy C callf true lo ops o e h with
 |some (v,h')=>(match RO h' (fun h'=>RI v fun v=>WC e o.dst v fun e=>k e h') with
  |some (e2,h2,tr)=>some (e2,h2,(GL C.P (ev e) o.op,Hf C.P (ev e) o.op)::tr)
  |none=>none)
 |none=>none
noncomputable def Gm (callf:Nat→FuncId→List Value→H→Option (Value×H)) (lo:Nat) (ops:List Oper) (os:List Oper):BF→H→Option (BF×H×List (Option Nat×Option Nat)):=
 List.rec (motive:=fun _=>BF→H→Option (BF×H×List (Option Nat×Option Nat))) (fun e h=>some (e,h,[])) (fun o _ ih=>VF C callf lo ops o ih) os
theorem Jf (callf:Nat→FuncId→List Value→H→Option (Value×H)) (lo:Nat) (ops:List Oper) (e:BF) (h:H):Gm C callf lo ops [] e h=some (e,h,[]):=rfl
theorem FG (callf:Nat→FuncId→List Value→H→Option (Value×H)) (lo:Nat) (ops:List Oper) (o:Oper) (os:List Oper) (e:BF) (h:H):
  Gm C callf lo ops (o::os) e h=match Dy C callf true lo ops o e h with
   |some (v,h')=>(match Gm C callf lo ops os (Fz e o.dst v) h' with
    |some (e2,h2,tr)=>some (e2,h2,(GL C.P (ev e) o.op,Hf C.P (ev e) o.op)::tr)
    |none=>none)
   |none=>none:=by
 show VF C callf lo ops o (Gm C callf lo ops os) e h=_
 unfold VF
 simp only [PQ,PS,TV]
noncomputable def LK (e:BF) (h:H):ResultVar→Option Value
 |.tmp t=>some (Gi e undef t)
 |.cell a t=>G0 C.P t h (Gi e undef a)
noncomputable def Db (e:BF) (h:H):List ResultVar→Option (List Value)
 |[]=>some []
 |r::rs=>match LK C e h r,Db e h rs with
  |some v,some vs=>if Dv v=true then none else some (v::vs)
  |_,_=>none
def one:List Value→Value
 |[v]=>v
 |vs=>.tuple ⟨vs⟩
def Gn (r:Option (X×BF×H)) (k:BF→H→Option (X×BF×H)):Option (X×BF×H):=
 match r with
 |some (.normal,e',h')=>k e' h'
 |r=>r
def I2 (v:Value) (a b:Option (X×BF×H)):Option (X×BF×H):=
 match v with
 |.bool true=>a
 |.bool false=>b
 |_=>none
def Do (id:Nat) (r:Option (X×BF×H)):Option (X×BF×H):=
 match r with
 |some (.exit i,e',h')=>(match Nat.beq i id with|true=>some (.normal,e',h')|false=>some (.exit i,e',h'))
 |r=>r
noncomputable def Ei (run:Nat→Code→BF→H→Option (X×BF×H)) (lo:Nat) (f:FuncId) (args:List Value) (h:H):Option (Value×H):=
 match C.told f with
 |some g=>g lo args h
 |none=>
 match Nat.ble (f+1) C.top with
 |true=>
  match By C.P.funcs.toList f with
  |none=>none
  |some fn=>
   match fn.body with
   |none=>none
   |some c=>
    match run lo c (args++List.replicate (fn.ntmps - args.length) undef) h with
    |some (.normal,e,h')|some (.ret,e,h')=>match Db C e h' fn.results.toList with
     |some vs=>some (one vs,h')
     |none=>none
    |_=>none
 |false=>none
noncomputable def D9 (run:Nat→Code→BF→H→Option (X×BF×H)) (lo:Nat) (ops:List Oper) (draw:Bool) (e:BF) (h:H):Option (X×BF×H):=
 match draw with
 |false=>(match Lt C (Ei C run) false lo ops ops e h with
  |some (e',h')=>some (.normal,e',h')
  |none=>none)
 |true=>(match Gm C (Ei C run) lo ops ops e h with
  |some (e',h',tr)=>if F4 ops tr then some (.normal,e',h') else none
  |none=>none)
noncomputable def H2 (run:Nat→Code→BF→H→Option (X×BF×H)) (lo:Nat) (c:Code) (e:BF) (h:H):Option (X×BF×H):=
  match c with
  |.skip=>some (.normal,e,h)
  |.region _ ops draw=>D9 C run lo ops.toList draw e h
  |.seq a b=>Gn (run lo a e h) fun e' h'=>run lo b e' h'
  |.cond c a b=>I2 (ev e c) (run lo a e h) (run lo b e h)
  |.block id c=>Do id (run lo c e h)
  |.loop c=>Gn (run lo c e h) fun e' h'=>run lo (.loop c) e' h'
  |.exit id=>some (.exit id,e,h)
  |.ret=>some (.ret,e,h)
  |_=>none
noncomputable def ex (n:Nat):Nat→Code→BF→H→Option (X×BF×H):=
 Nat.rec (motive:=fun _=>Nat→Code→BF→H→Option (X×BF×H)) (fun _ _ _ _=>none) (fun _ ih=>H2 C ih) n
theorem F7 (lo:Nat) (c:Code) (e:BF) (h:H):ex C 0 lo c e h=none:=rfl
theorem Cg (n lo:Nat) (c:Code) (e:BF) (h:H):ex C (n+1) lo c e h=H2 C (ex C n) lo c e h:=rfl
noncomputable def dN (n:Nat) (lo:Nat) (f:FuncId) (args:List Value) (h:H):Option (Value×H):=Ei C (ex C n) lo f args h
end run
def Hx:Value→Bool
 |.agg cs=>cs.toList.all dry
 |v=>dry v
def Cl:Operand→Bool
 |.tmp _=>true
 |.const v=>Hx v
 |.global _=>false
 |.func _=>true
def IQ (op:Op):Bool:=(match op with|.load _ (.global _)=>true|_=>false)||op.operands.toList.all Cl
def Yn (P:Program) (b:List Nat) (ops:Array Oper) (i j:Nat) (oi oj:Oper):Bool:=
 ET b i j||(oi.apart ops oj&& !(DH P oi.op&&(DH P oj.op||EO oj.op))&& !(EO oi.op&&DH P oj.op))
def Q4 (P:Program) (ops:Array Oper):Bool:=
 let b:=E7 ops.toList []
 (ops.toList.zipIdx.all fun (o,j)=>(o.after.toList.all fun e=> !Region.binds .any e||e.on<j)&&
  (ops.toList.zipIdx.all fun (p,i)=> !(i<j)||Yn P b ops i j p o))
def Oy (P:Program) (ops:List Oper):Bool:=
 let b:=E7 ops []
 ops.zipIdx.all fun (o,i)=> !iF P o.op||ops.zipIdx.all fun (p,j)=> !DH P p.op||ET b i j||ET b j i
def V0 (P:Program) (ops:Array Oper) (draw:Bool):Bool:=
 (ops.toList.all fun o=>IQ o.op)&&(!draw||Q4 P ops)
def DF (P:Program):Code→Bool
 |.region _ ops draw=>V0 P ops draw
 |.seq a b=>DF P a&&DF P b
 |.cond c a b=>Cl c&&DF P a&&DF P b
 |.block _ c=>DF P c
 |.loop c=>DF P c
 |.skip|.exit _|.ret=>true
 |_=>false
def W2 (P:Program) (fn:Func):Bool:=match fn.body with
 |some c=>DF P c&& !(fn.name== "runtime.NumGoroutine")
 |none=>true
end Go.Vx
