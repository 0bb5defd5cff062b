/- Values as they are, without a heap for what is only read: definitions. -/
import Derived.Test.YtmbonddknackiaaVxRun
namespace Go.Vx
inductive PC where
 |d (v:Value)
 |row (sz:Nat) (els:List (List PC))
inductive Ce where
 |p (c:PC)
 |own (id sz off len:Nat)
 |ptr (id sz i off:Nat)
 |rp (cs:List PC)
 |top
inductive YV where
 |c (c:Ce)
 |agg (cs:List Ce)
 |tup (vs:List YV)
inductive Ent where
 |dead
 |box (cs:List Ce)
 |row (sz:Nat) (els:List (List PC))
abbrev BH:=List Ent
abbrev yd (v:Value):YV:=.c (.p (.d v))
def pds (vs:List Value):List Ce:=vs.map fun v=>.p (.d v)
noncomputable def Fy (v:Value):YV:=match dry v with
 |true=>.c (.p (.d v))
 |false=>match v with
  |.agg cs=>(match cs.toList.all dry with|true=>.agg (pds cs.toList)|false=>.c .top)
  |_=>.c .top
noncomputable def yv (e:List YV):Operand→YV
 |.tmp t=>Gi e (.c .top) t
 |.const v=>Fy v
 |.global _=>.c .top
 |.func f=>.c (.p (.d (.func (.func f) #[] #[])))
def ycl:YV→Option (List Ce)
 |.c .top=>none
 |.c c=>some [c]
 |.agg cs=>some cs
 |.tup _=>none
def oB:Ce→Option PC
 |.p c=>some c
 |_=>none
def pcs:List Ce→Option (List PC)
 |[]=>some []
 |.p c::r=>(match pcs r with|some l=>some (c::l)|none=>none)
 |_=>none
def ypc:YV→Option (List PC)
 |.c (.p c)=>some [c]
 |.agg cs=>pcs cs
 |_=>none
def dvs:List Ce→Option (List Value)
 |[]=>some []
 |.p (.d v)::r=>(match dvs r with|some l=>some (v::l)|none=>none)
 |_=>none
def dvA:YV→Option Value
 |.c (.p (.d v))=>some v
 |.agg cs=>(match dvs cs with|some l=>some (.agg ⟨l⟩)|none=>none)
 |_=>none
def dv:YV→Option Value
 |.c (.p (.d v))=>some v
 |_=>none
def OP (v:Value):Option YV:=match dry v with|true=>some (.c (.p (.d v)))|false=>none
def CJ {α:Type} (cs:List α) (off:Nat) (vs:List α):List α:=cs.take off++vs++cs.drop (off+vs.length)
inductive YOut where
 |val (v:YV)
 |call (f:FuncId) (args:List YV)
def Jn (s:BH):Option YV→Option (YOut×BH)
 |some v=>some (.val v,s)
 |none=>none
def Q7 (s:BH) (e:Ent) (v:YV):Option (YOut×BH):=some (.val v,s++[e])
section
variable (P:Program)
noncomputable def CF (t:TypeId):Option (List Value):=match Cv P t with
 |some z=>(match (clist z).all dry with|true=>some (clist z)|false=>none)
 |none=>none
def Sz:YV→YV→YV→Option YV
 |.c (.p (.d (.bool true))),a,_=>some a
 |.c (.p (.d (.bool false))),_,b=>some b
 |_,_,_=>none
noncomputable def N0 (t:TypeId) (s:BH):Option (YOut×BH):=match CF P t with
 |some z=>Q7 s (.box (pds z)) (.c (.ptr s.length 0 0 0))
 |none=>none
def ZM (x:YV) (s:BH):Option (YOut×BH):=match ycl x with
 |some cs=>Q7 s (.box cs) (.c (.ptr s.length 0 0 0))
 |none=>none
def Kp (place:Nat→Option (Nat×Nat)) (cells:List Ce):List (Nat×YV)→Option (List Ce)
 |[]=>some cells
 |(i,v)::rest=>
  match place i with
  |none=>none
  |some (off,size)=>
   match ycl v with
   |none=>none
   |some cs=>if cs.length=size∧off+cs.length≤cells.length then Kp place (CJ cells off cs) rest else none
noncomputable def Ol (ρ:Operand→YV) (t:TypeId) (parts:List (Nat×Operand)):Option YV:=match CF P t with
 |some z=>
  (match C3 P t with
  |some pl=>(match Kp (fun i=>pl[i]?) (pds z) (parts.map fun p=>(p.1,ρ p.2)) with
   |some cs=>some (.agg cs)|none=>none)
  |none=>(match J4 P t with
   |some (_,e)=>if Ab P e=0 then none else (match Kp (fun i=>some (i*Ab P e,Ab P e)) (pds z) (parts.map fun p=>(p.1,ρ p.2)) with
    |some cs=>some (.agg cs)|none=>none)
   |none=>none))
 |none=>none
def TM (sz:Nat) (els:List (List PC)):List (Nat×YV)→Option (List (List PC))
 |[]=>some els
 |(i,v)::rest=>
  match ypc v with
  |none=>none
  |some cs=>if cs.length=sz∧i<els.length then TM sz (els.set i cs) rest else none
noncomputable def ES (s:BH):YV→Option (Nat×List (List PC))
 |.c (.p (.row sz els))=>some (sz,els)
 |.c (.own id sz off len)=>(match By s id with
  |some (.row z els)=>if z=sz∧off+len≤els.length then some (sz,(els.drop off).take len) else none
  |_=>none)
 |_=>none
noncomputable def IT (s:BH):Ce→Option (Ce×BH)
 |.p c=>some (.p c,s)
 |.own id sz off len=>(match ES s (.c (.own id sz off len)) with|some (z,els)=>some (.p (.row z els),s.set id .dead)|none=>none)
 |_=>none
noncomputable def Sh (s:BH):List Ce→Option (List Ce×BH)
 |[]=>some ([],s)
 |c::cs=>(match IT s c with
  |some (c',s1)=>(match Sh s1 cs with|some (cs',s2)=>some (c'::cs',s2)|none=>none)
  |none=>none)
noncomputable def Q0 (s:BH):YV→Option (YV×BH)
 |.c c=>(match IT s c with|some (c',s1)=>some (.c c',s1)|none=>none)
 |.agg cs=>(match Sh s cs with|some (cs',s1)=>some (.agg cs',s1)|none=>none)
 |.tup _=>none
noncomputable def Sg (s:BH):List (Nat×YV)→Option (List (Nat×YV)×BH)
 |[]=>some ([],s)
 |(i,v)::r=>(match Q0 s v with
  |some (v',s1)=>(match Sg s1 r with|some (r',s2)=>some ((i,v')::r',s2)|none=>none)
  |none=>none)
noncomputable def GH (e:TypeId) (z:List Value) (len:Nat):Option (List (Nat×YV)×BH)→Option (YOut×BH)
 |some (parts,s)=>if Ab P e=z.length∧0<Ab P e∧len*Ab P e≤16777216∧0<len then
    (match TM (Ab P e) (List.replicate len (z.map .d)) parts with
    |some els=>Q7 s (.row (Ab P e) els) (.c (.own s.length (Ab P e) 0 len))
    |none=>none) else none
 |none=>none
noncomputable def FY (ρ:Operand→YV) (t:TypeId) (len:Nat) (parts:List (Nat×Operand)) (s:BH):Option (YOut×BH):=match Bt P t with
 |some e=>match CF P e with
  |some z=>GH P e z len (Sg s (parts.map fun p=>(p.1,ρ p.2)))
  |none=>none
 |none=>none
def Rx (ρ:Operand→YV):Op→Bool
 |.buildSlice _ _ parts=>parts.toList.any fun p=>(ypc (ρ p.2)).isNone
 |_=>false
noncomputable def Fu (s:BH):YV→Option (List Ce)
 |.c (.ptr id sz i off)=>(match By s id with
  |some (.box cs)=>(match sz,i with|0,0=>some (cs.drop off)|_,_=>none)
  |some (.row z els)=>if z=sz then (match els[i]? with|some cs=>some ((cs.drop off).map .p)|none=>none) else none
  |_=>none)
 |.c (.rp cs)=>some (cs.map .p)
 |_=>none
noncomputable def NT (t:TypeId) (s:BH) (a:YV):Option YV:=match Fu s a with
 |some (c::cs)=>(match Bw P t with
  |some true=>if Ab P t≤cs.length+1 then some (.agg ((c::cs).take (Ab P t))) else none
  |some false=>some (.c c)
  |none=>none)
 |_=>none
noncomputable def J7 (t:TypeId) (s:BH) (a v:YV):Option (YOut×BH):=match a with
 |.c (.ptr id sz i off)=>(match By s id with
  |some (.box cs)=>(match sz,i with
   |0,0=>(match ycl v with
    |some vs=>if vs.length=Ab P t∧off+vs.length≤cs.length∧Ab P t≠0 then some (.val (.c .top),s.set id (.box (CJ cs off vs))) else none
    |none=>none)
   |_,_=>none)
  |some (.row z els)=>if z=sz then (match els[i]?,ypc v with
   |some cs,some vs=>if vs.length=Ab P t∧off+vs.length≤cs.length∧Ab P t≠0 then some (.val (.c .top),s.set id (.row z (els.set i (CJ cs off vs)))) else none
   |_,_=>none) else none
  |_=>none)
 |_=>none
def Qc:YV→Option YV
 |.c (.ptr id sz i off)=>some (.c (.ptr id sz i off))
 |.c (.rp cs)=>some (.c (.rp cs))
 |_=>none
noncomputable def bL (eqs:List TypeId) (op:BinOp) (t:TypeId) (x y:YV):Option YV:=match dvA x,dvA y with
 |some a,some b=>(match EH P eqs op t a b with|some v=>OP v|none=>none)
 |_,_=>none
def lM (op:UnOp) (x:YV):Option YV:=match dv x with
 |some a=>(match VT op a with|some v=>OP v|none=>none)
 |none=>none
def L7:List (List PC)→Option (List Value)
 |[]=>some []
 |[.d v]::r=>(match L7 r with|some l=>some (v::l)|none=>none)
 |_=>none
noncomputable def I1 (sT d:TypeId) (x:YV) (s:BH):Option (YOut×BH):=
 match P.underlying sT,P.underlying d,dv x with
 |some _,some (.int k),some (.int _ n)=>some (.val (.c (.p (.d (.int k (AG k n))))),s)
 |some .string,some .string,some (.string b)=>some (.val (.c (.p (.d (.string b)))),s)
 |some _,some (.slice e),some (.string b)=>
  if G4 P e=some .u8∧(AA b).length≤70368744177664 then Q7 s (.row 1 ((BE b).map fun v=>[.d v])) (.c (.own s.length 1 0 (AA b).length)) else none
 |some (.slice e),some .string,some (.slice none 0 0)=>if G4 P e=some .u8 then some (.val (.c (.p (.d (.string (AI []))))),s) else none
 |some (.slice e),some .string,none=>if G4 P e=some .u8 then
   (match ES s x with
   |some (1,els)=>(match L7 els with
    |some l=>(match bytesOf l with|some b=>some (.val (.c (.p (.d (.string (AI b))))),s)|none=>none)
    |none=>none)
   |_=>none) else none
 |_,_,_=>none
noncomputable def GS (t:TypeId) (x:YV) (lo hi:Option Value):Option YV:=match x with
 |.c (.p (.d v))=>(match Aw P t v lo hi with|some v=>OP v|none=>none)
 |.c (.p (.row sz els))=>(match Bt P t,low lo 0,low hi (els.length:Nat) with
  |some e,some l,some h=>if 0≤l∧l≤h∧h≤(els.length:Nat)∧Ab P e≠0∧Ab P e=sz then some (.c (.p (.row sz ((els.drop l.toNat).take (h.toNat - l.toNat))))) else none
  |_,_,_=>none)
 |.c (.own id sz off len)=>(match Bt P t,low lo 0,low hi (len:Nat) with
  |some e,some l,some h=>if 0≤l∧l≤h∧h≤(len:Nat)∧Ab P e≠0∧Ab P e=sz then some (.c (.own id sz (off+l.toNat) (h.toNat - l.toNat))) else none
  |_,_,_=>none)
 |_=>none
def GW (t:TypeId) (f:Nat) (x:YV):Option YV:=match A5 P t f with
 |some (o,ft)=>if Ab P ft=0 then none else (match x with
  |.c (.ptr id sz i off)=>some (.c (.ptr id sz i (off+o)))
  |.c (.rp cs)=>if o≤cs.length then some (.c (.rp (cs.drop o))) else none
  |_=>none)
 |none=>none
def Pb (t:TypeId) (cs:List Ce) (off:Nat):Option YV:=match Bw P t with
 |some true=>some (.agg ((cs.drop off).take (Ab P t)))
 |some false=>(match cs[off]? with|some c=>some (.c c)|none=>none)
 |none=>none
def KP (t:TypeId) (f:Nat) (x:YV):Option YV:=match x with
 |.agg cs=>(match A5 P t f with|some (off,ft)=>Pb P ft cs off|none=>none)
 |_=>none
def GN (t:TypeId) (x i:YV):Option YV:=match dv i with
 |some (.int _ i)=>(match x with
  |.c (.own id sz off len)=>(match Bt P t with
   |some e=>if 0≤i∧i<len∧Ab P e=sz∧Ab P e≠0 then some (.c (.ptr id sz (off+i.toNat) 0)) else none
   |none=>none)
  |.c (.p (.row sz els))=>(match Bt P t with
   |some e=>if 0≤i∧Ab P e=sz∧Ab P e≠0 then (match els[i.toNat]? with|some cs=>some (.c (.rp cs))|none=>none) else none
   |none=>none)
  |.c (.ptr id sz i0 off)=>(match J4 P t with
   |some (len,e)=>if 0≤i∧i<len∧Ab P e≠0 then some (.c (.ptr id sz i0 (off+i.toNat*Ab P e))) else none
   |none=>none)
  |.c (.rp cs)=>(match J4 P t with
   |some (len,e)=>if 0≤i∧i<len∧Ab P e≠0∧i.toNat*Ab P e≤cs.length then some (.c (.rp (cs.drop (i.toNat*Ab P e)))) else none
   |none=>none)
  |_=>none)
 |_=>none
def Nr (t:TypeId) (x i:YV):Option YV:=match dv i with
 |some (.int k i)=>(match x with
  |.c (.p (.d v))=>(match AV P t v (.int k i) with|some v=>OP v|none=>none)
  |.agg cs=>(match J4 P t with
   |some (len,e)=>if 0≤i∧i<len∧Ab P e≠0 then Pb P e cs (i.toNat*Ab P e) else none
   |none=>none)
  |_=>none)
 |_=>none
def GX (i:Nat):YV→Option YV
 |.tup vs=>vs[i]?
 |_=>none
noncomputable def Sq (t:TypeId) (l c:YV) (s:BH):Option (YOut×BH):=match Bt P t,dv l,dv c with
 |some e,some (.int .i64 l),some (.int .i64 c)=>match CF P e with
  |some z=>if l=c∧0≤l∧Ab P e=z.length∧0<Ab P e∧A0 P e*l≤70368744177664∧l≤70368744177664 then
    Q7 s (.row (Ab P e) (List.replicate l.toNat (z.map .d))) (.c (.own s.length (Ab P e) 0 l.toNat)) else none
  |none=>none
 |_,_,_=>none
noncomputable def Nb (t:TypeId) (x:YV):Option YV:=match x with
 |.c (.p (.d v))=>(match AY P t v with|some v=>OP v|none=>none)
 |.c (.p (.row _ els))=>(match P.underlying t with|some (.slice _)=>some (yd (.int .i64 (els.length:Nat)))|_=>none)
 |.c (.own _ _ _ len)=>(match P.underlying t with|some (.slice _)=>some (yd (.int .i64 (len:Nat)))|_=>none)
 |_=>none
noncomputable def FU (s:BH) (sz:Nat) (x:YV):Option (List (List PC)):=match x with
 |.c (.p (.d (.slice none 0 _)))=>some []
 |.c (.p (.d (.string b)))=>if sz=1 then some ((BE b).map fun v=>[.d v]) else none
 |x=>(match ES s x with|some (z,els)=>if z=sz then some els else none|none=>none)
noncomputable def H5 (t xt:TypeId) (sv x:YV) (s:BH):Option (YOut×BH):=
 match Bt P t with
 |none=>none
 |some e=>
 match CF P e with
 |none=>none
 |some z=>
 if Ab P e≠0∧A0 P e≠0∧Ac P xt=false∧Ab P e=z.length then
  match FU s (Ab P e) x with
  |none=>none
  |some src=>
   match sv with
   |.c (.p (.d (.slice none 0 0)))=>if src.length*A0 P e≤70368744177664 then
     Q7 s (.row (Ab P e) src) (.c (.own s.length (Ab P e) 0 src.length)) else none
   |.c (.own id sz off len)=>(match By s id with
    |some (.row z els)=>if z=sz∧sz=Ab P e∧off=0∧len≤els.length∧(len+src.length)*A0 P e≤70368744177664 then
      Q7 (s.set id .dead) (.row sz (els.take len++src)) (.c (.own s.length sz 0 (len+src.length))) else none
    |_=>none)
   |_=>none
 else none
noncomputable def WY (ρ:Operand→YV) (c:Call) (s:BH):Option (YOut×BH):=match c.callee with
 |.value f=>(match ρ f with
  |.c (.p (.d (.func (.func f) a b)))=>if a.toList.isEmpty&&b.toList.isEmpty then some (.call f (c.args.toList.map ρ),s) else none
  |_=>none)
 |.builtin .len=>(match c.argTypes.toList with
  |t::_=>(match c.args.toList with|x::_=>Jn s (Nb P t (ρ x))|[]=>none)
  |[]=>none)
 |.builtin .append=>(match c.argTypes.toList with
  |[t,xt]=>(match c.args.toList with|[a,x]=>H5 P t xt (ρ a) (ρ x) s|_=>none)
  |_=>none)
 |_=>none
noncomputable def Em (eqs:List TypeId) (ρ:Operand→YV) (op:Op) (s:BH):Option (YOut×BH):=
 match op with
 |.move x|.assign x=>some (.val (ρ x),s)
 |.pick c a b=>Jn s (Sz (ρ c) (ρ a) (ρ b))
 |.alloc t=>N0 P t s
 |.box _ x=>ZM (ρ x) s
 |.build t parts=>Jn s (Ol P ρ t parts.toList)
 |.buildSlice t len parts=>FY P ρ t len parts.toList s
 |.load t a=>Jn s (NT P t s (ρ a))
 |.store t a v=>J7 P t s (ρ a) (ρ v)
 |.nilCheck x=>Jn s (Qc (ρ x))
 |.binOp op t x y _=>Jn s (bL P eqs op t (ρ x) (ρ y))
 |.unOp op _ x=>Jn s (lM op (ρ x))
 |.convert sT d x=>I1 P sT d (ρ x) s
 |.slice t x l hi none=>(match (match l with|some l=>(dv (ρ l)).map some|none=>some none),(match hi with|some h=>(dv (ρ h)).map some|none=>some none) with
  |some l,some h=>Jn s (GS P t (ρ x) l h)
  |_,_=>none)
 |.fieldAddr t x f=>Jn s (GW P t f (ρ x))
 |.field t x f=>Jn s (KP P t f (ρ x))
 |.indexAddr t x i=>Jn s (GN P t (ρ x) (ρ i))
 |.index t x i=>Jn s (Nr P t (ρ x) (ρ i))
 |.extract x i=>Jn s (GX i (ρ x))
 |.makeSlice t l c=>Sq P t (ρ l) (ρ c) s
 |.call c=>WY P ρ c s
 |_=>none
end
end Go.Vx
