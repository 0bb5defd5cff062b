/- Texts joined: VyM0 VyL6 VyL7 VyM5 VyM1 VyL8. -/
import Derived.Test.YtmbonddknackiaaVm37
set_option linter.unusedSimpArgs false
set_option linter.unusedVariables false
section
open Go Go.Vx Go.Proofs
namespace Go.Vx.Seat
def hd (l:List Rn):Int:=match l with|x::_=>x.r|[]=> -1
theorem Ax (l:List Rn) (i:Nat):hd (l.drop i)=DV l (i:Nat):=by
 cases h:l[i]? with
 |none=>
  have hl:l.length≤i:=by simpa using h
  rw [List.drop_eq_nil_of_le hl,DZ (by omega)];rfl
 |some x=>
  obtain ⟨h1,h2⟩:=List.getElem?_eq_some_iff.mp h
  rw [CU h,List.drop_eq_getElem_cons h1,h2];rfl
theorem Am {α:Type} {l:List α} {i:Nat} {x:α} (h:l[i]?=some x):l.drop i=x::l.drop (i+1):=by
 obtain ⟨h1,h2⟩:=List.getElem?_eq_some_iff.mp h
 rw [List.drop_eq_getElem_cons h1,h2]
def esc0 (l:List Rn):Bool:=AJ (hd l) 92&& !AJ (hd (l.drop 1)) 10
theorem GJ (l:List Rn) (i:Nat):Np l i=esc0 (l.drop i):=by
 rw [Np,esc0,Ax,List.drop_drop,Ax]
def Es:Nat→Int→List Rn→Int×List Rn
 |0,x,l=>(x,l)
 |_+1,x,[]=>(x,[])
 |n+1,x,c::l=>if AN 0 (DI c.r) then Es n (AG .i64 (AG .i64 (16*x)+DI c.r)) l else (x,c::l)
def FE (x:Int):Int:=if AJ x 0|| !AN x 1114111||(AN 55296 x&& !AN 57344 x) then 65533 else x
def Ek:List Rn→List Rn
 |[]=>[]
 |c::r=>if Ad c.r then r else c::r
def BZ:List Rn→Int×List Rn
 |[]=>(65533,[])
 |c::r=>if AN 0 (DI c.r) then (FE (Es 6 0 (c::r)).1,Ek (Es 6 0 (c::r)).2) else (c.r,r)
theorem ZA (l:List Rn):(Ek l).length≤l.length:=by
 unfold Ek
 split
 ·simp
 ·split<;>simp
theorem VZ:∀(n:Nat) (x:Int) (l:List Rn),(Es n x l).2.length≤l.length
 |0,x,l=>Nat.le_refl _
 |n+1,x,[]=>Nat.le_refl _
 |n+1,x,c::l=>by
  unfold Es
  split
  ·have:=VZ n (AG .i64 (AG .i64 (16*x)+DI c.r)) l;simp;omega
  ·exact Nat.le_refl _
theorem CT (l:List Rn):(BZ l).2.length≤l.length:=by
 unfold BZ
 split
 ·simp
 ·rename_i c r
  split
  ·have h1:=ZA (Es 6 0 (c::r)).2
   have h2:=VZ 6 0 (c::r)
   simp only;omega
  ·simp
def AT (l:List Rn):List Int×List Rn:=match l with
 |[]=>([],[])
 |x::r=>if DB x.r then (Ao x.r++(AT r).1,(AT r).2) else if esc0 (x::r) then (Ao (BZ r).1++(AT (BZ r).2).1,(AT (BZ r).2).2) else ([],x::r)
termination_by l.length
decreasing_by
 all_goals first|(simp;done)|(have:=CT r;simp;omega)
theorem BM {x:Rn} {r:List Rn} (h:DB x.r=true):AT (x::r)=(Ao x.r++(AT r).1,(AT r).2):=by rw [AT,if_pos h]
theorem Cj {x:Rn} {r:List Rn} (h:DB x.r=false) (h2:esc0 (x::r)=true):AT (x::r)=(Ao (BZ r).1++(AT (BZ r).2).1,(AT (BZ r).2).2):=by rw [AT,if_neg (by rw [h];simp),if_pos h2]
theorem Cw {x:Rn} {r:List Rn} (h:DB x.r=false) (h2:esc0 (x::r)=false):AT (x::r)=([],x::r):=by rw [AT,if_neg (by rw [h];simp),if_neg (by rw [h2];simp)]
theorem BU:AT []=([],[]):=by rw [AT]
def A9 (l:List Rn):List Int:=l.flatMap fun x=>Ao x.r
def used (l r:List Rn):List Rn:=l.take (l.length - r.length)
theorem DR (l:List Rn) {i k:Nat} (hi:i≤k) (hk:k≤l.length):used (l.drop i) (l.drop k)=(l.drop i).take (k - i):=by
 rw [used,List.length_drop,List.length_drop];congr 1;omega
def quotedF (q:Int) (l:List Rn):List Int×Bool×List Rn:=match l with
 |[]=>([],false,[])
 |x::r=>if AJ x.r q then ([],false,r) else if AJ x.r 10 then ([],true,x::r)
  else if AJ x.r 92 then
   (match r with
   |[]=>([],false,[])
   |y::r'=>if AJ y.r 10 then quotedF q r' else (Ao (BZ (y::r')).1++(quotedF q (BZ (y::r')).2).1,(quotedF q (BZ (y::r')).2).2))
  else (Ao x.r++(quotedF q r).1,(quotedF q r).2)
termination_by l.length
decreasing_by
 all_goals first|(simp;done)|(simp;omega)|(have:=CT (y::r');simp at this ⊢;omega)
section
variable {q:Int} {x y:Rn} {r:List Rn}
theorem B5:quotedF q []=([],false,[]):=by rw [quotedF.eq_def]
theorem DX (h1:AJ x.r q=true):quotedF q (x::r)=([],false,r):=by rw [quotedF.eq_def];simp only [h1,if_true]
theorem FL (h1:AJ x.r q=false) (h2:AJ x.r 10=true):quotedF q (x::r)=([],true,x::r):=by rw [quotedF.eq_def];simp only [h1,h2,if_true,Bool.false_eq_true,if_false]
theorem EL (h1:AJ x.r q=false) (h2:AJ x.r 10=false) (h3:AJ x.r 92=true):quotedF q [x]=([],false,[]):=by rw [quotedF.eq_def];simp only [h1,h2,h3,if_true,Bool.false_eq_true,if_false]
theorem Dh (h1:AJ x.r q=false) (h2:AJ x.r 10=false) (h3:AJ x.r 92=true) (h4:AJ y.r 10=true):quotedF q (x::y::r)=quotedF q r:=by
 rw [quotedF.eq_def];simp only [h1,h2,h3,h4,if_true,Bool.false_eq_true,if_false]
theorem DW (h1:AJ x.r q=false) (h2:AJ x.r 10=false) (h3:AJ x.r 92=true) (h4:AJ y.r 10=false):quotedF q (x::y::r)=(Ao (BZ (y::r)).1++(quotedF q (BZ (y::r)).2).1,(quotedF q (BZ (y::r)).2).2):=by
 rw [quotedF.eq_def];simp only [h1,h2,h3,h4,if_true,Bool.false_eq_true,if_false]
theorem DG (h1:AJ x.r q=false) (h2:AJ x.r 10=false) (h3:AJ x.r 92=false):quotedF q (x::r)=(Ao x.r++(quotedF q r).1,(quotedF q r).2):=by
 rw [quotedF.eq_def];simp only [h1,h2,h3,Bool.false_eq_true,if_false]
end
def badF (l:List Rn):List Rn:=match l with
 |[]=>[]
 |x::r=>if AJ x.r 41 then r else if esc0 (x::r) then badF (BZ r).2 else badF r
termination_by l.length
decreasing_by
 all_goals first|(simp;done)|(have:=CT r;simp;omega)
def Aq (l:List Rn):List Rn:=l.dropWhile fun x=>Ad x.r
theorem XC (l:List Rn):(Aq l).length≤l.length:=(List.dropWhile_sublist _).length_le
def Bo (x:Rn) (r:List Rn):Bool:=AJ x.r 34||AJ x.r 39||AJ x.r 40|| !AN 9 x.r||AJ x.r 11||(AN 14 x.r&& !AN 32 x.r)||AJ x.r 127||(AJ x.r 92&& !esc0 (x::r))
def urlF (l:List Rn):Option (List Int)×List Rn:=match l with
 |[]=>(some [],[])
 |x::r=>if AJ x.r 41 then (some [],r)
  else if Ad x.r then
   (match Aq r with
   |[]=>(some [],[])
   |y::r'=>if AJ y.r 41 then (some [],r') else (none,badF (y::r')))
  else if Bo x r then (none,badF (x::r))
  else if AJ x.r 92 then ((urlF (BZ r).2).1.map (Ao (BZ r).1++·),(urlF (BZ r).2).2)
  else ((urlF r).1.map (Ao x.r++·),(urlF r).2)
termination_by l.length
decreasing_by
 all_goals first|(simp;done)|(have:=CT r;simp;omega)
section
variable {x y:Rn} {r r':List Rn}
theorem GM:badF []=[]:=by rw [badF.eq_def]
theorem Jj (h:AJ x.r 41=true):badF (x::r)=r:=by rw [badF.eq_def];simp only [h,if_true]
theorem K7 (h:AJ x.r 41=false) (h2:esc0 (x::r)=true):badF (x::r)=badF (BZ r).2:=by rw [badF.eq_def];simp only [h,h2,if_true,Bool.false_eq_true,if_false]
theorem H3 (h:AJ x.r 41=false) (h2:esc0 (x::r)=false):badF (x::r)=badF r:=by rw [badF.eq_def];simp only [h,h2,Bool.false_eq_true,if_false]
theorem Dc:urlF []=(some [],[]):=by rw [urlF.eq_def]
theorem Er (h:AJ x.r 41=true):urlF (x::r)=(some [],r):=by rw [urlF.eq_def];simp only [h,if_true]
theorem He (h:AJ x.r 41=false) (h2:Ad x.r=true) (h3:Aq r=[]):urlF (x::r)=(some [],[]):=by rw [urlF.eq_def];simp only [h,h2,h3,if_true,Bool.false_eq_true,if_false]
theorem HX (h:AJ x.r 41=false) (h2:Ad x.r=true) (h3:Aq r=y::r') (h4:AJ y.r 41=true):urlF (x::r)=(some [],r'):=by rw [urlF.eq_def];simp only [h,h2,h3,h4,if_true,Bool.false_eq_true,if_false]
theorem Hb (h:AJ x.r 41=false) (h2:Ad x.r=true) (h3:Aq r=y::r') (h4:AJ y.r 41=false):urlF (x::r)=(none,badF (y::r')):=by rw [urlF.eq_def];simp only [h,h2,h3,h4,if_true,Bool.false_eq_true,if_false]
theorem DN (h:AJ x.r 41=false) (h2:Ad x.r=false) (h3:Bo x r=true):urlF (x::r)=(none,badF (x::r)):=by rw [urlF.eq_def];simp only [h,h2,h3,if_true,Bool.false_eq_true,if_false]
theorem Fe (h:AJ x.r 41=false) (h2:Ad x.r=false) (h3:Bo x r=false) (h4:AJ x.r 92=true):urlF (x::r)=((urlF (BZ r).2).1.map (Ao (BZ r).1++·),(urlF (BZ r).2).2):=by
 rw [urlF.eq_def];simp only [h,h2,h3,h4,if_true,Bool.false_eq_true,if_false]
theorem Eb (h:AJ x.r 41=false) (h2:Ad x.r=false) (h3:Bo x r=false) (h4:AJ x.r 92=false):urlF (x::r)=((urlF r).1.map (Ao x.r++·),(urlF r).2):=by
 rw [urlF.eq_def];simp only [h,h2,h3,h4,Bool.false_eq_true,if_false]
end
def Bc:List Rn→List Rn×List Rn
 |[]=>([],[])
 |x::r=>if AJ x.r 42&&AJ (hd r) 47 then ([],r.drop 1) else (x::(Bc r).1,(Bc r).2)
def digs (l:List Rn):List Rn:=l.dropWhile fun x=>AL x.r
def Ai (l:List Rn):Bool:=AJ (hd l) 43||AJ (hd l) 45
def Gj (l:List Rn):List Rn:=digs (if Ai l then l.drop 1 else l)
def FO (l:List Rn):Bool×List Rn:=if AJ (hd l) 46&&AL (hd (l.drop 1)) then (false,digs (l.drop 2)) else (true,l)
def Gh (f:Bool) (l:List Rn):Bool×List Rn:=if AJ (hd l) 101||AJ (hd l) 69 then
  (let r:=if Ai (l.drop 1) then l.drop 2 else l.drop 1
  if AL (hd r) then (false,digs r) else (f,l)) else (f,l)
def Et (l:List Rn):Bool×List Rn:=Gh (FO (Gj l)).1 (FO (Gj l)).2
def BT (l:List Rn):Bool:=let r:=if Ai l then l.drop 1 else l
 AL (hd r)||(AJ (hd r) 46&&AL (hd (r.drop 1)))
def Ag (l:List Rn):Bool:=match l with
 |[]=>false
 |x::r=>if AJ x.r 45 then Bm (hd r)||AJ (hd r) 45||esc0 r else Bm x.r||esc0 (x::r)
def Ay:List Rn→List UInt8→Bool
 |_,[]=>true
 |l,c::cs=>AJ (hd l) (c.toNat:Nat)&&Ay (l.drop 1) cs
theorem F6 (l:List Rn) (i:Nat):Cm l i=BT (l.drop i):=by
 unfold Cm BT Ai
 rw [Ax]
 by_cases h:(AJ (DV l (i:Nat)) 43||AJ (DV l (i:Nat)) 45)=true
 ·rw [if_pos h,if_pos h]
  simp only
  rw [List.drop_drop,List.drop_drop,Ax,Ax]
 ·rw [if_neg h,if_neg h]
  simp only
  rw [List.drop_drop,Ax,Ax]
theorem DA (l:List Rn) (i:Nat):ED l i=Ag (l.drop i):=by
 cases h:l[i]? with
 |none=>
  have hl:l.length≤i:=by simpa using h
  rw [List.drop_eq_nil_of_le hl,ED,decide_eq_false (by omega)];rfl
 |some x=>
  have hl:=(List.getElem?_eq_some_iff.mp h).1
  rw [ED,Am h,Ag,decide_eq_true hl,Bool.true_and,CU h,Ax,GJ,GJ,Am h]
theorem Bu (l:List Rn):∀(s:List UInt8) (i:Nat),CW l i s=Ay (l.drop i) s
 |[],i=>rfl
 |c::cs,i=>by rw [CW,Ay,Bu l cs (i+1),Ax,List.drop_drop]
end Go.Vx.Seat
end
section
open Go Go.Vx Go.Proofs
set_option maxRecDepth 10000
set_option maxHeartbeats 4000000
namespace Go.Vx.Seat
attribute [local irreducible] Rg Rt Ro Ri Rc Ds Dt Dw Dx Rw Rl Rd Av An kf
theorem C4 {l:List Int} {i:Nat} {c:Int} (h:l[i]?=some c):(l.map eb)[i]?=some [.d (.int .u8 c)]:=AP h
def PB (a:Int):Int:=IntKind.wrap .i64 (a*2 ^ (min (6:Int).toNat IntKind.i64.bits))
theorem Vr (a:Int):D8 .shl .i64 a 6=some (.int .i64 (PB a)):=by
 rw [D8,if_neg (by omega)];rfl
end Go.Vx.Seat
end
section
open Go Go.Vx Go.Proofs
set_option maxRecDepth 10000
set_option maxHeartbeats 4000000
namespace Go.Vx.Seat
attribute [local irreducible] Rg Rt Ro Ri Rc Ds Dt Dw Dx Rw Rl Rd Av An kf
end Go.Vx.Seat
end
section
open Go Go.Vx Go.Proofs
set_option maxRecDepth 10000
set_option maxHeartbeats 4000000
namespace Go.Vx.Seat
attribute [local irreducible] Rg Rt Ro Ri Rc Ds Dt Dw Dx Rw Rl Rd Av An kf
def tl (c:Int):Bool:=AJ (IntKind.wrap .u8 (BitVec.ofInt IntKind.u8.bits c&&&BitVec.ofInt IntKind.u8.bits 192).toNat) 128
def tv (c:Int):Int:=AG .i64 (IntKind.wrap .u8 (BitVec.ofInt IntKind.u8.bits c&&&BitVec.ofInt IntKind.u8.bits 63).toNat)
theorem IC (bs:List Int) (k:Nat) (c:Int) (hc:bs[k]?=some c):AS C1 85 [.c (.p (rB bs)),yd (.int .i64 (k:Nat))] fun y=>∃z:Int,y=.tup [yd (.int .i64 z),yd (.bool (tl c))]∧(tl c=true→z=tv c):=by
 have hk:=(List.getElem?_eq_some_iff.mp hc).1
 have t1:AN (bs.length:Nat) (k:Nat)=false:=AE (by omega)
 refine Pf (by rfl) (by rfl) lI (by rfl) ?_
 simp only [Try.f85,List.length_cons,List.length_nil,List.replicate,List.cons_append,List.nil_append]
 cases h1:tl c with
 |true=>
  have h1':=h1
  unfold tl at h1'
  simp -implicitDefEqProofs only [↓yP,yT,reduceCtorEq,t1,C4 hc,h1']
  exact ⟨_,rfl,fun _=>rfl⟩
 |false=>
  have h1':=h1
  unfold tl at h1'
  simp -implicitDefEqProofs only [↓yP,yT,reduceCtorEq,t1,C4 hc,h1']
  exact ⟨_,rfl,fun h=>by cases h⟩
theorem H1 (bs:List Int) (k:Nat) (hk:bs.length≤k):AS C1 85 [.c (.p (rB bs)),yd (.int .i64 (k:Nat))] fun y=>∃z:Int,y=.tup [yd (.int .i64 z),yd (.bool false)]:=by
 have t1:AN (bs.length:Nat) (k:Nat)=true:=AH (by omega)
 refine Pf (by rfl) (by rfl) lI (by rfl) ?_
 simp only [Try.f85,List.length_cons,List.length_nil,List.replicate,List.cons_append,List.nil_append]
 simp -implicitDefEqProofs only [↓yP,yT,reduceCtorEq,t1]
 exact ⟨_,rfl⟩
def Dq:Nat→Int→List Int→Option Int
 |0,x,_=>some x
 |_+1,_,[]=>none
 |m+1,x,c::r=>if tl c then Dq m (JP (PB x) (tv c)) r else none
theorem DE (m:Nat) (x c:Int) (r:List Int):Dq (m+1) x (c::r)=if tl c then Dq m (JP (PB x) (tv c)) r else none:=rfl
theorem JZ (m:Nat) (x:Int):Dq (m+1) x []=none:=rfl
def CP (N:Nat) (L x:Int):Int×Nat:=if !AN L x||(!AN x 1114111||(AN 55296 x&& !AN 57344 x)) then (65533,1) else (x,N)
def Bb (c:Int) (r:List Int):Int×Nat:=
 if !AN 128 (AG .i64 c) then (match Dq (1 - 1) (AG .i64 c) r with|some x=>CP 1 0 x|none=>(65533,1))
 else if !AN 192 (AG .i64 c) then (65533,1)
 else if !AN 224 (AG .i64 c) then (match Dq (2 - 1) (Ck (AG .i64 c) 31) r with|some x=>CP 2 128 x|none=>(65533,1))
 else if !AN 240 (AG .i64 c) then (match Dq (3 - 1) (Ck (AG .i64 c) 15) r with|some x=>CP 3 2048 x|none=>(65533,1))
 else if !AN 248 (AG .i64 c) then (match Dq (4 - 1) (Ck (AG .i64 c) 7) r with|some x=>CP 4 65536 x|none=>(65533,1))
 else (65533,1)
theorem KF (bs:List Int) (i:Nat) (c:Int) (hl:bs.length≤200000000) (hc:bs[i]?=some c):AS C1 55 [.c (.p (rB bs)),yd (.int .i64 (i:Nat))] fun y=>∃(r:Int) (n:Nat) (ok:Bool),y=.tup [yd (.int .i64 r),yd (.int .i64 (n:Nat)),yd (.bool ok)]∧1≤n∧i+n≤bs.length∧Bb c (bs.drop (i+1))=(r,n):=by
 have hi:=(List.getElem?_eq_some_iff.mp hc).1
 refine Pf (by rfl) (by rfl) oU (by rfl) ?_
 simp only [Try.f55,List.length_cons,List.length_nil,List.replicate,List.cons_append,List.nil_append]
 have t0:AN 0 (i:Nat)=true:=AH (by omega)
 have t1:AN (bs.length:Nat) (i:Nat)=false:=AE (by omega)
 cases h1:AN 128 (AG .i64 c) with
 |false=>
  simp -implicitDefEqProofs only [↓yP,yT,t0,t1,C4 hc,h1]
  have hnx:Bb c (bs.drop (i+1))=(match Dq (1 - 1) (AG .i64 c) (bs.drop (i+1)) with|some x=>CP 1 0 x|none=>(65533,1)):=by
   simp only [Bb,h1,Bool.not_false,if_true]
  refine Ah (fun d e s=>∃(j:Nat) (x:Int),e=[.c (.p (rB bs)),yd (.int .i64 (i:Nat)),Tp,Tp,Tp,Tp,Tp,Tp,yd (.int .i64 1),yd (.int .i64 x),yd (.int .i64 0),yd (.int .i64 (j:Nat)),Tp,Tp,Tp,Tp,Tp,Tp,Tp,Tp,Tp,Tp,Tp,Tp,Tp,Tp,Tp,Tp,Tp,Tp,Tp,Tp,Tp,Tp,Tp,Tp,Tp,Tp,Tp,Tp,Tp,Tp,Tp,Tp,Tp,Tp,Tp,Tp,Tp,Tp,Tp,Tp,Tp,Tp,Tp,Tp,Tp,Tp,Tp,Tp,Tp,Tp,Tp,Tp,Tp,Tp,Tp,Tp,Tp,Tp,Tp,Tp,Tp,Tp,Tp,Tp,Tp,Tp,Tp,Tp,Tp,Tp,Tp,Tp,Tp,Tp,Tp,Tp,Tp,Tp,Tp,Tp,Tp,Tp]∧s=[]∧j+d=1∧1≤j∧i+j≤bs.length∧Dq (1 - 1) (AG .i64 c) (bs.drop (i+1))=Dq (1 - j) x ((bs.drop (i+1)).drop (j - 1))) [true,true,false,false,false,false,false,false,true,true,true,true] (1 - 1) [] (by decide) (AC _) ⟨1,AG .i64 c,by (simp only [yE];try rfl),by (simp only [yE];try rfl),by omega,by omega,by omega,rfl⟩ ?_
  rintro d e s ⟨j,x,rfl,rfl,hd,hj,hij,hcont⟩
  by_cases hjn:j<1
  ·have t1:AN 1 (j:Nat)=false:=AE (by omega)
   have w2:AG .i64 ((i:Int)+(j:Nat))=((i+j:Nat):Int):=A1 (i:=i+j) (by omega)
   have w1:AG .i64 ((j:Int)+1)=((j+1:Nat):Int):=AK (by omega)
   have hdd:(bs.drop (i+1)).drop (j - 1)=bs.drop (i+j):=by rw [List.drop_drop];congr 1;omega
   simp -implicitDefEqProofs only [↓yP,yT,Nat.reduceSub,t1,w2]
   by_cases hlt:i+j<bs.length
   ·obtain ⟨cj,hcj⟩:=get_lt hlt
    have hdj:bs.drop (i+j)=cj::bs.drop (i+j+1):=Am hcj
    refine AB (IC bs (i+j) cj hcj) (by rfl) fun y hy=>?_
    obtain ⟨z,rfl,hz⟩:=hy
    rw [hdd,hdj,show 1 - j=(1 - (j+1))+1 by omega,DE] at hcont
    cases hb:tl cj with
    |false=>
     rw [hb] at hcont
     simp only [Bool.false_eq_true,if_false] at hcont
     have hn0:Bb c (bs.drop (i+1))=(65533,1):=by rw [hnx,hcont]
     rw [hn0]
     simp -implicitDefEqProofs only [↓yP,yT,reduceCtorEq]
     exact ⟨_,1,_,rfl,by omega,by omega,rfl⟩
    |true=>
     rw [hb] at hcont
     simp only [if_true] at hcont
     rw [hz hb]
     simp -implicitDefEqProofs only [↓yP,yT,w1,Vr]
     refine ⟨d - 1,[],by omega,by decide,AC _,j+1,JP (PB x) (tv cj),by (simp only [yE];try rfl),rfl,by omega,by omega,by omega,?_⟩
     rw [hcont,List.drop_drop,show j+1 - 1=j by omega,show i+j+1=i+1+j by omega]
   ·have hdn:bs.drop (i+j)=[]:=List.drop_eq_nil_of_le (by omega)
    rw [hdd,hdn,show 1 - j=(1 - (j+1))+1 by omega,JZ] at hcont
    have hn0:Bb c (bs.drop (i+1))=(65533,1):=by rw [hnx,hcont]
    rw [hn0]
    refine AB (H1 bs (i+j) (by omega)) (by rfl) fun y hy=>?_
    obtain ⟨z,rfl⟩:=hy
    simp -implicitDefEqProofs only [↓yP,yT,reduceCtorEq]
    exact ⟨_,1,_,rfl,by omega,by omega,rfl⟩
  ·have t1:AN 1 (j:Nat)=true:=AH (by omega)
   simp -implicitDefEqProofs only [↓yP,yT,t1]
   have hco:Dq (1 - j) x ((bs.drop (i+1)).drop (j - 1))=some x:=by rw [show 1 - j=0 by omega];rfl
   rw [hco] at hcont
   have hn0:Bb c (bs.drop (i+1))=CP 1 0 x:=by rw [hnx,hcont]
   rw [hn0]
   cases f1:AN 0 x with
   |false=>
    simp -implicitDefEqProofs only [↓yP,yT,reduceCtorEq]
    exact ⟨_,1,_,rfl,by omega,by omega,by simp only [CP,f1,Bool.not_false,Bool.true_or,if_true]⟩
   |true=>
    cases f2:AN x 1114111 with
    |false=>
     simp -implicitDefEqProofs only [↓yP,yT,reduceCtorEq,f2]
     exact ⟨_,1,_,rfl,by omega,by omega,by simp only [CP,f1,f2,Bool.not_false,Bool.not_true,Bool.false_or,Bool.true_or,if_true]⟩
    |true=>
     cases f3:AN 55296 x with
     |false=>
      simp -implicitDefEqProofs only [↓yP,yT,reduceCtorEq,f2,f3]
      exact ⟨_,1,_,rfl,by omega,by omega,by simp only [CP,f1,f2,f3,Bool.not_true,Bool.false_or,Bool.false_and,Bool.false_eq_true,if_false]⟩
     |true=>
      cases f4:AN 57344 x with
      |false=>
       simp -implicitDefEqProofs only [↓yP,yT,reduceCtorEq,f2,f3,f4]
       exact ⟨_,1,_,rfl,by omega,by omega,by simp only [CP,f1,f2,f3,f4,Bool.not_true,Bool.not_false,Bool.false_or,Bool.true_and,if_true]⟩
      |true=>
       simp -implicitDefEqProofs only [↓yP,yT,reduceCtorEq,f2,f3,f4]
       exact ⟨_,1,_,rfl,by omega,by omega,by simp only [CP,f1,f2,f3,f4,Bool.not_true,Bool.false_or,Bool.and_false,Bool.false_eq_true,if_false]⟩
 |true=>
  have h1':=Bl h1
  cases h2:AN 192 (AG .i64 c) with
  |false=>
   have h2':=BQ h2
   have h3:AN 224 (AG .i64 c)=false:=AE (by omega)
   have h4:AN 240 (AG .i64 c)=false:=AE (by omega)
   simp -implicitDefEqProofs only [↓yP,yT,reduceCtorEq,t0,t1,C4 hc,h1,h2,h3,h4]
   exact ⟨_,1,_,rfl,by omega,by omega,by simp only [Bb,h1,h2,Bool.not_true,Bool.not_false,Bool.false_eq_true,if_false,if_true]⟩
  |true=>
   cases h3:AN 224 (AG .i64 c) with
   |false=>
    simp -implicitDefEqProofs only [↓yP,yT,t0,t1,C4 hc,h1,h2,h3]
    have hnx:Bb c (bs.drop (i+1))=(match Dq (2 - 1) (Ck (AG .i64 c) 31) (bs.drop (i+1)) with|some x=>CP 2 128 x|none=>(65533,1)):=by
     simp only [Bb,h1,h2,h3,Bool.not_true,Bool.not_false,Bool.false_eq_true,if_false,if_true]
    refine Ah (fun d e s=>∃(j:Nat) (x:Int),e=[.c (.p (rB bs)),yd (.int .i64 (i:Nat)),Tp,Tp,Tp,Tp,Tp,Tp,yd (.int .i64 2),yd (.int .i64 x),yd (.int .i64 128),yd (.int .i64 (j:Nat)),Tp,Tp,Tp,Tp,Tp,Tp,Tp,Tp,Tp,Tp,Tp,Tp,Tp,Tp,Tp,Tp,Tp,Tp,Tp,Tp,Tp,Tp,Tp,Tp,Tp,Tp,Tp,Tp,Tp,Tp,Tp,Tp,Tp,Tp,Tp,Tp,Tp,Tp,Tp,Tp,Tp,Tp,Tp,Tp,Tp,Tp,Tp,Tp,Tp,Tp,Tp,Tp,Tp,Tp,Tp,Tp,Tp,Tp,Tp,Tp,Tp,Tp,Tp,Tp,Tp,Tp,Tp,Tp,Tp,Tp,Tp,Tp,Tp,Tp,Tp,Tp,Tp,Tp,Tp,Tp,Tp,Tp]∧s=[]∧j+d=2∧1≤j∧i+j≤bs.length∧Dq (2 - 1) (Ck (AG .i64 c) 31) (bs.drop (i+1))=Dq (2 - j) x ((bs.drop (i+1)).drop (j - 1))) [true,true,false,false,false,false,false,false,true,true,true,true] (2 - 1) [] (by decide) (AC _) ⟨1,Ck (AG .i64 c) 31,by (simp only [yE];try rfl),by (simp only [yE];try rfl),by omega,by omega,by omega,rfl⟩ ?_
    rintro d e s ⟨j,x,rfl,rfl,hd,hj,hij,hcont⟩
    by_cases hjn:j<2
    ·have t1:AN 2 (j:Nat)=false:=AE (by omega)
     have w2:AG .i64 ((i:Int)+(j:Nat))=((i+j:Nat):Int):=A1 (i:=i+j) (by omega)
     have w1:AG .i64 ((j:Int)+1)=((j+1:Nat):Int):=AK (by omega)
     have hdd:(bs.drop (i+1)).drop (j - 1)=bs.drop (i+j):=by rw [List.drop_drop];congr 1;omega
     simp -implicitDefEqProofs only [↓yP,yT,Nat.reduceSub,t1,w2]
     by_cases hlt:i+j<bs.length
     ·obtain ⟨cj,hcj⟩:=get_lt hlt
      have hdj:bs.drop (i+j)=cj::bs.drop (i+j+1):=Am hcj
      refine AB (IC bs (i+j) cj hcj) (by rfl) fun y hy=>?_
      obtain ⟨z,rfl,hz⟩:=hy
      rw [hdd,hdj,show 2 - j=(2 - (j+1))+1 by omega,DE] at hcont
      cases hb:tl cj with
      |false=>
       rw [hb] at hcont
       simp only [Bool.false_eq_true,if_false] at hcont
       have hn0:Bb c (bs.drop (i+1))=(65533,1):=by rw [hnx,hcont]
       rw [hn0]
       simp -implicitDefEqProofs only [↓yP,yT,reduceCtorEq]
       exact ⟨_,1,_,rfl,by omega,by omega,rfl⟩
      |true=>
       rw [hb] at hcont
       simp only [if_true] at hcont
       rw [hz hb]
       simp -implicitDefEqProofs only [↓yP,yT,w1,Vr]
       refine ⟨d - 1,[],by omega,by decide,AC _,j+1,JP (PB x) (tv cj),by (simp only [yE];try rfl),rfl,by omega,by omega,by omega,?_⟩
       rw [hcont,List.drop_drop,show j+1 - 1=j by omega,show i+j+1=i+1+j by omega]
     ·have hdn:bs.drop (i+j)=[]:=List.drop_eq_nil_of_le (by omega)
      rw [hdd,hdn,show 2 - j=(2 - (j+1))+1 by omega,JZ] at hcont
      have hn0:Bb c (bs.drop (i+1))=(65533,1):=by rw [hnx,hcont]
      rw [hn0]
      refine AB (H1 bs (i+j) (by omega)) (by rfl) fun y hy=>?_
      obtain ⟨z,rfl⟩:=hy
      simp -implicitDefEqProofs only [↓yP,yT,reduceCtorEq]
      exact ⟨_,1,_,rfl,by omega,by omega,rfl⟩
    ·have t1:AN 2 (j:Nat)=true:=AH (by omega)
     simp -implicitDefEqProofs only [↓yP,yT,t1]
     have hco:Dq (2 - j) x ((bs.drop (i+1)).drop (j - 1))=some x:=by rw [show 2 - j=0 by omega];rfl
     rw [hco] at hcont
     have hn0:Bb c (bs.drop (i+1))=CP 2 128 x:=by rw [hnx,hcont]
     rw [hn0]
     cases f1:AN 128 x with
     |false=>
      simp -implicitDefEqProofs only [↓yP,yT,reduceCtorEq]
      exact ⟨_,1,_,rfl,by omega,by omega,by simp only [CP,f1,Bool.not_false,Bool.true_or,if_true]⟩
     |true=>
      cases f2:AN x 1114111 with
      |false=>
       simp -implicitDefEqProofs only [↓yP,yT,reduceCtorEq,f2]
       exact ⟨_,1,_,rfl,by omega,by omega,by simp only [CP,f1,f2,Bool.not_false,Bool.not_true,Bool.false_or,Bool.true_or,if_true]⟩
      |true=>
       cases f3:AN 55296 x with
       |false=>
        simp -implicitDefEqProofs only [↓yP,yT,reduceCtorEq,f2,f3]
        exact ⟨_,2,_,rfl,by omega,by omega,by simp only [CP,f1,f2,f3,Bool.not_true,Bool.false_or,Bool.false_and,Bool.false_eq_true,if_false]⟩
       |true=>
        cases f4:AN 57344 x with
        |false=>
         simp -implicitDefEqProofs only [↓yP,yT,reduceCtorEq,f2,f3,f4]
         exact ⟨_,1,_,rfl,by omega,by omega,by simp only [CP,f1,f2,f3,f4,Bool.not_true,Bool.not_false,Bool.false_or,Bool.true_and,if_true]⟩
        |true=>
         simp -implicitDefEqProofs only [↓yP,yT,reduceCtorEq,f2,f3,f4]
         exact ⟨_,2,_,rfl,by omega,by omega,by simp only [CP,f1,f2,f3,f4,Bool.not_true,Bool.false_or,Bool.and_false,Bool.false_eq_true,if_false]⟩
   |true=>
    cases h4:AN 240 (AG .i64 c) with
    |false=>
     simp -implicitDefEqProofs only [↓yP,yT,t0,t1,C4 hc,h1,h2,h3,h4]
     have hnx:Bb c (bs.drop (i+1))=(match Dq (3 - 1) (Ck (AG .i64 c) 15) (bs.drop (i+1)) with|some x=>CP 3 2048 x|none=>(65533,1)):=by
      simp only [Bb,h1,h2,h3,h4,Bool.not_true,Bool.not_false,Bool.false_eq_true,if_false,if_true]
     refine Ah (fun d e s=>∃(j:Nat) (x:Int),e=[.c (.p (rB bs)),yd (.int .i64 (i:Nat)),Tp,Tp,Tp,Tp,Tp,Tp,yd (.int .i64 3),yd (.int .i64 x),yd (.int .i64 2048),yd (.int .i64 (j:Nat)),Tp,Tp,Tp,Tp,Tp,Tp,Tp,Tp,Tp,Tp,Tp,Tp,Tp,Tp,Tp,Tp,Tp,Tp,Tp,Tp,Tp,Tp,Tp,Tp,Tp,Tp,Tp,Tp,Tp,Tp,Tp,Tp,Tp,Tp,Tp,Tp,Tp,Tp,Tp,Tp,Tp,Tp,Tp,Tp,Tp,Tp,Tp,Tp,Tp,Tp,Tp,Tp,Tp,Tp,Tp,Tp,Tp,Tp,Tp,Tp,Tp,Tp,Tp,Tp,Tp,Tp,Tp,Tp,Tp,Tp,Tp,Tp,Tp,Tp,Tp,Tp,Tp,Tp,Tp,Tp,Tp,Tp]∧s=[]∧j+d=3∧1≤j∧i+j≤bs.length∧Dq (3 - 1) (Ck (AG .i64 c) 15) (bs.drop (i+1))=Dq (3 - j) x ((bs.drop (i+1)).drop (j - 1))) [true,true,false,false,false,false,false,false,true,true,true,true] (3 - 1) [] (by decide) (AC _) ⟨1,Ck (AG .i64 c) 15,by (simp only [yE];try rfl),by (simp only [yE];try rfl),by omega,by omega,by omega,rfl⟩ ?_
     rintro d e s ⟨j,x,rfl,rfl,hd,hj,hij,hcont⟩
     by_cases hjn:j<3
     ·have t1:AN 3 (j:Nat)=false:=AE (by omega)
      have w2:AG .i64 ((i:Int)+(j:Nat))=((i+j:Nat):Int):=A1 (i:=i+j) (by omega)
      have w1:AG .i64 ((j:Int)+1)=((j+1:Nat):Int):=AK (by omega)
      have hdd:(bs.drop (i+1)).drop (j - 1)=bs.drop (i+j):=by rw [List.drop_drop];congr 1;omega
      simp -implicitDefEqProofs only [↓yP,yT,Nat.reduceSub,t1,w2]
      by_cases hlt:i+j<bs.length
      ·obtain ⟨cj,hcj⟩:=get_lt hlt
       have hdj:bs.drop (i+j)=cj::bs.drop (i+j+1):=Am hcj
       refine AB (IC bs (i+j) cj hcj) (by rfl) fun y hy=>?_
       obtain ⟨z,rfl,hz⟩:=hy
       rw [hdd,hdj,show 3 - j=(3 - (j+1))+1 by omega,DE] at hcont
       cases hb:tl cj with
       |false=>
        rw [hb] at hcont
        simp only [Bool.false_eq_true,if_false] at hcont
        have hn0:Bb c (bs.drop (i+1))=(65533,1):=by rw [hnx,hcont]
        rw [hn0]
        simp -implicitDefEqProofs only [↓yP,yT,reduceCtorEq]
        exact ⟨_,1,_,rfl,by omega,by omega,rfl⟩
       |true=>
        rw [hb] at hcont
        simp only [if_true] at hcont
        rw [hz hb]
        simp -implicitDefEqProofs only [↓yP,yT,w1,Vr]
        refine ⟨d - 1,[],by omega,by decide,AC _,j+1,JP (PB x) (tv cj),by (simp only [yE];try rfl),rfl,by omega,by omega,by omega,?_⟩
        rw [hcont,List.drop_drop,show j+1 - 1=j by omega,show i+j+1=i+1+j by omega]
      ·have hdn:bs.drop (i+j)=[]:=List.drop_eq_nil_of_le (by omega)
       rw [hdd,hdn,show 3 - j=(3 - (j+1))+1 by omega,JZ] at hcont
       have hn0:Bb c (bs.drop (i+1))=(65533,1):=by rw [hnx,hcont]
       rw [hn0]
       refine AB (H1 bs (i+j) (by omega)) (by rfl) fun y hy=>?_
       obtain ⟨z,rfl⟩:=hy
       simp -implicitDefEqProofs only [↓yP,yT,reduceCtorEq]
       exact ⟨_,1,_,rfl,by omega,by omega,rfl⟩
     ·have t1:AN 3 (j:Nat)=true:=AH (by omega)
      simp -implicitDefEqProofs only [↓yP,yT,t1]
      have hco:Dq (3 - j) x ((bs.drop (i+1)).drop (j - 1))=some x:=by rw [show 3 - j=0 by omega];rfl
      rw [hco] at hcont
      have hn0:Bb c (bs.drop (i+1))=CP 3 2048 x:=by rw [hnx,hcont]
      rw [hn0]
      cases f1:AN 2048 x with
      |false=>
       simp -implicitDefEqProofs only [↓yP,yT,reduceCtorEq]
       exact ⟨_,1,_,rfl,by omega,by omega,by simp only [CP,f1,Bool.not_false,Bool.true_or,if_true]⟩
      |true=>
       cases f2:AN x 1114111 with
       |false=>
        simp -implicitDefEqProofs only [↓yP,yT,reduceCtorEq,f2]
        exact ⟨_,1,_,rfl,by omega,by omega,by simp only [CP,f1,f2,Bool.not_false,Bool.not_true,Bool.false_or,Bool.true_or,if_true]⟩
       |true=>
        cases f3:AN 55296 x with
        |false=>
         simp -implicitDefEqProofs only [↓yP,yT,reduceCtorEq,f2,f3]
         exact ⟨_,3,_,rfl,by omega,by omega,by simp only [CP,f1,f2,f3,Bool.not_true,Bool.false_or,Bool.false_and,Bool.false_eq_true,if_false]⟩
        |true=>
         cases f4:AN 57344 x with
         |false=>
          simp -implicitDefEqProofs only [↓yP,yT,reduceCtorEq,f2,f3,f4]
          exact ⟨_,1,_,rfl,by omega,by omega,by simp only [CP,f1,f2,f3,f4,Bool.not_true,Bool.not_false,Bool.false_or,Bool.true_and,if_true]⟩
         |true=>
          simp -implicitDefEqProofs only [↓yP,yT,reduceCtorEq,f2,f3,f4]
          exact ⟨_,3,_,rfl,by omega,by omega,by simp only [CP,f1,f2,f3,f4,Bool.not_true,Bool.false_or,Bool.and_false,Bool.false_eq_true,if_false]⟩
    |true=>
     cases h5:AN 248 (AG .i64 c) with
     |false=>
      simp -implicitDefEqProofs only [↓yP,yT,t0,t1,C4 hc,h1,h2,h3,h4,h5]
      have hnx:Bb c (bs.drop (i+1))=(match Dq (4 - 1) (Ck (AG .i64 c) 7) (bs.drop (i+1)) with|some x=>CP 4 65536 x|none=>(65533,1)):=by
       simp only [Bb,h1,h2,h3,h4,h5,Bool.not_true,Bool.not_false,Bool.false_eq_true,if_false,if_true]
      refine Ah (fun d e s=>∃(j:Nat) (x:Int),e=[.c (.p (rB bs)),yd (.int .i64 (i:Nat)),Tp,Tp,Tp,Tp,Tp,Tp,yd (.int .i64 4),yd (.int .i64 x),yd (.int .i64 65536),yd (.int .i64 (j:Nat)),Tp,Tp,Tp,Tp,Tp,Tp,Tp,Tp,Tp,Tp,Tp,Tp,Tp,Tp,Tp,Tp,Tp,Tp,Tp,Tp,Tp,Tp,Tp,Tp,Tp,Tp,Tp,Tp,Tp,Tp,Tp,Tp,Tp,Tp,Tp,Tp,Tp,Tp,Tp,Tp,Tp,Tp,Tp,Tp,Tp,Tp,Tp,Tp,Tp,Tp,Tp,Tp,Tp,Tp,Tp,Tp,Tp,Tp,Tp,Tp,Tp,Tp,Tp,Tp,Tp,Tp,Tp,Tp,Tp,Tp,Tp,Tp,Tp,Tp,Tp,Tp,Tp,Tp,Tp,Tp,Tp,Tp]∧s=[]∧j+d=4∧1≤j∧i+j≤bs.length∧Dq (4 - 1) (Ck (AG .i64 c) 7) (bs.drop (i+1))=Dq (4 - j) x ((bs.drop (i+1)).drop (j - 1))) [true,true,false,false,false,false,false,false,true,true,true,true] (4 - 1) [] (by decide) (AC _) ⟨1,Ck (AG .i64 c) 7,by (simp only [yE];try rfl),by (simp only [yE];try rfl),by omega,by omega,by omega,rfl⟩ ?_
      rintro d e s ⟨j,x,rfl,rfl,hd,hj,hij,hcont⟩
      by_cases hjn:j<4
      ·have t1:AN 4 (j:Nat)=false:=AE (by omega)
       have w2:AG .i64 ((i:Int)+(j:Nat))=((i+j:Nat):Int):=A1 (i:=i+j) (by omega)
       have w1:AG .i64 ((j:Int)+1)=((j+1:Nat):Int):=AK (by omega)
       have hdd:(bs.drop (i+1)).drop (j - 1)=bs.drop (i+j):=by rw [List.drop_drop];congr 1;omega
       simp -implicitDefEqProofs only [↓yP,yT,Nat.reduceSub,t1,w2]
       by_cases hlt:i+j<bs.length
       ·obtain ⟨cj,hcj⟩:=get_lt hlt
        have hdj:bs.drop (i+j)=cj::bs.drop (i+j+1):=Am hcj
        refine AB (IC bs (i+j) cj hcj) (by rfl) fun y hy=>?_
        obtain ⟨z,rfl,hz⟩:=hy
        rw [hdd,hdj,show 4 - j=(4 - (j+1))+1 by omega,DE] at hcont
        cases hb:tl cj with
        |false=>
         rw [hb] at hcont
         simp only [Bool.false_eq_true,if_false] at hcont
         have hn0:Bb c (bs.drop (i+1))=(65533,1):=by rw [hnx,hcont]
         rw [hn0]
         simp -implicitDefEqProofs only [↓yP,yT,reduceCtorEq]
         exact ⟨_,1,_,rfl,by omega,by omega,rfl⟩
        |true=>
         rw [hb] at hcont
         simp only [if_true] at hcont
         rw [hz hb]
         simp -implicitDefEqProofs only [↓yP,yT,w1,Vr]
         refine ⟨d - 1,[],by omega,by decide,AC _,j+1,JP (PB x) (tv cj),by (simp only [yE];try rfl),rfl,by omega,by omega,by omega,?_⟩
         rw [hcont,List.drop_drop,show j+1 - 1=j by omega,show i+j+1=i+1+j by omega]
       ·have hdn:bs.drop (i+j)=[]:=List.drop_eq_nil_of_le (by omega)
        rw [hdd,hdn,show 4 - j=(4 - (j+1))+1 by omega,JZ] at hcont
        have hn0:Bb c (bs.drop (i+1))=(65533,1):=by rw [hnx,hcont]
        rw [hn0]
        refine AB (H1 bs (i+j) (by omega)) (by rfl) fun y hy=>?_
        obtain ⟨z,rfl⟩:=hy
        simp -implicitDefEqProofs only [↓yP,yT,reduceCtorEq]
        exact ⟨_,1,_,rfl,by omega,by omega,rfl⟩
      ·have t1:AN 4 (j:Nat)=true:=AH (by omega)
       simp -implicitDefEqProofs only [↓yP,yT,t1]
       have hco:Dq (4 - j) x ((bs.drop (i+1)).drop (j - 1))=some x:=by rw [show 4 - j=0 by omega];rfl
       rw [hco] at hcont
       have hn0:Bb c (bs.drop (i+1))=CP 4 65536 x:=by rw [hnx,hcont]
       rw [hn0]
       cases f1:AN 65536 x with
       |false=>
        simp -implicitDefEqProofs only [↓yP,yT,reduceCtorEq]
        exact ⟨_,1,_,rfl,by omega,by omega,by simp only [CP,f1,Bool.not_false,Bool.true_or,if_true]⟩
       |true=>
        cases f2:AN x 1114111 with
        |false=>
         simp -implicitDefEqProofs only [↓yP,yT,reduceCtorEq,f2]
         exact ⟨_,1,_,rfl,by omega,by omega,by simp only [CP,f1,f2,Bool.not_false,Bool.not_true,Bool.false_or,Bool.true_or,if_true]⟩
        |true=>
         cases f3:AN 55296 x with
         |false=>
          simp -implicitDefEqProofs only [↓yP,yT,reduceCtorEq,f2,f3]
          exact ⟨_,4,_,rfl,by omega,by omega,by simp only [CP,f1,f2,f3,Bool.not_true,Bool.false_or,Bool.false_and,Bool.false_eq_true,if_false]⟩
         |true=>
          cases f4:AN 57344 x with
          |false=>
           simp -implicitDefEqProofs only [↓yP,yT,reduceCtorEq,f2,f3,f4]
           exact ⟨_,1,_,rfl,by omega,by omega,by simp only [CP,f1,f2,f3,f4,Bool.not_true,Bool.not_false,Bool.false_or,Bool.true_and,if_true]⟩
          |true=>
           simp -implicitDefEqProofs only [↓yP,yT,reduceCtorEq,f2,f3,f4]
           exact ⟨_,4,_,rfl,by omega,by omega,by simp only [CP,f1,f2,f3,f4,Bool.not_true,Bool.false_or,Bool.and_false,Bool.false_eq_true,if_false]⟩
     |true=>
      simp -implicitDefEqProofs only [↓yP,yT,reduceCtorEq,t0,t1,C4 hc,h1,h2,h3,h4,h5]
      exact ⟨_,1,_,rfl,by omega,by omega,by simp only [Bb,h1,h2,h3,h4,h5,Bool.not_true,Bool.false_eq_true,if_false]⟩
def PD (r:List Int):List Int:=match r with|c::r'=>if AJ c 10 then r' else c::r'|[]=>[]
def EM (x:Int) (r:List Int):Int×List Int:=if AJ x 0 then (65533,r) else if AJ x 12 then (10,r) else if AJ x 13 then (10,PD r) else (x,r)
theorem dO (r:List Int):(PD r).length≤r.length:=by unfold PD;split<;>first|(split<;>simp)|simp
theorem aU (x:Int) (r:List Int):(EM x r).2.length≤r.length:=by
 have:=dO r
 unfold EM
 split
 ·simp
 ·split
  ·simp
  ·split
   ·exact this
   ·simp
def BI (pos:Nat) (bs:List Int):List Rn:=match bs with
 |[]=>[]
 |c::r=>⟨(EM (Bb c r).1 (r.drop ((Bb c r).2 - 1))).1,(pos:Nat)⟩::BI (pos+((c::r).length - (EM (Bb c r).1 (r.drop ((Bb c r).2 - 1))).2.length)) (EM (Bb c r).1 (r.drop ((Bb c r).2 - 1))).2
termination_by bs.length
decreasing_by
 have h1:=aU (Bb c r).1 (r.drop ((Bb c r).2 - 1))
 simp at h1 ⊢;omega
theorem EB (pos:Nat):BI pos []=[]:=by rw [BI]
theorem Rs {bs:List Int} {i:Nat} {c:Int} (hc:bs[i]?=some c) (pos:Nat):BI pos (bs.drop i)=⟨(EM (Bb c (bs.drop (i+1))).1 ((bs.drop (i+1)).drop ((Bb c (bs.drop (i+1))).2 - 1))).1,(pos:Nat)⟩::
  BI (pos+((bs.drop i).length - (EM (Bb c (bs.drop (i+1))).1 ((bs.drop (i+1)).drop ((Bb c (bs.drop (i+1))).2 - 1))).2.length)) (EM (Bb c (bs.drop (i+1))).1 ((bs.drop (i+1)).drop ((Bb c (bs.drop (i+1))).2 - 1))).2:=by
 rw [Am hc,BI]
theorem C7 (bs:List Int) (hl:bs.length≤200000000):AS C1 24 [.c (.p (rB bs))] fun y=>y=.c (.p (rR (BI 0 bs))):=by
 refine Pf (by rfl) (by rfl) oP (by rfl) ?_
 simp only [Try.f24,List.length_cons,List.length_nil,List.replicate,List.cons_append,List.nil_append]
 simp -implicitDefEqProofs only [↓yP,yT]
 refine Cb 3 2 (by decide) rfl ?_
 refine Ah (fun d e s=>∃(i:Nat) (rs:List Rn),e=[.c (.p (rB bs)),Tp,Tp,.c (.own 0 2 0 rs.length),yd (.int .i64 (i:Nat)),Tp,Tp,Tp,Tp,Tp,Tp,Tp,Tp,Tp,Tp,Tp,Tp,Tp,Tp,Tp,Tp,Tp,Tp,Tp,Tp,Tp,Tp,Tp,Tp,Tp,Tp,Tp,Tp,Tp,Tp,Tp,Tp,Tp,Tp,Tp,Tp,Tp,Tp,Tp,Tp,Tp,Tp,Tp,Tp,Tp,Tp,Tp,Tp]∧s=[.row 2 (rs.map Rn.pc)]∧i+d=bs.length∧rs.length≤i∧BI 0 bs=rs++BI i (bs.drop i)) [true,false,false,true,true] bs.length [0] (by decide) (AC _) ⟨0,[],by (simp only [yE];try rfl),by (simp only [yE];try rfl),by omega,by simp,by simp⟩ ?_
 rintro d e s ⟨i,rs,rfl,rfl,hd,hrl,hrf⟩
 by_cases hi:i<bs.length
 ·obtain ⟨c,hc⟩:=get_lt hi
  have t1:AN (bs.length:Nat) (i:Nat)=false:=AE (by omega)
  have b1:(rs.length+1)*16≤70368744177664:=by omega
  simp -implicitDefEqProofs only [↓yP,yT,t1]
  refine AB (KF bs i c hl hc) (by rfl) fun y hy=>?_
  obtain ⟨r,n,ok,rfl,hn1,hn2,hnx⟩:=hy
  have w2:AG .i64 ((i:Int)+(n:Nat))=((i+n:Nat):Int):=A1 (i:=i+n) (by omega)
  have w3:AG .i64 (((i+n:Nat):Int)+1)=((i+n+1:Nat):Int):=AK (by omega)
  have hdk:(bs.drop (i+1)).drop (n - 1)=bs.drop (i+n):=by rw [List.drop_drop];congr 1;omega
  have hst:BI i (bs.drop i)=⟨(EM r (bs.drop (i+n))).1,(i:Nat)⟩::BI (i+((bs.drop i).length - (EM r (bs.drop (i+n))).2.length)) (EM r (bs.drop (i+n))).2:=by rw [Rs hc,hnx];simp only [hdk]
  have hln:i+((bs.drop i).length - (bs.drop (i+n)).length)=i+n:=by simp;omega
  rw [hst] at hrf
  cases h0:AJ r 0 with
  |true=>
   simp only [EM,h0,if_true] at hrf
   rw [hln] at hrf
   simp -implicitDefEqProofs only [↓yP,yT,Nat.reduceAdd,Nat.reduceMul,Nat.reduceLeDiff,reduceCtorEq,w2,h0,b1]
   refine ⟨bs.length - (i+n),[2],by omega,by decide,AC _,i+n,rs++[⟨65533,(i:Nat)⟩],by (simp only [yE];try rfl),?_,by omega,by simp;omega,by rw [hrf];simp⟩
   simp only [yE,List.map_append];rfl
  |false=>
   cases h12:AJ r 12 with
   |true=>
    simp only [EM,h0,h12,if_true,Bool.false_eq_true,if_false] at hrf
    rw [hln] at hrf
    simp -implicitDefEqProofs only [↓yP,yT,Nat.reduceAdd,Nat.reduceMul,Nat.reduceLeDiff,reduceCtorEq,w2,h0,h12,b1]
    refine ⟨bs.length - (i+n),[2],by omega,by decide,AC _,i+n,rs++[⟨10,(i:Nat)⟩],by (simp only [yE];try rfl),?_,by omega,by simp;omega,by rw [hrf];simp⟩
    simp only [yE,List.map_append];rfl
   |false=>
    cases h13:AJ r 13 with
    |false=>
     simp only [EM,h0,h12,h13,Bool.false_eq_true,if_false] at hrf
     rw [hln] at hrf
     simp -implicitDefEqProofs only [↓yP,yT,Nat.reduceAdd,Nat.reduceMul,Nat.reduceLeDiff,reduceCtorEq,w2,h0,h12,h13,b1]
     refine ⟨bs.length - (i+n),[2],by omega,by decide,AC _,i+n,rs++[⟨r,(i:Nat)⟩],by (simp only [yE];try rfl),?_,by omega,by simp;omega,by rw [hrf];simp⟩
     simp only [yE,List.map_append];rfl
    |true=>
     simp only [EM,h0,h12,h13,if_true,Bool.false_eq_true,if_false] at hrf
     by_cases hin:i+n<bs.length
     ·obtain ⟨c2,hc2⟩:=get_lt hin
      have hd2:=Am hc2
      have t2:AN (bs.length:Nat) ((i+n:Nat):Int)=false:=AE (by omega)
      cases h10:AJ c2 10 with
      |true=>
       have hcr:PD (bs.drop (i+n))=bs.drop (i+n+1):=by rw [hd2,PD,if_pos h10]
       rw [hcr,show i+((bs.drop i).length - (bs.drop (i+n+1)).length)=i+n+1 by simp;omega] at hrf
       simp -implicitDefEqProofs only [↓yP,yT,Nat.reduceAdd,Nat.reduceMul,Nat.reduceLeDiff,reduceCtorEq,w2,h0,h12,h13,b1,t2,C4 hc2,h10,w3]
       refine ⟨bs.length - (i+n+1),[2],by omega,by decide,AC _,i+n+1,rs++[⟨10,(i:Nat)⟩],by (simp only [yE];try rfl),?_,by omega,by simp;omega,by rw [hrf];simp⟩
       simp only [yE,List.map_append];rfl
      |false=>
       have hcr:PD (bs.drop (i+n))=bs.drop (i+n):=by rw [hd2,PD,if_neg (by rw [h10];simp)]
       rw [hcr,hln] at hrf
       simp -implicitDefEqProofs only [↓yP,yT,Nat.reduceAdd,Nat.reduceMul,Nat.reduceLeDiff,reduceCtorEq,w2,h0,h12,h13,b1,t2,C4 hc2,h10]
       refine ⟨bs.length - (i+n),[2],by omega,by decide,AC _,i+n,rs++[⟨10,(i:Nat)⟩],by (simp only [yE];try rfl),?_,by omega,by simp;omega,by rw [hrf];simp⟩
       simp only [yE,List.map_append];rfl
     ·have t2:AN (bs.length:Nat) ((i+n:Nat):Int)=true:=AH (by omega)
      have hcr:PD (bs.drop (i+n))=bs.drop (i+n):=by rw [List.drop_eq_nil_of_le (by omega)];rfl
      rw [hcr,hln] at hrf
      simp -implicitDefEqProofs only [↓yP,yT,Nat.reduceAdd,Nat.reduceMul,Nat.reduceLeDiff,reduceCtorEq,w2,h0,h12,h13,b1,t2]
      refine ⟨bs.length - (i+n),[2],by omega,by decide,AC _,i+n,rs++[⟨10,(i:Nat)⟩],by (simp only [yE];try rfl),?_,by omega,by simp;omega,by rw [hrf];simp⟩
      simp only [yE,List.map_append];rfl
 ·have t1:AN (bs.length:Nat) (i:Nat)=true:=AH (by omega)
  obtain rfl:i=bs.length:=by omega
  rw [List.drop_length,EB,List.append_nil] at hrf
  rw [hrf]
  simp -implicitDefEqProofs only [↓yP,yT,reduceCtorEq,t1]
end Go.Vx.Seat
end
section
open Go Go.Vx Go.Proofs
set_option maxRecDepth 10000
set_option maxHeartbeats 4000000
namespace Go.Vx.Seat
attribute [local irreducible] Rg Rt Ro Ri Rc Ds Dt Dw Dx Rw Rl Rd Av An kf
theorem JN (l:List Rn) (i:Nat) (hl:l.length≤200000000) (hi:i<l.length):AS C1 100 [.c (.p (rR l)),yd (.int .i64 (i:Nat))] fun y=>∃(k:Nat),y=.tup [yd (.int .i64 (BZ (l.drop (i+1))).1),yd (.int .i64 (k:Nat))]∧i<k∧k≤l.length∧(BZ (l.drop (i+1))).2=l.drop k:=by
 have w1:AG .i64 ((i:Int)+1)=((i+1:Nat):Int):=AK (by omega)
 have w2:AG .i64 ((i:Int)+2)=((i+2:Nat):Int):=A1 (i:=i+2) (by omega)
 have w7:AG .i64 ((i:Int)+7)=((i+7:Nat):Int):=A1 (i:=i+7) (by omega)
 refine Pf (by rfl) (by rfl) lO (by rfl) ?_
 simp only [Try.f100,List.length_cons,List.length_nil,List.replicate,List.cons_append,List.nil_append]
 simp -implicitDefEqProofs only [↓yP,yT,w1]
 refine AB (BC l _) (by rfl) fun y hy=>?_
 subst hy
 by_cases h1:i+1<l.length
 ·obtain ⟨x1,hx1⟩:=get_lt h1
  have t1:AN (l.length:Nat) ((i+1:Nat):Int)=false:=AE (by omega)
  simp -implicitDefEqProofs only [↓yP,yT,t1,w1]
  refine AB (HZ _) (by rfl) fun y hy=>?_
  subst hy
  rw [CU hx1]
  cases h2:AN 0 (DI x1.r) with
  |false=>
   simp -implicitDefEqProofs only [↓yP,yT,reduceCtorEq,h2,w2]
   exact ⟨i+2,by rw [Am hx1,BZ,h2];rfl,by omega,by omega,by rw [Am hx1,BZ,h2];rfl⟩
  |true=>
   simp -implicitDefEqProofs only [↓yP,yT,h2,w1]
   refine Ah (fun d e s=>∃(k:Nat) (x:Int),e=[.c (.p (rR l)),yd (.int .i64 (i:Nat)),Tp,Tp,Tp,Tp,Tp,yd (.int .i64 x),yd (.int .i64 (k:Nat)),Tp,Tp,Tp,Tp,Tp,Tp,Tp,Tp,Tp,Tp,Tp,Tp,Tp,Tp,Tp,Tp,Tp,Tp,Tp,Tp,Tp,Tp,Tp,Tp,Tp,Tp,Tp,Tp,Tp,Tp,Tp,Tp,Tp,Tp,Tp,Tp,Tp,Tp,Tp,Tp,Tp,Tp,Tp,Tp,Tp,Tp,Tp,Tp,Tp,Tp,Tp,Tp,Tp,Tp,Tp,Tp,Tp,Tp,Tp,Tp,Tp]∧s=[]∧k+d=l.length∧i<k∧k≤i+7∧Es (i+7 - k) x (l.drop k)=Es 6 0 (l.drop (i+1))) [true,true,false,false,false,false,false,true,true] (l.length - (i+1)) [] (by decide) (AC _) ⟨i+1,0,by simp only [yE],by simp only [yE],by omega,by omega,by omega,by rw [show i+7 - (i+1)=6 by omega]⟩ ?_
   rintro d e s ⟨k,x,rfl,rfl,hd,hk,hk7,hhx⟩
   by_cases h7:k<i+7
   ·have t7:AN ((i+7:Nat):Int) (k:Nat)=false:=AE (by omega)
    simp -implicitDefEqProofs only [↓yP,yT,w7,t7]
    refine AB (BC l _) (by rfl) fun y hy=>?_
    subst hy
    simp -implicitDefEqProofs only [yT]
    refine AB (HZ _) (by rfl) fun y hy=>?_
    subst hy
    cases h8:AN 0 (DI (DV l (k:Nat))) with
    |true=>
     have hkl:k<l.length:=Nat.lt_of_not_le fun hle=>by
      rw [ZY hle] at h8
      exact absurd h8 (by decide)
     obtain ⟨c,hc⟩:=get_lt hkl
     have w3:AG .i64 ((k:Int)+1)=((k+1:Nat):Int):=AK (by omega)
     have h8':=h8
     rw [CU hc] at h8'
     simp -implicitDefEqProofs only [↓yP,yT,h8]
     refine AB (BC l _) (by rfl) fun y hy=>?_
     subst hy
     simp -implicitDefEqProofs only [yT]
     refine AB (HZ _) (by rfl) fun y hy=>?_
     subst hy
     simp -implicitDefEqProofs only [↓yP,yT,w3]
     refine ⟨d - 1,[],by omega,by decide,AC _,k+1,AG .i64 (AG .i64 (16*x)+DI (DV l (k:Nat))),?_,rfl,by omega,by omega,by omega,?_⟩
     ·simp only [yE]
     ·rw [←hhx,show i+7 - k=(i+7 - (k+1))+1 by omega,Am hc,Es,if_pos h8',CU hc]
    |false=>
     have hfin:Es (i+7 - k) x (l.drop k)=(x,l.drop k):=by
      rw [show i+7 - k=(i+7 - (k+1))+1 by omega]
      cases hc:l[k]? with
      |none=>rw [List.drop_eq_nil_of_le (by simpa using hc)];rfl
      |some c=>rw [CU hc] at h8;rw [Am hc,Es,if_neg (by rw [h8];simp)]
     simp -implicitDefEqProofs only [↓yP,yT,h8]
     have hres:BZ (l.drop (i+1))=(FE x,Ek (l.drop k)):=by
      rw [Am hx1,BZ,if_pos h2,←Am hx1,←hhx,hfin]
     refine AB (BC l _) (by rfl) fun y hy=>?_
     subst hy
     simp -implicitDefEqProofs only [yT]
     refine AB (CY _) (by rfl) fun y hy=>?_
     subst hy
     have w3:AG .i64 ((k:Int)+1)=((k+1:Nat):Int):=AK (by omega)
     cases q1:Ad (DV l (k:Nat)) with
     |false=>
      have hsk:Ek (l.drop k)=l.drop k:=by
       cases hk0:l[k]? with
       |none=>rw [List.drop_eq_nil_of_le (by simpa using hk0)];rfl
       |some c=>rw [CU hk0] at q1;rw [Am hk0,Ek,if_neg (by rw [q1];simp)]
      simp -implicitDefEqProofs only [↓yP,yT]
      cases q2:AJ x 0 with
      |true=>
       simp -implicitDefEqProofs only [↓yP,yT,reduceCtorEq]
       exact ⟨k,by rw [hres];simp only [FE,q2,Bool.true_or,if_true];rfl,by omega,by omega,by rw [hres];exact hsk⟩
      |false=>
       cases q3:AN x 1114111 with
       |false=>
        simp -implicitDefEqProofs only [↓yP,yT,reduceCtorEq,q3]
        exact ⟨k,by rw [hres];simp only [FE,q2,q3,Bool.not_false,Bool.or_true,Bool.true_or,if_true];rfl,by omega,by omega,by rw [hres];exact hsk⟩
       |true=>
        cases q4:AN 55296 x with
        |false=>
         simp -implicitDefEqProofs only [↓yP,yT,reduceCtorEq,q3,q4]
         exact ⟨k,by rw [hres];simp only [FE,q2,q3,q4,Bool.not_true,Bool.or_false,Bool.false_and,Bool.false_eq_true,if_false];rfl,by omega,by omega,by rw [hres];exact hsk⟩
        |true=>
         cases q5:AN 57344 x with
         |true=>
          simp -implicitDefEqProofs only [↓yP,yT,reduceCtorEq,q3,q4,q5]
          exact ⟨k,by rw [hres];simp only [FE,q2,q3,q4,q5,Bool.not_true,Bool.or_false,Bool.true_and,Bool.false_eq_true,if_false];rfl,by omega,by omega,by rw [hres];exact hsk⟩
         |false=>
          simp -implicitDefEqProofs only [↓yP,yT,reduceCtorEq,q3,q4,q5]
          exact ⟨k,by rw [hres];simp only [FE,q2,q3,q4,q5,Bool.not_false,Bool.or_true,Bool.true_and,if_true];rfl,by omega,by omega,by rw [hres];exact hsk⟩
     |true=>
      have hk2:k<l.length:=Nat.lt_of_not_le fun hle=>by
       rw [DZ (by omega)] at q1
       exact absurd q1 (by decide)
      have hsk:Ek (l.drop k)=l.drop (k+1):=by
       obtain ⟨c,hc⟩:=get_lt hk2
       rw [CU hc] at q1;rw [Am hc,Ek,if_pos q1]
      simp -implicitDefEqProofs only [↓yP,yT,w3]
      cases q2:AJ x 0 with
      |true=>
       simp -implicitDefEqProofs only [↓yP,yT,reduceCtorEq]
       exact ⟨(k+1),by rw [hres];simp only [FE,q2,Bool.true_or,if_true];rfl,by omega,by omega,by rw [hres];exact hsk⟩
      |false=>
       cases q3:AN x 1114111 with
       |false=>
        simp -implicitDefEqProofs only [↓yP,yT,reduceCtorEq,q3]
        exact ⟨(k+1),by rw [hres];simp only [FE,q2,q3,Bool.not_false,Bool.or_true,Bool.true_or,if_true];rfl,by omega,by omega,by rw [hres];exact hsk⟩
       |true=>
        cases q4:AN 55296 x with
        |false=>
         simp -implicitDefEqProofs only [↓yP,yT,reduceCtorEq,q3,q4]
         exact ⟨(k+1),by rw [hres];simp only [FE,q2,q3,q4,Bool.not_true,Bool.or_false,Bool.false_and,Bool.false_eq_true,if_false];rfl,by omega,by omega,by rw [hres];exact hsk⟩
        |true=>
         cases q5:AN 57344 x with
         |true=>
          simp -implicitDefEqProofs only [↓yP,yT,reduceCtorEq,q3,q4,q5]
          exact ⟨(k+1),by rw [hres];simp only [FE,q2,q3,q4,q5,Bool.not_true,Bool.or_false,Bool.true_and,Bool.false_eq_true,if_false];rfl,by omega,by omega,by rw [hres];exact hsk⟩
         |false=>
          simp -implicitDefEqProofs only [↓yP,yT,reduceCtorEq,q3,q4,q5]
          exact ⟨(k+1),by rw [hres];simp only [FE,q2,q3,q4,q5,Bool.not_false,Bool.or_true,Bool.true_and,if_true];rfl,by omega,by omega,by rw [hres];exact hsk⟩
   ·have t7:AN ((i+7:Nat):Int) (k:Nat)=true:=AH (by omega)
    have hfin:Es (i+7 - k) x (l.drop k)=(x,l.drop k):=by rw [show i+7 - k=0 by omega];rfl
    simp -implicitDefEqProofs only [↓yP,yT,w7,t7]
    have hres:BZ (l.drop (i+1))=(FE x,Ek (l.drop k)):=by
     rw [Am hx1,BZ,if_pos h2,←Am hx1,←hhx,hfin]
    refine AB (BC l _) (by rfl) fun y hy=>?_
    subst hy
    simp -implicitDefEqProofs only [yT]
    refine AB (CY _) (by rfl) fun y hy=>?_
    subst hy
    have w3:AG .i64 ((k:Int)+1)=((k+1:Nat):Int):=AK (by omega)
    cases q1:Ad (DV l (k:Nat)) with
    |false=>
     have hsk:Ek (l.drop k)=l.drop k:=by
      cases hk0:l[k]? with
      |none=>rw [List.drop_eq_nil_of_le (by simpa using hk0)];rfl
      |some c=>rw [CU hk0] at q1;rw [Am hk0,Ek,if_neg (by rw [q1];simp)]
     simp -implicitDefEqProofs only [↓yP,yT]
     cases q2:AJ x 0 with
     |true=>
      simp -implicitDefEqProofs only [↓yP,yT,reduceCtorEq]
      exact ⟨k,by rw [hres];simp only [FE,q2,Bool.true_or,if_true];rfl,by omega,by omega,by rw [hres];exact hsk⟩
     |false=>
      cases q3:AN x 1114111 with
      |false=>
       simp -implicitDefEqProofs only [↓yP,yT,reduceCtorEq,q3]
       exact ⟨k,by rw [hres];simp only [FE,q2,q3,Bool.not_false,Bool.or_true,Bool.true_or,if_true];rfl,by omega,by omega,by rw [hres];exact hsk⟩
      |true=>
       cases q4:AN 55296 x with
       |false=>
        simp -implicitDefEqProofs only [↓yP,yT,reduceCtorEq,q3,q4]
        exact ⟨k,by rw [hres];simp only [FE,q2,q3,q4,Bool.not_true,Bool.or_false,Bool.false_and,Bool.false_eq_true,if_false];rfl,by omega,by omega,by rw [hres];exact hsk⟩
       |true=>
        cases q5:AN 57344 x with
        |true=>
         simp -implicitDefEqProofs only [↓yP,yT,reduceCtorEq,q3,q4,q5]
         exact ⟨k,by rw [hres];simp only [FE,q2,q3,q4,q5,Bool.not_true,Bool.or_false,Bool.true_and,Bool.false_eq_true,if_false];rfl,by omega,by omega,by rw [hres];exact hsk⟩
        |false=>
         simp -implicitDefEqProofs only [↓yP,yT,reduceCtorEq,q3,q4,q5]
         exact ⟨k,by rw [hres];simp only [FE,q2,q3,q4,q5,Bool.not_false,Bool.or_true,Bool.true_and,if_true];rfl,by omega,by omega,by rw [hres];exact hsk⟩
    |true=>
     have hk2:k<l.length:=Nat.lt_of_not_le fun hle=>by
      rw [DZ (by omega)] at q1
      exact absurd q1 (by decide)
     have hsk:Ek (l.drop k)=l.drop (k+1):=by
      obtain ⟨c,hc⟩:=get_lt hk2
      rw [CU hc] at q1;rw [Am hc,Ek,if_pos q1]
     simp -implicitDefEqProofs only [↓yP,yT,w3]
     cases q2:AJ x 0 with
     |true=>
      simp -implicitDefEqProofs only [↓yP,yT,reduceCtorEq]
      exact ⟨(k+1),by rw [hres];simp only [FE,q2,Bool.true_or,if_true];rfl,by omega,by omega,by rw [hres];exact hsk⟩
     |false=>
      cases q3:AN x 1114111 with
      |false=>
       simp -implicitDefEqProofs only [↓yP,yT,reduceCtorEq,q3]
       exact ⟨(k+1),by rw [hres];simp only [FE,q2,q3,Bool.not_false,Bool.or_true,Bool.true_or,if_true];rfl,by omega,by omega,by rw [hres];exact hsk⟩
      |true=>
       cases q4:AN 55296 x with
       |false=>
        simp -implicitDefEqProofs only [↓yP,yT,reduceCtorEq,q3,q4]
        exact ⟨(k+1),by rw [hres];simp only [FE,q2,q3,q4,Bool.not_true,Bool.or_false,Bool.false_and,Bool.false_eq_true,if_false];rfl,by omega,by omega,by rw [hres];exact hsk⟩
       |true=>
        cases q5:AN 57344 x with
        |true=>
         simp -implicitDefEqProofs only [↓yP,yT,reduceCtorEq,q3,q4,q5]
         exact ⟨(k+1),by rw [hres];simp only [FE,q2,q3,q4,q5,Bool.not_true,Bool.or_false,Bool.true_and,Bool.false_eq_true,if_false];rfl,by omega,by omega,by rw [hres];exact hsk⟩
        |false=>
         simp -implicitDefEqProofs only [↓yP,yT,reduceCtorEq,q3,q4,q5]
         exact ⟨(k+1),by rw [hres];simp only [FE,q2,q3,q4,q5,Bool.not_false,Bool.or_true,Bool.true_and,if_true];rfl,by omega,by omega,by rw [hres];exact hsk⟩
 ·have t1:AN (l.length:Nat) ((i+1:Nat):Int)=true:=AH (by omega)
  simp -implicitDefEqProofs only [↓yP,yT,reduceCtorEq,t1,w1]
  exact ⟨i+1,by rw [List.drop_eq_nil_of_le (by omega)];rfl,by omega,by omega,by rw [List.drop_eq_nil_of_le (by omega)];rfl⟩
theorem En (l:List Rn):(A9 l).length≤4*l.length:=by
 induction l with
 |nil=>simp [A9]
 |cons x l ih=>
  have:=(Bj x.r).2
  simp only [A9,List.flatMap_cons,List.length_append,List.length_cons] at ih ⊢
  omega
theorem UK (l:List Rn) (hl:l.length≤200000000):AS C1 99 [.c (.p (rR l))] fun y=>y=yd (.string (AO (A9 l))):=by
 refine Pf (by rfl) (by rfl) oZ (by rfl) ?_
 simp only [Try.f99,List.length_cons,List.length_nil,List.replicate,List.cons_append,List.nil_append]
 simp -implicitDefEqProofs only [↓yP,yT]
 refine Cb 3 1 (by decide) rfl ?_
 refine Ah (fun d e s=>∃(i:Nat) (bs:List Int),e=[.c (.p (rR l)),Tp,Tp,.c (.own 0 1 0 bs.length),yd (.int .i64 (i:Nat)),Tp,Tp,Tp,Tp,Tp,Tp,Tp,Tp,Tp,Tp,Tp,Tp,Tp,Tp,Tp]∧s=[.row 1 (bs.map eb)]∧i+d=l.length∧bs=A9 (l.take i)) [true,false,false,true,true] l.length [0] (by decide) (AC _) ⟨0,[],by (simp only [yE];try rfl),by (simp only [yE];try rfl),by omega,by simp [A9]⟩ ?_
 rintro d e s ⟨i,bs,rfl,rfl,hd,hb⟩
 by_cases hi:i<l.length
 ·obtain ⟨x,hx⟩:=get_lt hi
  have hbl:=En (l.take i)
  rw [←hb] at hbl
  have hbl2:bs.length≤4*i:=by simp at hbl;omega
  have t1:AN (l.length:Nat) (i:Nat)=false:=AE (by omega)
  have w1:AG .i64 ((i:Int)+1)=((i+1:Nat):Int):=AK (by omega)
  obtain ⟨p1,p2⟩:=Bj x.r
  simp -implicitDefEqProofs only [↓yP,yT,Nat.reduceAdd,reduceCtorEq,t1,El hx]
  refine Ec (els:=bs.map eb) (n':=(bs++Ao x.r).length) (by simp) (by simp) (by rfl) (by rfl) (B8 x.r bs (by omega)) ?_
  simp -implicitDefEqProofs only [↓yP,yT,w1]
  refine ⟨d - 1,[1],by omega,by decide,AC _,i+1,bs++Ao x.r,?_,?_,by omega,?_⟩
  ·simp only [yE]
  ·simp only [yE]
  ·rw [hb,List.take_add_one,hx];simp [A9]
 ·have t1:AN (l.length:Nat) (i:Nat)=true:=AH (by omega)
  rw [List.take_of_length_le (by omega)] at hb
  subst hb
  simp -implicitDefEqProofs only [↓yP,yT,reduceCtorEq,t1,A6,Ar]
  rfl
theorem B7 (l:List Rn) (i k:Nat) (hl:l.length≤200000000) (hi:i≤k) (hk:k≤l.length):AS C1 74 [.c (.p (rR l)),yd (.int .i64 (i:Nat)),yd (.int .i64 (k:Nat))] fun y=>y=yd (.string (AO (A9 ((l.drop i).take (k - i))))):=by
 refine Pf (by rfl) (by rfl) nK (by rfl) ?_
 simp only [Try.f74,List.length_cons,List.length_nil,List.replicate,List.cons_append,List.nil_append]
 have c1:(0:Int)≤(i:Nat):=by omega
 have c2:((i:Nat):Int)≤(k:Nat):=by omega
 have c3:((k:Nat):Int)≤(l.length:Nat):=by omega
 simp -implicitDefEqProofs only [↓yP,yT,reduceCtorEq,c1,c2,c3,←List.map_take,←List.map_drop]
 refine AB (UK ((l.drop i).take (k - i)) (by simp;omega)) (by rfl) fun y hy=>?_
 subst hy
 simp -implicitDefEqProofs only [↓yP,yT,reduceCtorEq]
theorem FB (l:List Rn) (i:Nat) (hl:l.length≤200000000) (hi:i≤l.length):AS C1 80 [.c (.p (rR l)),yd (.int .i64 (i:Nat))] fun y=>∃(k:Nat),y=.tup [yd (.string (AO (AT (l.drop i)).1)),yd (.int .i64 (k:Nat))]∧i≤k∧k≤l.length∧(AT (l.drop i)).1.length≤4*l.length∧(AT (l.drop i)).2=l.drop k:=by
 refine Pf (by rfl) (by rfl) oN (by rfl) ?_
 simp only [Try.f80,List.length_cons,List.length_nil,List.replicate,List.cons_append,List.nil_append]
 simp -implicitDefEqProofs only [↓yP,yT]
 refine AB (YP _ _ _) (by rfl) fun y hy=>?_
 rw [if_neg (by omega),if_neg (by omega)] at hy
 subst hy
 simp -implicitDefEqProofs only [↓yP,yT]
 refine Cb 6 1 (by decide) rfl ?_
 refine Ah (fun d e s=>∃(k:Nat) (bs:List Int),e=[.c (.p (rR l)),yd (.int .i64 (k:Nat)),Tp,Tp,Tp,Tp,.c (.own 0 1 0 bs.length),Tp,Tp,Tp,Tp,Tp,Tp,Tp,Tp,Tp,Tp,Tp,Tp,Tp,Tp,Tp,Tp,Tp,Tp,Tp,Tp,Tp,Tp,Tp,Tp,Tp,Tp,Tp,Tp,Tp,Tp,Tp,Tp,Tp,Tp,Tp,Tp,Tp,Tp,Tp,Tp,Tp,Tp,Tp,Tp,Tp,Tp]∧s=[.row 1 (bs.map eb)]∧k+d=l.length∧i≤k∧bs.length≤4*k∧(AT (l.drop i)).1=bs++(AT (l.drop k)).1∧(AT (l.drop i)).2=(AT (l.drop k)).2) [true,true,false,false,false,false,true] (l.length - i) [0] (by decide) (AC _) ⟨i,[],by (simp only [yE];try rfl),by (simp only [yE];try rfl),by omega,by omega,by simp,by simp,rfl⟩ ?_
 rintro d e s ⟨k,bs,rfl,rfl,hd,hk,hb,hx1,hx2⟩
 by_cases hkl:k<l.length
 ·obtain ⟨x,hx⟩:=get_lt hkl
  have hat:=CU hx
  have hdc:=Am hx
  have t1:AN (l.length:Nat) (k:Nat)=false:=AE (by omega)
  have w1:AG .i64 ((k:Int)+1)=((k+1:Nat):Int):=AK (by omega)
  simp -implicitDefEqProofs only [↓yP,yT,Nat.reduceAdd,reduceCtorEq,t1,El hx]
  refine AB (Dd _) (by rfl) fun y hy=>?_
  subst hy
  cases h1:DB x.r with
  |true=>
   rw [hdc,BM h1] at hx1 hx2
   obtain ⟨p1,p2⟩:=Bj x.r
   simp -implicitDefEqProofs only [↓yP,yT,Nat.reduceAdd,reduceCtorEq,El hx]
   refine Ec (els:=bs.map eb) (n':=(bs++Ao x.r).length) (by simp) (by simp) (by rfl) (by rfl) (B8 x.r bs (by omega)) ?_
   simp -implicitDefEqProofs only [↓yP,yT,w1]
   refine ⟨d - 1,[1],by omega,by decide,AC _,k+1,bs++Ao x.r,by (simp only [yE];try rfl),by (simp only [yE];try rfl),by omega,by omega,by simp;omega,by rw [hx1,List.append_assoc],hx2⟩
  |false=>
   simp -implicitDefEqProofs only [↓yP,yT]
   refine AB (Eh l k (by omega)) (by rfl) fun y hy=>?_
   subst hy
   rw [GJ]
   cases h2:esc0 (l.drop k) with
   |true=>
    simp -implicitDefEqProofs only [↓yP,yT]
    refine AB (JN l k hl hkl) (by rfl) fun y hy=>?_
    obtain ⟨k',rfl,hk1,hk2,hk3⟩:=hy
    rw [hdc] at h2
    rw [hdc,Cj h1 h2,hk3] at hx1 hx2
    obtain ⟨p1,p2⟩:=Bj (BZ (l.drop (k+1))).1
    simp -implicitDefEqProofs only [↓yP,yT]
    refine Ec (els:=bs.map eb) (n':=(bs++Ao (BZ (l.drop (k+1))).1).length) (by simp) (by simp) (by rfl) (by rfl) (B8 (BZ (l.drop (k+1))).1 bs (by omega)) ?_
    simp -implicitDefEqProofs only [↓yP,yT]
    refine ⟨l.length - k',[1],by omega,by decide,AC _,k',bs++Ao (BZ (l.drop (k+1))).1,by (simp only [yE];try rfl),by (simp only [yE];try rfl),by omega,by omega,by simp;omega,by rw [hx1,List.append_assoc],hx2⟩
   |false=>
    rw [hdc] at h2
    rw [hdc,Cw h1 h2,←hdc] at hx1 hx2
    rw [List.append_nil] at hx1
    rw [hx1,hx2]
    simp -implicitDefEqProofs only [↓yP,yT,reduceCtorEq,A6,Ar]
    exact ⟨k,rfl,by omega,by omega,by omega,rfl⟩
 ·have t1:AN (l.length:Nat) (k:Nat)=true:=AH (by omega)
  have hdn:l.drop k=[]:=List.drop_eq_nil_of_le (by omega)
  rw [hdn,BU,List.append_nil] at hx1
  rw [hdn,BU] at hx2
  rw [hx1,hx2]
  simp -implicitDefEqProofs only [↓yP,yT,reduceCtorEq,t1,A6,Ar]
  exact ⟨k,rfl,by omega,by omega,by omega,hdn.symm⟩
end Go.Vx.Seat
end
section
open Go Go.Vx Go.Proofs
set_option maxRecDepth 10000
set_option maxHeartbeats 4000000
namespace Go.Vx.Seat
attribute [local irreducible] Rg Rt Ro Ri Rc Ds Dt Dw Dx Rw Rl Rd Av An kf
theorem mG:By C1.P.funcs.toList 117=some Try.f117:=by kernel_rfl
theorem nE:By C1.P.funcs.toList 77=some Try.f77:=by kernel_rfl
theorem pW:By C1.P.funcs.toList 22=some Try.f22:=by kernel_rfl
def AM (k:Int) (s:ByteArray):Tok:=⟨k,s,⟨#[]⟩,false,⟨#[]⟩,⟨#[]⟩,false,false,0,0,0,0,0⟩
structure TokLex (l:List Rn) (t:Tok):Prop where
 text:(AA t.text).length≤4*l.length
 sign:16≤t.kind→t.kind≤24→t=AM t.kind ⟨#[]⟩
theorem TokLex.plain {l:List Rn} {k:Int} {s:ByteArray} (hs:(AA s).length≤4*l.length) (hk:k<16∨24<k):TokLex l (AM k s):=⟨hs,fun h h2=>absurd hk (by have h:16≤k:=h;have h2:k≤24:=h2;omega)⟩
def zt:List Ce:=(AM 0 ⟨#[]⟩).cs
theorem EN:(13≤zt.length)=True:=by simp [zt,AM,Tok.cs,Tok.pc]
theorem Jm:zt.drop 13=[]:=rfl
end Go.Vx.Seat
end
