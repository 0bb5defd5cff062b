/- Texts joined: VyLk VzD1 VzD2 VzD3 VzBe VzBf VzD4 VzD5 VzD6 VzBo. -/
import Derived.Test.YtmbonddknackiaaVm42
import Derived.Test.YtmbonddknackiaaVm40
import Derived.Test.YtmbonddknackiaaVm39
set_option linter.unusedSimpArgs false
set_option linter.unusedVariables false
section
open Go Go.Vx Go.Proofs
set_option maxRecDepth 10000
set_option maxHeartbeats 2000000
namespace Go.Vx.Seat
attribute [local irreducible] Rg Rt Ro Ri Rc Ds Dt Dw Dx Rw Rl Rd Av An kf
end Go.Vx.Seat
end
section
open Go Go.Vx Go.Proofs
set_option maxRecDepth 10000
set_option maxHeartbeats 8000000
namespace Go.Vx.Seat
attribute [local irreducible] Rg Rt Ro Ri Rc Ds Dt Dw Dx Rw Rl Rd Av An kf
theorem o3:By C1.P.funcs.toList 49=some Try.f49:=by kernel_rfl
theorem oT:By C1.P.funcs.toList 51=some Try.f51:=by kernel_rfl
theorem Xg {bs:List Int} {i:Nat} {c:Int} (hc:bs[i]?=some c) {r:Int} {n:Nat} (hn1:1≤n) (h:Bb c (bs.drop (i+1))=(r,n)):Js (bs.drop i)=(if AJ r 0=true then 65533 else r)::Js (bs.drop (i+n)):=by
 rw [Am hc,Js,h]
 simp only
 rw [List.drop_drop,show i+1+(n - 1)=i+n by omega]
theorem iA (bs:List Int) (e:Ent) (x:Int):[YV.c (.own 0 1 0 bs.length),yd (.int .i64 x)].map (IV [.row 1 (bs.map eb),e])=[.c (.p (rB bs)),yd (.int .i64 x)]:=by
 have h:By [Ent.row 1 (bs.map eb),e] 0=some (.row 1 (bs.map eb)):=rfl
 simp [IV,Qk,ES,h,List.take_of_length_le]
theorem G3 (s:ByteArray) (hs:(AA s).length≤1000000):AS C1 49 [yd (.string s)] fun y=>y=.c (.p (rI (Js (Aj s)))):=by
 have b0:(AA s).length≤70368744177664:=by omega
 have hbl:(Aj s).length=(AA s).length:=B4 s
 refine Pf (by rfl) (by rfl) o3 (by rfl) ?_
 simp only [Try.f49,List.length_cons,List.length_nil,List.replicate,List.cons_append,List.nil_append]
 simp -implicitDefEqProofs only [↓yP,yT,b0,Br]
 generalize hbs:Aj s=bs at*
 rw [←hbl]
 refine Cb 3 1 (by decide) rfl ?_
 refine Ah (fun d e st=>∃(i:Nat) (out:List Int),e=[Tp,Tp,Tp,.c (.own 1 1 0 out.length),.c (.own 0 1 0 bs.length),yd (.int .i64 (i:Nat)),Tp,Tp,Tp,Tp,Tp,Tp,Tp,Tp,Tp,Tp,Tp,Tp,Tp,Tp,Tp,Tp,Tp,Tp,Tp,Tp,Tp,Tp,Tp,Tp,Tp,Tp]∧st=[.row 1 (bs.map eb),.row 1 (out.map ei)]∧i+d=bs.length∧out.length≤i∧Js bs=out++Js (bs.drop i)) [false,false,false,true,true,true] bs.length [0,1] (by decide) (AC _) ⟨0,[],by (simp only [yE];try rfl),by (simp only [yE];try rfl),by omega,by simp,by simp⟩ ?_
 rintro d e st ⟨i,out,rfl,rfl,hd,hol,hpt⟩
 by_cases hi:i<bs.length
 ·obtain ⟨c,hc⟩:=get_lt hi
  have t1:AN (bs.length:Nat) (i:Nat)=false:=AE (by omega)
  have b1:(out.length+1)*8≤70368744177664:=by omega
  simp -implicitDefEqProofs only [↓yP,yT,t1]
  refine BV (iA bs _ _) (KF bs i c (by omega) hc) (by rfl) fun y hy=>⟨by obtain ⟨_,_,_,rfl,_⟩:=hy;rfl,?_⟩
  obtain ⟨r,n,ok,rfl,hn1,hn2,hnx⟩:=hy
  have w2:AG .i64 ((i:Int)+(n:Nat))=((i+n:Nat):Int):=A1 (i:=i+n) (by omega)
  rw [Xg hc hn1 hnx] at hpt
  cases h0:AJ r 0 with
  |true=>
   rw [h0,if_pos rfl] at hpt
   simp -implicitDefEqProofs only [↓yP,yT,Nat.reduceAdd,Nat.reduceMul,Nat.reduceLeDiff,reduceCtorEq,w2,h0,b1]
   refine ⟨bs.length - (i+n),[0,3],by omega,by decide,AC _,i+n,out++[65533],by (simp only [yE,reduceCtorEq];try rfl),?_,by omega,by simp;omega,by rw [hpt];simp⟩
   simp only [yE,List.map_append];rfl
  |false=>
   rw [h0,if_neg (by simp)] at hpt
   simp -implicitDefEqProofs only [↓yP,yT,Nat.reduceAdd,Nat.reduceMul,Nat.reduceLeDiff,reduceCtorEq,w2,h0,b1]
   refine ⟨bs.length - (i+n),[0,3],by omega,by decide,AC _,i+n,out++[r],by (simp only [yE,reduceCtorEq];try rfl),?_,by omega,by simp;omega,by rw [hpt];simp⟩
   simp only [yE,List.map_append];rfl
 ·have t1:AN (bs.length:Nat) (i:Nat)=true:=AH (by omega)
  rw [List.drop_eq_nil_of_le (by omega),V5,List.append_nil] at hpt
  rw [hpt]
  simp -implicitDefEqProofs only [↓yP,yT,reduceCtorEq,t1]
end Go.Vx.Seat
end
section
open Go Go.Vx Go.Proofs
set_option maxRecDepth 10000
set_option maxHeartbeats 8000000
namespace Go.Vx.Seat
attribute [local irreducible] Rg Rt Ro Ri Rc Ds Dt Dw Dx Rw Rl Rd Av An kf
theorem K0 (a b:List Int):AI (AA (AO a)++AA (AO b))=AO (a++b):=by
 show AI (_++_)=AI _
 rw [List.map_append];rfl
theorem kW (a:Int):D8 .shr .i64 a 4=some (.int .i64 (FF a 4)):=aQ a 4
theorem gB (x:Nat) (h:x<4294967296):Ck (x:Nat) 15=((x % 16:Nat):Int):=by
 unfold Ck
 rw [BitVec.toNat_and,kL x (by omega),show (15:Int)=((15:Nat):Int) from rfl,kL 15 (by omega),show (15:Nat)=2 ^ 4 - 1 from rfl,Nat.and_two_pow_sub_one_eq_mod]
 exact fF _ (by omega)
theorem qE (x:Nat):FF (x:Nat) 4=((x / 16:Nat):Int):=Vj x 4 (by omega)
theorem Vy (d:Nat) (h:d<16):AI (((AA ⟨#[48,49,50,51,52,53,54,55,56,57,97,98,99,100,101,102]⟩).drop d).take (d+1 - d))=AO [Ct d]:=by
 have:d=0∨d=1∨d=2∨d=3∨d=4∨d=5∨d=6∨d=7∨d=8∨d=9∨d=10∨d=11∨d=12∨d=13∨d=14∨d=15:=by omega
 rcases this with rfl|rfl|rfl|rfl|rfl|rfl|rfl|rfl|rfl|rfl|rfl|rfl|rfl|rfl|rfl|rfl<;>rfl
theorem OT {x:Nat} (h:0<x) (ls:List Int):Ee x++ls=(if x / 16=0 then [Ct (x % 16)]++ls else Ee (x / 16)++([Ct (x % 16)]++ls)):=by
 by_cases k:x<16
 ·rw [if_pos (by omega),FX k,show x % 16=x by omega]
 ·rw [if_neg (by omega),JU (by omega)];simp
theorem SJ (n:Nat) (h:n≤4294967295):(Ee n).length≤9:=by
 have:∀k m:Nat,m<16 ^ (k+1)→(Ee m).length≤k+1:=fun k=>by
  induction k with
  |zero=>intro m hm;rw [FX (by omega)];simp
  |succ k ih=>
   intro m hm
   by_cases c:m<16
   ·rw [FX c];simp
   ·rw [JU (by omega),List.length_append]
    have:=ih (m / 16) (by rw [Nat.div_lt_iff_lt_mul (by omega)];rw [Nat.pow_succ] at hm;exact hm)
    simp;omega
 have:=this 7 n (by omega)
 omega
theorem PE (n:Nat) (hn:n≤4294967295):AS C1 51 [yd (.int .i64 (n:Nat))] fun y=>y=yd (.string (AO (As (n:Nat)))):=by
 refine Pf (by rfl) (by rfl) oT (by rfl) ?_
 simp only [Try.f51,List.length_cons,List.length_nil,List.replicate,List.cons_append,List.nil_append]
 simp -implicitDefEqProofs only [↓yP,yT]
 refine Ah (fun d e st=>∃(x:Nat) (ls:List Int),e=[Tp,Tp,Tp,yd (.string (AO ls)),yd (.int .i64 (x:Nat)),Tp,Tp,Tp,Tp,Tp,Tp,Tp,Tp,Tp,Tp,Tp,Tp,Tp,Tp,Tp,Tp,Tp,Tp,Tp]∧st=[]∧x≤n∧((ls=[]∧x=n∧d=n+1)∨(ls≠[]∧d=x∧Ee n=if x=0 then ls else Ee x++ls))∧ls.length≤100∧(Ee n).length≤9∧(ls≠[]→ls.length≤(Ee n).length)) [false,false,false,true,true] (n+1) [] (by decide) (AC _) ⟨n,[],by (simp only [yE];try rfl),by (simp only [yE];try rfl),by omega,.inl ⟨rfl,rfl,rfl⟩,by simp,SJ n hn,fun h=>absurd rfl h⟩ ?_
 rintro d e st ⟨x,ls,rfl,rfl,hx,hinv,hl,hh,hll⟩
 by_cases h0:0<x
 ·have t1:AN (x:Nat) 0=false:=AE (by omega)
  obtain ⟨a1,a2⟩:Ck ((x:Nat):Int) 15=((x % 16:Nat):Int)∧FF ((x:Nat):Int) 4=((x / 16:Nat):Int):=⟨gB x (by omega),qE x⟩
  have a3:IntKind.wrap .i64 (((BitVec.ofInt IntKind.i64.bits ((x:Nat):Int)&&&BitVec.ofInt IntKind.i64.bits 15).toNat:Nat):Int)=((x % 16:Nat):Int):=a1
  have w1:AG .i64 (((x % 16:Nat):Int)+1)=((x % 16+1:Nat):Int):=AK (by omega)
  have c1:(0:Int)≤((x % 16:Nat):Int):=by omega
  have c2:((x % 16:Nat):Int)≤((x % 16+1:Nat):Int):=by omega
  have c3:((x % 16+1:Nat):Int)≤((AA ⟨#[48,49,50,51,52,53,54,55,56,57,97,98,99,100,101,102]⟩).length:Nat):=by show _≤((16:Nat):Int);omega
  have hcut:=Vy (x % 16) (by omega)
  have b1:(AA (AO [Ct (x % 16)])).length+(AA (AO ls)).length≤140737488355328:=by rw [AW,AW];simp only [List.length_cons,List.length_nil];omega
  simp -implicitDefEqProofs only [↓yP,yT,Aw.eq_1,t1,kW,a2,a3,w1,c1,c2,c3,hcut,Bk,b1,K0]
  have hnew:Ee n=if x / 16=0 then [Ct (x % 16)]++ls else Ee (x / 16)++([Ct (x % 16)]++ls):=by
   rcases hinv with ⟨rfl,rfl,_⟩|⟨_,_,e⟩
   ·have:=OT h0 []
    rw [List.append_nil] at this;exact this
   ·rw [if_neg (by omega)] at e
    rw [e];exact OT h0 ls
  have hlen:([Ct (x % 16)]++ls).length≤(Ee n).length:=by
   rw [hnew];split<;>simp
  refine ⟨x / 16,[],?_,by decide,AC _,x / 16,[Ct (x % 16)]++ls,by (simp only [yE];try rfl),by (simp only [yE];try rfl),by omega,.inr ⟨by simp,rfl,hnew⟩,by omega,hh,fun _=>hlen⟩
  rcases hinv with ⟨_,_,e⟩|⟨_,e,_⟩<;>omega
 ·have hx0:x=0:=by omega
  have t1:AN (x:Nat) 0=true:=AH (by omega)
  rcases hinv with ⟨rfl,hn0,hd⟩|⟨hne,hd,e⟩
  ·have t2:(AA (AO [])==AA ⟨#[]⟩)=true:=rfl
   obtain ⟨a1,a2⟩:Ck ((x:Nat):Int) 15=((x % 16:Nat):Int)∧FF ((x:Nat):Int) 4=((x / 16:Nat):Int):=⟨gB x (by omega),qE x⟩
   have a3:IntKind.wrap .i64 (((BitVec.ofInt IntKind.i64.bits ((x:Nat):Int)&&&BitVec.ofInt IntKind.i64.bits 15).toNat:Nat):Int)=((x % 16:Nat):Int):=a1
   have w1:AG .i64 (((x % 16:Nat):Int)+1)=((x % 16+1:Nat):Int):=AK (by omega)
   have c1:(0:Int)≤((x % 16:Nat):Int):=by omega
   have c2:((x % 16:Nat):Int)≤((x % 16+1:Nat):Int):=by omega
   have c3:((x % 16+1:Nat):Int)≤((AA ⟨#[48,49,50,51,52,53,54,55,56,57,97,98,99,100,101,102]⟩).length:Nat):=by show _≤((16:Nat):Int);omega
   have hcut:=Vy (x % 16) (by omega)
   have b1:(AA (AO [Ct (x % 16)])).length+(AA (AO [])).length≤140737488355328:=by rw [AW,AW];simp only [List.length_cons,List.length_nil];omega
   simp -implicitDefEqProofs only [↓yP,yT,Aw.eq_1,t1,t2,At,kW,a2,a3,w1,c1,c2,c3,hcut,Bk,b1,K0]
   have hnew:Ee n=if x / 16=0 then [Ct (x % 16)]++[] else Ee (x / 16)++([Ct (x % 16)]++[]):=by
    rw [if_pos (by omega),←hn0,hx0,FX (by omega)]
    try rfl
   refine ⟨x / 16,[],by omega,by decide,AC _,x / 16,[Ct (x % 16)]++[],by (simp only [yE];try rfl),by (simp only [yE];try rfl),by omega,.inr ⟨by simp,rfl,hnew⟩,by simp,hh,fun _=>by rw [hnew,if_pos (by omega)];exact Nat.le_refl _⟩
  ·have t2:(AA (AO ls)==AA ⟨#[]⟩)=false:=by
    rw [beq_eq_false_iff_ne]
    intro k
    have:=congrArg List.length k
    rw [AW] at this
    exact hne (List.eq_nil_of_length_eq_zero this)
   rw [if_pos hx0] at e
   have b1:(AA ⟨#[92]⟩).length+(AA (AO ls)).length≤140737488355328:=by
    rw [AW];have:(AA ⟨#[92]⟩).length=1:=rfl;omega
   simp -implicitDefEqProofs only [↓yP,yT,reduceCtorEq,t1,t2,At,Bk,b1]
   show yd (.string (AI (AA (AO [92])++AA (AO ls))))=_
   rw [K0,←e];rfl
end Go.Vx.Seat
end
section
open Go Go.Vx Go.Proofs
set_option maxRecDepth 10000
set_option maxHeartbeats 8000000
namespace Go.Vx.Seat
attribute [local irreducible] Rg Rt Ro Ri Rc Ds Dt Dw Dx Rw Rl Rd Av An kf
theorem G5 (x:Int):0≤AG .u8 x∧AG .u8 x<256:=by rw [D0,IntKind.wrap_u8];omega
theorem ZB (r:Int):∀x,x∈Ao r→0≤x∧x<256:=by
 intro x hx
 unfold Ao Lw at hx
 split at hx
 ·rw [List.mem_singleton.mp hx];exact G5 _
 ·split at hx
  ·simp only [List.mem_cons,List.not_mem_nil,or_false] at hx
   rcases hx with rfl|rfl<;>exact G5 _
  ·split at hx
   ·simp only [List.mem_cons,List.not_mem_nil,or_false] at hx
    rcases hx with rfl|rfl|rfl<;>exact G5 _
   ·simp only [List.mem_cons,List.not_mem_nil,or_false] at hx
    rcases hx with rfl|rfl|rfl|rfl<;>exact G5 _
theorem LP (l:List Int):∀x,x∈enc l→0≤x∧x<256:=fun x hx=>by
 obtain ⟨r,_,h⟩:=List.mem_flatMap.mp hx
 exact ZB r x h
theorem Fo {l:List Int} (h:∀x,x∈l→0≤x∧x<256):Aj (AO l)=l:=by
 show ((l.map fun n=>UInt8.ofNat n.toNat).map fun c=>((c.toNat:Nat):Int))=l
 rw [List.map_map]
 conv=>rhs;rw [←List.map_id l]
 refine List.map_congr_left fun x hx=>?_
 have:=h x hx
 simp only [Function.comp,UInt8.toNat_ofNat',id]
 omega
theorem GY {l:List Int} (h:∀r,r∈l→Cn r):Js (Aj (AO (enc l)))=l:=by rw [Fo (LP l),cY h]
theorem Bx (l:List Int):l.length≤(enc l).length∧(enc l).length≤4*l.length:=by
 induction l with
 |nil=>exact ⟨Nat.le_refl _,Nat.le_refl _⟩
 |cons r l ih=>
  rw [Aa,List.length_append,List.length_cons]
  have:=Bj r;omega
def Jr (first:Bool) (l:List Int) (i:Nat) (r:Int):List Int:=
 if Dr (first&&(AJ (i:Nat) 0||(AJ (i:Nat) 1&&AJ (l.headD 0) 45))) r=true then As r++[32]
 else if (first&&AJ r 45&&AJ (l.length:Nat) 1)=true then [92,45]
 else if DB r=true then [r] else [92,r]
def Xu (first:Bool) (l:List Int):Nat→List Int→List Int
 |_,[]=>[]
 |i,r::t=>Jr first l i r++Xu first l (i+1) t
theorem JW (first:Bool) (l:List Int) (i:Nat) (r:Int) (h:(first&&AJ r 45&&AJ (l.length:Nat) 1)=false):Jr first l i r=Km (first&&(AJ (i:Nat) 0||(AJ (i:Nat) 1&&AJ (l.headD 0) 45))) r:=by
 rw [Jr,h];rfl
theorem OY (first:Bool) (l:List Int):∀(t:List Int) (i:Nat),(first=false∨(2≤i∧2≤l.length))→Xu first l i t=KX t
 |[],i,h=>rfl
 |r::t,i,h=>by
  have h1:(first&&AJ r 45&&AJ (l.length:Nat) 1)=false:=by
   rcases h with rfl|⟨_,h⟩
   ·rfl
   ·rw [AF (show ((l.length:Nat):Int)≠1 by omega),Bool.and_false]
  have h2:(first&&(AJ (i:Nat) 0||(AJ (i:Nat) 1&&AJ (l.headD 0) 45)))=false:=by
   rcases h with rfl|⟨h,_⟩
   ·rfl
   ·rw [AF (show ((i:Nat):Int)≠0 by omega),AF (show ((i:Nat):Int)≠1 by omega)];simp
  rw [Xu,JW _ _ _ _ h1,h2,KX,OY first l t (i+1) (by rcases h with h|h;exact .inl h;exact .inr ⟨by omega,h.2⟩)]
theorem dB (first:Bool) (l:List Int):Xu first l 0 l=DL first l:=by
 cases first with
 |false=>exact OY false l l 0 (.inl rfl)
 |true=>
  cases l with
  |nil=>rfl
  |cons r l=>
   cases l with
   |nil=>
    rw [Xu,Xu,List.append_nil,DL]
    by_cases k:AJ r 45=true
    ·have:=AQ k
     subst this;rfl
    ·have k':AJ r 45=false:=by simpa using k
     rw [JW _ _ _ _ (by rw [k'];rfl),if_neg k];rfl
   |cons s l=>
    have h1:∀x:Int,(true&&AJ x 45&&AJ (((r::s::l).length:Nat):Int) 1)=false:=fun x=>by
     rw [AF (show (((r::s::l).length:Nat):Int)≠1 by simp;omega),Bool.and_false]
    rw [Xu,Xu,JW _ _ _ _ (h1 r),JW _ _ _ _ (h1 s),OY true _ l 2 (.inr ⟨by omega,by simp⟩)]
    simp only [DL]
    rfl
end Go.Vx.Seat
end
section
open Go Go.Vx Go.Proofs
namespace Go.Vx.Seat
def Fw (A:List Rn):Prop:=∀x,x∈A→AL x.r=true
def IU (s:List Rn):Prop:=s=[]∨∃z,s=[z]∧(z.r=43∨z.r=45)
def HJ (B:List Rn):Prop:=B=[]∨∃p F,B=p::F∧p.r=46∧F≠[]∧Fw F
def Ft (C:List Rn):Prop:=C=[]∨∃e s E,C=e::(s++E)∧(e.r=101∨e.r=69)∧IU s∧E≠[]∧Fw E
def Lm (R:List Rn):Bool:=AJ (hd R) 46&&AL (hd (R.drop 1))
def expo (R:List Rn):Bool:=(AJ (hd R) 101||AJ (hd R) 69)&&AL (hd (if Ai (R.drop 1) then R.drop 2 else R.drop 1))
theorem Fw.nil:Fw []:=fun x h=>by simp at h
theorem Fw.cons {x:Rn} {A:List Rn} (hx:AL x.r=true) (h:Fw A):Fw (x::A):=fun y hy=>by
 rcases List.mem_cons.mp hy with rfl|hy
 ·exact hx
 ·exact h y hy
theorem Fw.app {A B:List Rn} (h1:Fw A) (h2:Fw B):Fw (A++B):=fun x hx=>by
 rcases List.mem_append.mp hx with h|h
 ·exact h1 x h
 ·exact h2 x h
theorem Fw.left {A B:List Rn} (h:Fw (A++B)):Fw A:=fun x hx=>h x (List.mem_append_left _ hx)
theorem Fw.right {A B:List Rn} (h:Fw (A++B)):Fw B:=fun x hx=>h x (List.mem_append_right _ hx)
theorem Hg:∀L:List Rn,∃A,L=A++digs L∧Fw A∧AL (hd (digs L))=false
 |[]=>⟨[],rfl,.nil,rfl⟩
 |x::L=>by
  cases h:AL x.r with
  |true=>
   obtain ⟨A,e,h1,h2⟩:=Hg L
   have hd':digs (x::L)=digs L:=by rw [digs,List.dropWhile_cons_of_pos (by simpa using h)];rfl
   rw [hd']
   exact ⟨x::A,by rw [List.cons_append,←e],.cons h h1,h2⟩
  |false=>
   have hd':digs (x::L)=x::L:=by rw [digs,List.dropWhile_cons_of_neg (by simpa using h)]
   rw [hd']
   exact ⟨[],rfl,.nil,h⟩
theorem Qt {A R:List Rn} (hA:Fw A) (hR:AL (hd R)=false):digs (A++R)=R:=by
 induction A with
 |nil=>
  cases R with
  |nil=>rfl
  |cons x R=>
   have hx:AL x.r=false:=hR
   show digs (x::R)=_
   rw [digs,List.dropWhile_cons_of_neg (by simp [hx])]
 |cons x A ih=>
  have hx:=hA x (List.mem_cons_self ..)
  rw [List.cons_append,digs,List.dropWhile_cons_of_pos (by simpa using hx)]
  exact ih fun y hy=>hA y (List.mem_cons_of_mem _ hy)
theorem Tf {D:List Rn} (h:AL (hd D)=true):digs (D.drop 1)=digs D:=by
 cases D with
 |nil=>rfl
 |cons x D=>
  have hx:AL x.r=true:=h
  rw [digs,digs,List.dropWhile_cons_of_pos (by simp [hx])];rfl
theorem C6 {r:Int} (h:AL r=true):48≤r∧r≤57:=by
 simp only [AL,Bool.and_eq_true] at h
 exact ⟨Bl h.1,Bl h.2⟩
theorem CX {A:List Rn} (hA:Fw A) (hn:A≠[]) (R:List Rn):AL (hd (A++R))=true:=by
 cases A with
 |nil=>exact absurd rfl hn
 |cons x A=>exact hA x (List.mem_cons_self ..)
theorem G1 {l:List Rn} (h:AL (hd l)=true):Ai l=false:=by
 have:=C6 h
 rw [Ai,AF (by omega),AF (by omega)];rfl
theorem On (l:List Rn):∃s,l=s++(if Ai l then l.drop 1 else l)∧IU s∧(s=[]↔Ai l=false):=by
 cases h:Ai l with
 |false=>exact ⟨[],by simp,.inl rfl,by simp⟩
 |true=>
  cases l with
  |nil=>exact absurd h (by decide)
  |cons x l=>
   refine ⟨[x],rfl,.inr ⟨x,rfl,?_⟩,by simp⟩
   rw [Ai,Bool.or_eq_true] at h
   rcases h with h|h
   ·exact .inl (AQ h)
   ·exact .inr (AQ h)
theorem NC {s R:List Rn} (hs:IU s) (hR:Ai R=false):(if Ai (s++R) then (s++R).drop 1 else s++R)=R:=by
 rcases hs with rfl|⟨z,rfl,hz⟩
 ·rw [List.nil_append,hR];rfl
 ·have:Ai ([z]++R)=true:=by
   show (AJ z.r 43||AJ z.r 45)=true
   rcases hz with h|h<;>(rw [h];rfl)
  rw [this];rfl
structure Cut (s A B C R:List Rn):Prop where
 sg:IU s
 dg:Fw A
 pt:HJ B
 ex:Ft C
 ne:A≠[]∨B≠[]
 e1:AL (hd R)=false
 e2:B=[]→C=[]→Lm R=false
 e3:C=[]→expo R=false
theorem Yg {C R:List Rn} (hC:Ft C) (h:C=[]→Lm R=false):Lm (C++R)=false:=by
 rcases hC with rfl|⟨e,s,E,rfl,he,_⟩
 ·exact h rfl
 ·show (AJ e.r 46&&_)=false
  rw [AF (by rcases he with k|k<;>(rw [k];decide))];rfl
theorem gF {C R:List Rn} (hC:Ft C) (h:C=[]→AL (hd R)=false):AL (hd (C++R))=false:=by
 rcases hC with rfl|⟨e,s,E,rfl,he,_⟩
 ·exact h rfl
 ·show AL e.r=false
  rcases he with k|k<;>(rw [k];decide)
theorem dW {C R:List Rn} (f:Bool) (hC:Ft C) (h1:AL (hd R)=false) (h3:C=[]→expo R=false):Gh f (C++R)=(f&&C.isEmpty,R):=by
 rcases hC with rfl|⟨e,s,E,rfl,he,hs,hE,hD⟩
 ·have h:=h3 rfl
  rw [List.nil_append,Gh]
  simp only [List.isEmpty_nil,Bool.and_true]
  cases k:(AJ (hd R) 101||AJ (hd R) 69) with
  |false=>simp
  |true=>
   rw [expo,k,Bool.true_and] at h
   simp only [if_true]
   rw [h];simp
 ·have k:(AJ e.r 101||AJ e.r 69)=true:=by rcases he with k|k<;>(rw [k];rfl)
  have hE':=CX hD hE R
  have hsg:(if Ai (((s++E)++R)) then ((s++E)++R).drop 1 else (s++E)++R)=E++R:=by
   rw [List.append_assoc];exact NC hs (G1 hE')
  show Gh f (e::((s++E)++R))=_
  unfold Gh
  rw [show hd (e::((s++E)++R))=e.r from rfl,k]
  simp only [if_true]
  rw [show (e::((s++E)++R)).drop 1=(s++E)++R from rfl,show (e::((s++E)++R)).drop 2=((s++E)++R).drop 1 from rfl,hsg,hE']
  simp only [if_true]
  rw [Qt hD h1]
  simp
theorem eJ {s A B C R:List Rn} (h:Cut s A B C R):Et (s++(A++(B++(C++R))))=(B.isEmpty&&C.isEmpty,R):=by
 have hBC:AL (hd (B++(C++R)))=false:=by
  rcases h.pt with rfl|⟨p,F,rfl,hp,_⟩
  ·show AL (hd (C++R))=false
   exact gF h.ex fun _=>h.e1
  ·show AL p.r=false
   rw [hp];decide
 have hsn:Ai (A++(B++(C++R)))=false:=by
  by_cases hA:A=[]
  ·subst hA
   rcases h.pt with rfl|⟨p,F,rfl,hp,_⟩
   ·rcases h.ne with k|k<;>exact absurd rfl k
   ·show (AJ p.r 43||AJ p.r 45)=false
    rw [hp];decide
  ·exact G1 (CX h.dg hA _)
 have hA:Gj (s++(A++(B++(C++R))))=B++(C++R):=by
  unfold Gj
  rw [NC h.sg hsn,Qt h.dg hBC]
 have hB:FO (B++(C++R))=(B.isEmpty,C++R):=by
  rcases h.pt with rfl|⟨p,F,rfl,hp,hF,hD⟩
  ·have:=Yg h.ex (h.e2 rfl)
   unfold FO
   rw [List.nil_append,show (AJ (hd (C++R)) 46&&AL (hd ((C++R).drop 1)))=Lm (C++R) from rfl,this];rfl
  ·unfold FO
   have k1:AJ p.r 46=true:=by rw [hp];rfl
   have k2:=CX hD hF (C++R)
   show (if (AJ p.r 46&&AL (hd (F++(C++R))))=true then (false,digs ((F++(C++R)).drop 1)) else (true,p::(F++(C++R))))=_
   rw [k1,k2,Bool.and_self,if_pos rfl,Tf k2,Qt hD (gF h.ex fun _=>h.e1)];rfl
 unfold Et
 rw [hA,hB]
 exact dW _ h.ex h.e1 h.e3
theorem SD {L:List Rn} (h:BT L=true):∃s A B C,L=s++(A++(B++(C++(Et L).2)))∧Cut s A B C (Et L).2∧(Et L).1=(B.isEmpty&&C.isEmpty)∧(s=[]↔Ai L=false):=by
 obtain ⟨s,e1,hs,hss⟩:=On L
 obtain ⟨A,e2,hA,hA'⟩:=Hg (if Ai L then L.drop 1 else L)
 generalize hL1:(if Ai L then L.drop 1 else L)=L1 at*
 have hn:AL (hd L1)=true∨(AJ (hd L1) 46&&AL (hd (L1.drop 1)))=true:=by
  unfold BT at h
  rw [hL1] at h
  simpa using h
 have hB:∃B,digs L1=B++(FO (digs L1)).2∧HJ B∧(FO (digs L1)).1=B.isEmpty∧AL (hd (FO (digs L1)).2)=false∧(B=[]→Lm (FO (digs L1)).2=false∧(FO (digs L1)).2=digs L1):=by
  unfold FO
  cases k:(AJ (hd (digs L1)) 46&&AL (hd ((digs L1).drop 1))) with
  |false=>
   refine ⟨[],rfl,.inl rfl,rfl,hA',fun _=>⟨k,rfl⟩⟩
  |true=>
   simp only [if_true]
   cases hd1:digs L1 with
   |nil=>rw [hd1] at k;exact absurd k (by decide)
   |cons p D=>
    rw [hd1] at k
    rw [Bool.and_eq_true] at k
    have hdD:digs ((p::D).drop 2)=digs D:=Tf (D:=D) k.2
    rw [hdD]
    obtain ⟨F,e3,hF,hF'⟩:=Hg D
    refine ⟨p::F,by rw [List.cons_append];exact congrArg _ e3,.inr ⟨p,F,rfl,AQ k.1,?_,hF⟩,rfl,hF',fun h=>by cases h⟩
    rintro rfl
    rw [List.nil_append] at e3
    have h3:AL (hd D)=true:=k.2
    rw [e3,hF'] at h3;cases h3
 obtain ⟨B,e3,hB1,hB2,hB3,hB4⟩:=hB
 generalize hL2:(FO (digs L1)).2=L2 at*
 have hC:∃C,L2=C++(Gh B.isEmpty L2).2∧Ft C∧(Gh B.isEmpty L2).1=(B.isEmpty&&C.isEmpty)∧AL (hd (Gh B.isEmpty L2).2)=false∧(C=[]→expo (Gh B.isEmpty L2).2=false∧(Gh B.isEmpty L2).2=L2):=by
  unfold Gh
  cases k:(AJ (hd L2) 101||AJ (hd L2) 69) with
  |false=>
   simp only [Bool.false_eq_true,if_false]
   refine ⟨[],rfl,.inl rfl,by simp,hB3,fun _=>⟨by rw [expo,k];rfl,trivial⟩⟩
  |true=>
   simp only [if_true]
   cases k2:AL (hd (if Ai (L2.drop 1) then L2.drop 2 else L2.drop 1)) with
   |false=>
    simp only [Bool.false_eq_true,if_false]
    exact ⟨[],rfl,.inl rfl,by simp,hB3,fun _=>⟨by rw [expo,k2,Bool.and_false],trivial⟩⟩
   |true=>
    simp only [if_true]
    cases L2 with
    |nil=>exact absurd k (by decide)
    |cons e D=>
     obtain ⟨s2,e4,hs2,_⟩:=On D
     have hdr:(if Ai ((e::D).drop 1) then (e::D).drop 2 else (e::D).drop 1)=(if Ai D then D.drop 1 else D):=rfl
     rw [hdr] at k2 ⊢
     generalize hD1:(if Ai D then D.drop 1 else D)=D1 at*
     obtain ⟨E,e5,hE,hE'⟩:=Hg D1
     refine ⟨e::(s2++E),?_,.inr ⟨e,s2,E,rfl,?_,hs2,?_,hE⟩,by simp,hE',fun h=>by cases h⟩
     ·rw [List.cons_append,List.append_assoc,←e5,←e4]
     ·rw [Bool.or_eq_true] at k
      rcases k with k|k
      ·exact .inl (AQ k)
      ·exact .inr (AQ k)
     ·rintro rfl
      rw [List.nil_append] at e5
      rw [e5,hE'] at k2;cases k2
 obtain ⟨C,e4,hC1,hC2,hC3,hC4⟩:=hC
 have hF:Et L=Gh B.isEmpty L2:=by
  unfold Et Gj
  rw [hL1,hB2,hL2]
 rw [hF]
 refine ⟨s,A,B,C,?_,⟨hs,hA,hB1,hC1,?_,hC3,fun hb hc=>?_,fun hc=>(hC4 hc).1⟩,hC2,hss⟩
 ·rw [←e4,←e3,←e2];exact e1
 ·by_cases hAn:A=[]
  ·right
   rintro rfl
   subst hAn
   rw [List.nil_append] at e2
   have h1:=(hB4 rfl).1
   rw [(hB4 rfl).2,←e2] at h1
   rcases hn with k|k
   ·rw [e2,hA'] at k;cases k
   ·have:Lm L1=true:=k
    rw [h1] at this;cases this
  ·exact .inl hAn
 ·rw [(hC4 hc).2];exact (hB4 hb).1
end Go.Vx.Seat
end
section
open Go Go.Vx Go.Proofs
namespace Go.Vx.Seat
def IM (l:List Int):Prop:=∀r,r∈l→Cn r
def nums (k:Int):Prop:=k=10∨k=11∨k=12
def pR (t:Tok) (V:List Rn):Prop:=
 (t.kind=10∧V=[]∧t.unit=⟨#[]⟩)∨(t.kind=11∧V=[⟨37,0⟩]∧t.unit=⟨#[]⟩)∨
 (t.kind=12∧∃l,l≠[]∧t.unit=AO (enc l)∧(∀X,AT (V++X)=(enc l++(AT X).1,(AT X).2))∧V≠[]∧∀X,Ag (V++X)=true)
def CA (s A B C:List Rn):ByteArray:=AO (A9 (s++(A++(B++C))))
structure Nu (t:Tok) (s A B C V:List Rn):Prop where
 cut:Cut s A B C V
 un:pR t V
 flag:t.flag=(B.isEmpty&&C.isEmpty)
 sign:t.sign=AJ (hd s) 43
 neg:t.neg=AJ (hd s) 45
 rd:t.neg=(Du (CA s A B C)).1∧t.digits=(Du (CA s A B C)).2.1∧t.exp=(Du (CA s A B C)).2.2.1
 no0:t.flag=false→A≠[]→hd A≠48
 zero:C≠[]→t.digits≠⟨#[]⟩
 minus:∀e z E,C=e::z::E→z.r≠43
 rest:t.text=⟨#[]⟩∧t.c0=0∧t.c1=0∧t.c2=0∧t.c3=0∧t.start=0
 len:(AA (CA s A B C)).length≤200000000
inductive Pc:Tok→List Int→Prop where
 |ident {l:List Int} (hl:l≠[]) (hv:IM l):Pc (AM 1 (AO (enc l))) (DL true l)
 |func {l:List Int} (hl:l≠[]) (hv:IM l) (hn:(AA (Lf (AO (enc l)))==AA ⟨#[117,114,108]⟩)=false):Pc (AM 2 (AO (enc l))) (DL true l++[40])
 |at {l:List Int} (hl:l≠[]) (hv:IM l):Pc (AM 3 (AO (enc l))) (64::DL true l)
 |hash {l:List Int} (f:Bool) (hl:l≠[]) (hv:IM l):Pc ⟨4,AO (enc l),⟨#[]⟩,false,⟨#[]⟩,⟨#[]⟩,f,false,0,0,0,0,0⟩ (35::DL f l)
 |str {l:List Int} {q:Int} (hq:q=34∨q=39) (hv:IM l):Pc (AM 5 (AO (enc l))) (O2 q l)
 |url {l:List Int} (hv:IM l):Pc (AM 7 (AO (enc l))) ([117,114,108,40]++(Gg l++[41]))
 |num {t:Tok} {P:List Int} {s A B C V:List Rn} (hP:rn P=s++(A++(B++(C++V)))) (h:Nu t s A B C V):Pc t P
 |comm {l:List Int} (hv:IM l):Pc (AM 25 (AO (enc l))) (47::42::(l++[42,47]))
 |nl:Pc (AM 13 ⟨#[10]⟩) [10]
 |sp:Pc (AM 13 ⟨#[32]⟩) [32]
 |cdo:Pc (AM 14 ⟨#[]⟩) [60,33,45,45]
 |cdc:Pc (AM 15 ⟨#[]⟩) [45,45,62]
 |sign {c:Int} (hc:Bp c≠9):Pc (AM (Bp c) ⟨#[]⟩) [c]
theorem KK {l:List Rn} {c:UInt8} {cs:List UInt8} (h:hd l≠((c.toNat:Nat):Int)):Ay l (c::cs)=false:=by rw [Ay,AF h];rfl
theorem FV {l:List Rn} (h:hd l≠47):Ay l (AA ⟨#[47,42]⟩)=false:=KK h
theorem Qd {l:List Rn} (h:hd l≠45):Ay l (AA ⟨#[45,45,62]⟩)=false:=KK h
theorem Q8 {l:List Rn} (h:hd l≠60):Ay l (AA ⟨#[60,33,45,45]⟩)=false:=KK h
theorem Hr {l:List Rn} (h1:AL (hd l)=false) (h2:hd l≠43) (h3:hd l≠45) (h4:hd l≠46):BT l=false:=by
 have hs:Ai l=false:=by rw [Ai,AF h2,AF h3];rfl
 unfold BT
 rw [hs]
 show (AL (hd l)||(AJ (hd l) 46&&_))=false
 rw [h1,AF h4];rfl
theorem HW {l:List Rn} (h1:Bm (hd l)=false) (h2:hd l≠92) (h3:hd l≠45):Ag l=false:=by
 cases l with
 |nil=>rfl
 |cons x r=>
  show (if AJ x.r 45=true then _ else Bm x.r||esc0 (x::r))=false
  have e1:AJ x.r 45=false:=AF h3
  have e2:Bm x.r=false:=h1
  have e3:esc0 (x::r)=false:=by show (AJ x.r 92&&_)=false;rw [AF (show x.r≠92 from h2)];rfl
  rw [e1,e2,e3];rfl
theorem E5 {r:Int} (h1:r≠32) (h2:r≠9) (h3:r≠10):Ad r=false:=by
 unfold Ad;rw [AF h1,AF h2,AF h3];rfl
structure Pre (l:List Rn):Prop where
 a:hd l≠47
 b:Ad (hd l)=false
 c:hd l≠34
 d:hd l≠39
 e:hd l≠35
theorem d9 {l:List Rn} (h:Pre l) (hn:BT l=true):Ak l=E8 l:=by
 unfold Ak
 rw [FV h.a,h.b,AF h.c,AF h.d,AF h.e,hn];rfl
theorem cR {l:List Rn} (h:Pre l) (hn:BT l=false) (hc:Ay l (AA ⟨#[45,45,62]⟩)=true):Ak l=(AM 15 ⟨#[]⟩,l.drop 3):=by
 unfold Ak
 rw [FV h.a,h.b,AF h.c,AF h.d,AF h.e,hn,hc];rfl
theorem QG {l:List Rn} (h:Pre l) (hn:BT l=false) (hc:Ay l (AA ⟨#[45,45,62]⟩)=false) (h60:hd l≠60) (hb:Ag l=true):Ak l=BG l:=by
 unfold Ak
 rw [FV h.a,h.b,AF h.c,AF h.d,AF h.e,hn,hc,Q8 h60,hb];rfl
theorem j8 {l:List Rn} (h:hd l=64) (hb:Ag (l.drop 1)=true):Ak l=(AM 3 (AO (AT (l.drop 1)).1),(AT (l.drop 1)).2):=by
 unfold Ak
 rw [FV (by rw [h];decide),h,Hr (by rw [h];decide) (by rw [h];decide) (by rw [h];decide) (by rw [h];decide),Qd (by rw [h];decide),Q8 (by rw [h];decide),
  HW (l:=l) (by rw [h];decide) (by rw [h];decide) (by rw [h];decide),hb];rfl
theorem Zb {l:List Rn} (h:hd l=35) (hb:(DB (hd (l.drop 1))||esc0 (l.drop 1))=true):Ak l=(⟨4,AO (AT (l.drop 1)).1,⟨#[]⟩,false,⟨#[]⟩,⟨#[]⟩,Ag (l.drop 1),false,0,0,0,0,0⟩,(AT (l.drop 1)).2):=by
 unfold Ak
 rw [FV (by rw [h];decide),h,hb];rfl
theorem Xh {l:List Rn} (h:hd l=34∨hd l=39):Ak l=CH l:=by
 unfold Ak
 rcases h with h|h
 ·rw [FV (by rw [h];decide),h];rfl
 ·rw [FV (by rw [h];decide),h];rfl
theorem TC {l:List Rn} (h:Ay l (AA ⟨#[47,42]⟩)=true):Ak l=(AM 25 (AO (A9 (Bc (l.drop 2)).1)),(Bc (l.drop 2)).2):=by
 unfold Ak
 rw [h];rfl
theorem Th {x:Rn} (l:List Rn) (h:Bp x.r≠9):Ak (x::l)=(AM (Bp x.r) ⟨#[]⟩,l):=by
 have hx:x.r=58∨x.r=59∨x.r=44∨x.r=123∨x.r=125∨x.r=40∨x.r=41∨x.r=91∨x.r=93:=by
  simp only [Bp,BN] at h
  by_cases a1:x.r=58;· omega
  by_cases a2:x.r=59;· omega
  by_cases a3:x.r=44;· omega
  by_cases a4:x.r=123;· omega
  by_cases a5:x.r=125;· omega
  by_cases a6:x.r=40;· omega
  by_cases a7:x.r=41;· omega
  by_cases a8:x.r=91;· omega
  by_cases a9:x.r=93;· omega
  exfalso;apply h;simp [a1,a2,a3,a4,a5,a6,a7,a8,a9]
 have hh:hd (x::l)=x.r:=rfl
 unfold Ak
 rcases hx with e|e|e|e|e|e|e|e|e
 all_goals
  rw [FV (by rw [hh,e];decide),Hr (by rw [hh,e];decide) (by rw [hh,e];decide) (by rw [hh,e];decide) (by rw [hh,e];decide),Qd (by rw [hh,e];decide),Q8 (by rw [hh,e];decide),
   HW (l:=x::l) (by rw [hh,e];decide) (by rw [hh,e];decide) (by rw [hh,e];decide),hh,e]
  rfl
end Go.Vx.Seat
end
section
open Go Go.Vx Go.Proofs
set_option maxRecDepth 10000
set_option maxHeartbeats 8000000
namespace Go.Vx.Seat
attribute [local irreducible] Rg Rt Ro Ri Rc Ds Dt Dw Dx Rw Rl Rd Av An kf
theorem nX:By C1.P.funcs.toList 66=some Try.f66:=by kernel_rfl
theorem o8:By C1.P.funcs.toList 46=some Try.f46:=by kernel_rfl
theorem pL:By C1.P.funcs.toList 47=some Try.f47:=by kernel_rfl
theorem BW (a b:List Int) (h:a.length+b.length≤1000000000):Cr .add (AO a) (AO b)=some (.string (AO (a++b))):=by
 rw [Bk,if_pos (by rw [AW,AW];omega),K0]
theorem XI (l:List Int):AI (List.map (fun n=>UInt8.ofNat n.toNat) l)=AO l:=rfl
theorem XW:(⟨#[92]⟩:ByteArray)=AO [92]:=rfl
theorem Mx:(⟨#[32]⟩:ByteArray)=AO [32]:=rfl
theorem kY:(⟨#[92,45]⟩:ByteArray)=AO [92,45]:=rfl
theorem k0:(⟨#[]⟩:ByteArray)=AO []:=rfl
theorem TU (d:Nat) (h:d<16):Ao (Ct d)=[Ct d]:=E0 (n:=16) (p:=fun d=>Ao (Ct d)=[Ct d]) (by decide+kernel) d h
theorem ZN (n:Nat):enc (Ee n)=Ee n:=by
 induction n using Nat.strongRecOn with
 |ind n ih=>
  by_cases h:n<16
  ·rw [FX h,Aa,BD,TU n h];rfl
  ·rw [JU (by omega),Ap,ih (n / 16) (by omega),Aa,BD,TU _ (by omega)];rfl
theorem Eo (r:Int):enc (As r)=As r:=by
 rw [As,Aa,ZN,show Ao 92=[92] from by decide];rfl
theorem BX {r:Int} (h:Cn r):enc (As r++[32])=As r++[32]:=by
 rw [Ap,Eo,Aa,BD,show Ao 32=[32] from by decide];rfl
theorem DU {r:Int} (h:Cn r):(As r).length≤10:=by
 have:=SJ r.toNat (by have:=h.1.2.1;omega)
 rw [As,List.length_cons];omega
theorem EU {r:Int} (h:Cn r):AS C1 51 [yd (.int .i64 r)] fun y=>y=yd (.string (AO (As r))):=by
 obtain ⟨n,rfl⟩:=Int.eq_ofNat_of_zero_le h.1.1
 exact PE n (by have:=h.1.2.1;omega)
theorem NY (l:List Int) (hl:IM l) (hlen:l.length≤100000) (first:Bool):AS C1 66 [yd (.string (AO (enc l))),yd (.bool first)] fun y=>y=yd (.string (AO (enc (DL first l)))):=by
 have hel:=(Bx l).2
 have hpt:=G3 (AO (enc l)) (by rw [AW];omega)
 rw [GY hl] at hpt
 rw [←dB]
 refine Pf (by rfl) (by rfl) nX (by rfl) ?_
 simp only [Try.f66,List.length_cons,List.length_nil,List.replicate,List.cons_append,List.nil_append]
 simp -implicitDefEqProofs only [↓yP,yT]
 refine AB hpt (by rfl) fun y hy=>?_
 subst hy
 simp -implicitDefEqProofs only [↓yP,yT,k0]
 refine Ah (fun d e st=>∃(i:Nat) (acc:List Int),e=[Tp,yd (.bool first),Tp,Tp,Tp,.c (.p (rI l)),yd (.string (AO acc)),yd (.int .i64 (i:Nat)),Tp,Tp,Tp,Tp,Tp,Tp,Tp,Tp,Tp,Tp,Tp,Tp,Tp,Tp,Tp,Tp,Tp,Tp,Tp,Tp,Tp,Tp,Tp,Tp,Tp,Tp,Tp,Tp,Tp,Tp,Tp,Tp,Tp,Tp,Tp,Tp,Tp,Tp,Tp,Tp,Tp,Tp,Tp,Tp,Tp,Tp,Tp,Tp,Tp,Tp,Tp,Tp,Tp,Tp,Tp,Tp,Tp,Tp,Tp,Tp,Tp,Tp,Tp,Tp,Tp,Tp,Tp,Tp,Tp,Tp,Tp,Tp]∧st=[]∧i+d=l.length∧acc.length≤20*i∧enc (Xu first l 0 l)=acc++enc (Xu first l i (l.drop i))) [false,true,false,false,false,true,true,true] l.length [] (by decide) (AC _) ⟨0,[],by (simp only [yE];try rfl),by (simp only [yE];try rfl),by omega,by simp,by simp⟩ ?_
 rintro d e st ⟨i,acc,rfl,rfl,hd,hal,hacc⟩
 by_cases hi:i<l.length
 ·obtain ⟨r,hx⟩:=get_lt hi
  have hr:=hl r (List.mem_of_getElem? hx)
  have hnl:=DU hr
  have hpl:=Bj r
  have hnum:=EU hr
  have t1:AN (l.length:Nat) (i:Nat)=false:=AE (by omega)
  have w1:AG .i64 ((i:Int)+1)=((i+1:Nat):Int):=AK (by omega)
  obtain ⟨z0,hz0⟩:=get_lt (show 0<l.length by omega)
  have hhead:l.headD 0=z0:=by cases l with|nil=>cases hz0|cons a l=>simp at hz0;exact hz0
  rw [Am hx,Xu,Ap] at hacc
  cases a1:AN 32 r with
  |false=>
   have hq:Dr (first&&(AJ (i:Nat) 0||(AJ (i:Nat) 1&&AJ (l.headD 0) 45))) r=true:=by rw [Dr,a1];rfl
   simp -implicitDefEqProofs only [↓yP,yT,t1,AP hx,ei,a1]
   have hsi:Jr first l i r=As r++[32]:=by rw [Jr,if_pos hq]
   have s1:=BW acc (As r) (by omega)
   have s2:=BW (acc++As r) [32] (by simp;omega)
   refine AB hnum (by rfl) fun y hy=>?_
   subst hy
   simp -implicitDefEqProofs only [↓yP,yT,Mx,s1,s2,w1]
   refine ⟨d - 1,[],by omega,by decide,AC _,i+1,acc++As r++[32],by (simp only [yE];try rfl),by (simp only [yE];try rfl),by omega,by simp;omega,?_⟩
   rw [hacc,hsi,BX hr];simp
  |true=>
  cases a2:AJ r 127 with
  |true=>
   have hq:Dr (first&&(AJ (i:Nat) 0||(AJ (i:Nat) 1&&AJ (l.headD 0) 45))) r=true:=by rw [Dr,a1,a2];rfl
   simp -implicitDefEqProofs only [↓yP,yT,t1,AP hx,ei,a1,a2]
   have hsi:Jr first l i r=As r++[32]:=by rw [Jr,if_pos hq]
   have s1:=BW acc (As r) (by omega)
   have s2:=BW (acc++As r) [32] (by simp;omega)
   refine AB hnum (by rfl) fun y hy=>?_
   subst hy
   simp -implicitDefEqProofs only [↓yP,yT,Mx,s1,s2,w1]
   refine ⟨d - 1,[],by omega,by decide,AC _,i+1,acc++As r++[32],by (simp only [yE];try rfl),by (simp only [yE];try rfl),by omega,by simp;omega,?_⟩
   rw [hacc,hsi,BX hr];simp
  |false=>
  cases first with
  |false=>
   have hq:Dr (false&&(AJ (i:Nat) 0||(AJ (i:Nat) 1&&AJ (l.headD 0) 45))) r=false:=by rw [Dr,a1,a2];rfl
   have h45:(false&&AJ r 45&&AJ (l.length:Nat) 1)=false:=rfl
   simp -implicitDefEqProofs only [↓yP,yT,t1,AP hx,ei,a1,a2]
   cases hin:DB r with
   |true=>
    have hsi:Jr false l i r=[r]:=by rw [Jr,if_neg (by rw [hq];simp),if_neg (by rw [h45];simp),if_pos hin]
    have s1:=BW acc (Ao r) (by omega)
    refine AB (Dd r) (by rfl) fun y hy=>?_
    subst hy
    simp -implicitDefEqProofs only [↓yP,yT,hin]
    refine Ba (els':=(Ao r).map eb) (by decide) (by rfl) (B8 r [] (by simp)) ?_
    simp -implicitDefEqProofs only [↓yP,yT,A6,Ar,XI,s1,w1]
    refine ⟨d - 1,[],by omega,by decide,AC _,i+1,acc++Ao r,by (simp only [yE];try rfl),by (simp only [yE];try rfl),by omega,by simp;omega,?_⟩
    rw [hacc,hsi];simp [Aa,BD]
   |false=>
    have hsi:Jr false l i r=[92,r]:=by rw [Jr,if_neg (by rw [hq];simp),if_neg (by rw [h45];simp),if_neg (by rw [hin];simp)]
    have s1:=BW acc [92] (by simp;omega)
    have s2:=BW (acc++[92]) (Ao r) (by simp;omega)
    refine AB (Dd r) (by rfl) fun y hy=>?_
    subst hy
    simp -implicitDefEqProofs only [↓yP,yT,hin,XW,s1]
    refine Ba (els':=(Ao r).map eb) (by decide) (by rfl) (B8 r [] (by simp)) ?_
    simp -implicitDefEqProofs only [↓yP,yT,A6,Ar,XI,s2,w1]
    refine ⟨d - 1,[],by omega,by decide,AC _,i+1,acc++[92]++Ao r,by (simp only [yE];try rfl),by (simp only [yE];try rfl),by omega,by simp;omega,?_⟩
    rw [hacc,hsi,Aa,Aa,show Ao 92=[92] from by decide];simp [BD]
  |true=>
  simp -implicitDefEqProofs only [↓yP,yT,t1,AP hx,ei,a1,a2]
  refine AB (Be r) (by rfl) fun y hy=>?_
  subst hy
  cases a3:AL r with
  |false=>
   have hq:Dr (true&&(AJ (i:Nat) 0||(AJ (i:Nat) 1&&AJ (l.headD 0) 45))) r=false:=by rw [Dr,a1,a2,a3,Bool.and_false];rfl
   cases a4:AJ r 45 with
   |true=>
    cases a5:AJ (l.length:Nat) 1 with
    |true=>
     have hsi:Jr true l i r=[92,45]:=by rw [Jr,if_neg (by rw [hq];simp),if_pos (by rw [a4,a5];rfl)]
     have s1:=BW acc [92,45] (by simp;omega)
     simp -implicitDefEqProofs only [↓yP,yT,a4,a5,kY,s1,w1]
     refine ⟨d - 1,[],by omega,by decide,AC _,i+1,acc++[92,45],by (simp only [yE];try rfl),by (simp only [yE];try rfl),by omega,by simp;omega,?_⟩
     rw [hacc,hsi,show enc [92,45]=[92,45] from by decide];simp
    |false=>
     have h45:(true&&AJ r 45&&AJ (l.length:Nat) 1)=false:=by rw [a5,Bool.and_false]
     simp -implicitDefEqProofs only [↓yP,yT,a4,a5]
     cases hin:DB r with
     |true=>
      have hsi:Jr true l i r=[r]:=by rw [Jr,if_neg (by rw [hq];simp),if_neg (by rw [h45];simp),if_pos hin]
      have s1:=BW acc (Ao r) (by omega)
      refine AB (Dd r) (by rfl) fun y hy=>?_
      subst hy
      simp -implicitDefEqProofs only [↓yP,yT,hin]
      refine Ba (els':=(Ao r).map eb) (by decide) (by rfl) (B8 r [] (by simp)) ?_
      simp -implicitDefEqProofs only [↓yP,yT,A6,Ar,XI,s1,w1]
      refine ⟨d - 1,[],by omega,by decide,AC _,i+1,acc++Ao r,by (simp only [yE];try rfl),by (simp only [yE];try rfl),by omega,by simp;omega,?_⟩
      rw [hacc,hsi];simp [Aa,BD]
     |false=>
      have hsi:Jr true l i r=[92,r]:=by rw [Jr,if_neg (by rw [hq];simp),if_neg (by rw [h45];simp),if_neg (by rw [hin];simp)]
      have s1:=BW acc [92] (by simp;omega)
      have s2:=BW (acc++[92]) (Ao r) (by simp;omega)
      refine AB (Dd r) (by rfl) fun y hy=>?_
      subst hy
      simp -implicitDefEqProofs only [↓yP,yT,hin,XW,s1]
      refine Ba (els':=(Ao r).map eb) (by decide) (by rfl) (B8 r [] (by simp)) ?_
      simp -implicitDefEqProofs only [↓yP,yT,A6,Ar,XI,s2,w1]
      refine ⟨d - 1,[],by omega,by decide,AC _,i+1,acc++[92]++Ao r,by (simp only [yE];try rfl),by (simp only [yE];try rfl),by omega,by simp;omega,?_⟩
      rw [hacc,hsi,Aa,Aa,show Ao 92=[92] from by decide];simp [BD]
   |false=>
    have h45:(true&&AJ r 45&&AJ (l.length:Nat) 1)=false:=by rw [a4];rfl
    simp -implicitDefEqProofs only [↓yP,yT,a4]
    cases hin:DB r with
    |true=>
     have hsi:Jr true l i r=[r]:=by rw [Jr,if_neg (by rw [hq];simp),if_neg (by rw [h45];simp),if_pos hin]
     have s1:=BW acc (Ao r) (by omega)
     refine AB (Dd r) (by rfl) fun y hy=>?_
     subst hy
     simp -implicitDefEqProofs only [↓yP,yT,hin]
     refine Ba (els':=(Ao r).map eb) (by decide) (by rfl) (B8 r [] (by simp)) ?_
     simp -implicitDefEqProofs only [↓yP,yT,A6,Ar,XI,s1,w1]
     refine ⟨d - 1,[],by omega,by decide,AC _,i+1,acc++Ao r,by (simp only [yE];try rfl),by (simp only [yE];try rfl),by omega,by simp;omega,?_⟩
     rw [hacc,hsi];simp [Aa,BD]
    |false=>
     have hsi:Jr true l i r=[92,r]:=by rw [Jr,if_neg (by rw [hq];simp),if_neg (by rw [h45];simp),if_neg (by rw [hin];simp)]
     have s1:=BW acc [92] (by simp;omega)
     have s2:=BW (acc++[92]) (Ao r) (by simp;omega)
     refine AB (Dd r) (by rfl) fun y hy=>?_
     subst hy
     simp -implicitDefEqProofs only [↓yP,yT,hin,XW,s1]
     refine Ba (els':=(Ao r).map eb) (by decide) (by rfl) (B8 r [] (by simp)) ?_
     simp -implicitDefEqProofs only [↓yP,yT,A6,Ar,XI,s2,w1]
     refine ⟨d - 1,[],by omega,by decide,AC _,i+1,acc++[92]++Ao r,by (simp only [yE];try rfl),by (simp only [yE];try rfl),by omega,by simp;omega,?_⟩
     rw [hacc,hsi,Aa,Aa,show Ao 92=[92] from by decide];simp [BD]
  |true=>
   have a4:AJ r 45=false:=AF (by have:=C6 a3;omega)
   have h45:(true&&AJ r 45&&AJ (l.length:Nat) 1)=false:=by rw [a4];rfl
   cases a6:AJ (i:Nat) 0 with
   |true=>
    have hq:Dr (true&&(AJ (i:Nat) 0||(AJ (i:Nat) 1&&AJ (l.headD 0) 45))) r=true:=by rw [Dr,a1,a2,a3,a6];rfl
    simp -implicitDefEqProofs only [↓yP,yT,a6]
    have hsi:Jr true l i r=As r++[32]:=by rw [Jr,if_pos hq]
    have s1:=BW acc (As r) (by omega)
    have s2:=BW (acc++As r) [32] (by simp;omega)
    refine AB hnum (by rfl) fun y hy=>?_
    subst hy
    simp -implicitDefEqProofs only [↓yP,yT,Mx,s1,s2,w1]
    refine ⟨d - 1,[],by omega,by decide,AC _,i+1,acc++As r++[32],by (simp only [yE];try rfl),by (simp only [yE];try rfl),by omega,by simp;omega,?_⟩
    rw [hacc,hsi,BX hr];simp
   |false=>
   cases a7:AJ (i:Nat) 1 with
   |true=>
    cases a8:AJ z0 45 with
    |true=>
     have hq:Dr (true&&(AJ (i:Nat) 0||(AJ (i:Nat) 1&&AJ (l.headD 0) 45))) r=true:=by rw [Dr,a1,a2,a3,a6,a7,hhead,a8];rfl
     simp -implicitDefEqProofs only [↓yP,yT,a6,a7,AP hz0,ei,a8]
     have hsi:Jr true l i r=As r++[32]:=by rw [Jr,if_pos hq]
     have s1:=BW acc (As r) (by omega)
     have s2:=BW (acc++As r) [32] (by simp;omega)
     refine AB hnum (by rfl) fun y hy=>?_
     subst hy
     simp -implicitDefEqProofs only [↓yP,yT,Mx,s1,s2,w1]
     refine ⟨d - 1,[],by omega,by decide,AC _,i+1,acc++As r++[32],by (simp only [yE];try rfl),by (simp only [yE];try rfl),by omega,by simp;omega,?_⟩
     rw [hacc,hsi,BX hr];simp
    |false=>
     have hq:Dr (true&&(AJ (i:Nat) 0||(AJ (i:Nat) 1&&AJ (l.headD 0) 45))) r=false:=by rw [Dr,a1,a2,a3,a6,a7,hhead,a8];rfl
     simp -implicitDefEqProofs only [↓yP,yT,a6,a7,AP hz0,ei,a8,a4]
     cases hin:DB r with
     |true=>
      have hsi:Jr true l i r=[r]:=by rw [Jr,if_neg (by rw [hq];simp),if_neg (by rw [h45];simp),if_pos hin]
      have s1:=BW acc (Ao r) (by omega)
      refine AB (Dd r) (by rfl) fun y hy=>?_
      subst hy
      simp -implicitDefEqProofs only [↓yP,yT,hin]
      refine Ba (els':=(Ao r).map eb) (by decide) (by rfl) (B8 r [] (by simp)) ?_
      simp -implicitDefEqProofs only [↓yP,yT,A6,Ar,XI,s1,w1]
      refine ⟨d - 1,[],by omega,by decide,AC _,i+1,acc++Ao r,by (simp only [yE];try rfl),by (simp only [yE];try rfl),by omega,by simp;omega,?_⟩
      rw [hacc,hsi];simp [Aa,BD]
     |false=>
      have hsi:Jr true l i r=[92,r]:=by rw [Jr,if_neg (by rw [hq];simp),if_neg (by rw [h45];simp),if_neg (by rw [hin];simp)]
      have s1:=BW acc [92] (by simp;omega)
      have s2:=BW (acc++[92]) (Ao r) (by simp;omega)
      refine AB (Dd r) (by rfl) fun y hy=>?_
      subst hy
      simp -implicitDefEqProofs only [↓yP,yT,hin,XW,s1]
      refine Ba (els':=(Ao r).map eb) (by decide) (by rfl) (B8 r [] (by simp)) ?_
      simp -implicitDefEqProofs only [↓yP,yT,A6,Ar,XI,s2,w1]
      refine ⟨d - 1,[],by omega,by decide,AC _,i+1,acc++[92]++Ao r,by (simp only [yE];try rfl),by (simp only [yE];try rfl),by omega,by simp;omega,?_⟩
      rw [hacc,hsi,Aa,Aa,show Ao 92=[92] from by decide];simp [BD]
   |false=>
    have hq:Dr (true&&(AJ (i:Nat) 0||(AJ (i:Nat) 1&&AJ (l.headD 0) 45))) r=false:=by rw [Dr,a1,a2,a3,a6,a7];rfl
    simp -implicitDefEqProofs only [↓yP,yT,a6,a7,a4]
    cases hin:DB r with
    |true=>
     have hsi:Jr true l i r=[r]:=by rw [Jr,if_neg (by rw [hq];simp),if_neg (by rw [h45];simp),if_pos hin]
     have s1:=BW acc (Ao r) (by omega)
     refine AB (Dd r) (by rfl) fun y hy=>?_
     subst hy
     simp -implicitDefEqProofs only [↓yP,yT,hin]
     refine Ba (els':=(Ao r).map eb) (by decide) (by rfl) (B8 r [] (by simp)) ?_
     simp -implicitDefEqProofs only [↓yP,yT,A6,Ar,XI,s1,w1]
     refine ⟨d - 1,[],by omega,by decide,AC _,i+1,acc++Ao r,by (simp only [yE];try rfl),by (simp only [yE];try rfl),by omega,by simp;omega,?_⟩
     rw [hacc,hsi];simp [Aa,BD]
    |false=>
     have hsi:Jr true l i r=[92,r]:=by rw [Jr,if_neg (by rw [hq];simp),if_neg (by rw [h45];simp),if_neg (by rw [hin];simp)]
     have s1:=BW acc [92] (by simp;omega)
     have s2:=BW (acc++[92]) (Ao r) (by simp;omega)
     refine AB (Dd r) (by rfl) fun y hy=>?_
     subst hy
     simp -implicitDefEqProofs only [↓yP,yT,hin,XW,s1]
     refine Ba (els':=(Ao r).map eb) (by decide) (by rfl) (B8 r [] (by simp)) ?_
     simp -implicitDefEqProofs only [↓yP,yT,A6,Ar,XI,s2,w1]
     refine ⟨d - 1,[],by omega,by decide,AC _,i+1,acc++[92]++Ao r,by (simp only [yE];try rfl),by (simp only [yE];try rfl),by omega,by simp;omega,?_⟩
     rw [hacc,hsi,Aa,Aa,show Ao 92=[92] from by decide];simp [BD]
 ·have t1:AN (l.length:Nat) (i:Nat)=true:=AH (by omega)
  rw [List.drop_eq_nil_of_le (by omega),Xu,BD,List.append_nil] at hacc
  rw [hacc]
  simp -implicitDefEqProofs only [↓yP,yT,reduceCtorEq,t1]
theorem CG (l:List Int) (hl:IM l) (hlen:l.length≤100000):AS C1 46 [yd (.string (AO (enc l)))] fun y=>y=yd (.string (AO (enc (DL true l)))):=by
 refine Pf (by rfl) (by rfl) o8 (by rfl) ?_
 simp only [Try.f46,List.length_cons,List.length_nil,List.replicate,List.cons_append,List.nil_append]
 simp -implicitDefEqProofs only [↓yP,yT]
 refine AB (NY l hl hlen true) (by rfl) fun y hy=>?_
 subst hy
 simp -implicitDefEqProofs only [↓yP,yT,reduceCtorEq]
theorem Fa (l:List Int) (hl:IM l) (hlen:l.length≤100000):AS C1 47 [yd (.string (AO (enc l)))] fun y=>y=yd (.string (AO (enc (DL false l)))):=by
 refine Pf (by rfl) (by rfl) pL (by rfl) ?_
 simp only [Try.f47,List.length_cons,List.length_nil,List.replicate,List.cons_append,List.nil_append]
 simp -implicitDefEqProofs only [↓yP,yT]
 refine AB (NY l hl hlen false) (by rfl) fun y hy=>?_
 subst hy
 simp -implicitDefEqProofs only [↓yP,yT,reduceCtorEq]
end Go.Vx.Seat
end
section
open Go Go.Vx Go.Proofs
set_option maxRecDepth 10000
set_option maxHeartbeats 8000000
namespace Go.Vx.Seat
attribute [local irreducible] Rg Rt Ro Ri Rc Ds Dt Dw Dx Rw Rl Rd Av An kf
theorem nF:By C1.P.funcs.toList 67=some Try.f67:=by kernel_rfl
theorem pA:By C1.P.funcs.toList 48=some Try.f48:=by kernel_rfl
theorem LI (l:List Int) (hl:IM l) (hlen:l.length≤100000) (q:Int) (hq0:q=34∨q=39):AS C1 67 [yd (.string (AO (enc l))),yd (.int .i64 q)] fun y=>y=yd (.string (AO (enc (O2 q l)))):=by
 have hel:=(Bx l).2
 have hpt:=G3 (AO (enc l)) (by rw [AW];omega)
 rw [GY hl] at hpt
 have hpq:Ao q=[q]:=by rcases hq0 with rfl|rfl<;>decide
 refine Pf (by rfl) (by rfl) nF (by rfl) ?_
 simp only [Try.f67,List.length_cons,List.length_nil,List.replicate,List.cons_append,List.nil_append]
 simp -implicitDefEqProofs only [↓yP,yT]
 refine AB hpt (by rfl) fun y hy=>?_
 subst hy
 simp -implicitDefEqProofs only [↓yP,yT]
 refine Ba (els':=(Ao q).map eb) (by decide) (by rfl) (B8 q [] (by simp)) ?_
 simp -implicitDefEqProofs only [↓yP,yT,A6,Ar,XI]
 rw [hpq]
 refine Ah (fun d e st=>∃(i:Nat) (acc:List Int),e=[Tp,yd (.int .i64 q),Tp,Tp,Tp,.c (.p (rI l)),yd (.string (AO acc)),yd (.string (AO [q])),yd (.int .i64 (i:Nat)),Tp,Tp,Tp,Tp,Tp,Tp,Tp,Tp,Tp,Tp,Tp,Tp,Tp,Tp,Tp,Tp,Tp,Tp,Tp,Tp,Tp,Tp,Tp,Tp,Tp,Tp,Tp,Tp,Tp,Tp,Tp,Tp,Tp,Tp,Tp,Tp,Tp,Tp,Tp,Tp,Tp,Tp,Tp,Tp,Tp,Tp,Tp,Tp,Tp,Tp,Tp,Tp,Tp,Tp,Tp,Tp,Tp,Tp,Tp,Tp,Tp,Tp,Tp,Tp,Tp,Tp,Tp,Tp,Tp,Tp,Tp,Tp,Tp,Tp,Tp,Tp,Tp,Tp,Tp,Tp,Tp,Tp,Tp,Tp,Tp,Tp,Tp,Tp,Tp,Tp,Tp,Tp,Tp,Tp]∧st=[]∧i+d=l.length∧acc.length≤20*i+1∧q::enc (HM q l)=acc++enc (HM q (l.drop i))) [false,true,false,false,false,true,true,true,true] l.length [] (by decide) (AC _) ⟨0,[q],by (simp only [yE];try rfl),by (simp only [yE];try rfl),by omega,by simp,by simp⟩ ?_
 rintro d e st ⟨i,acc,rfl,rfl,hd,hal,hacc⟩
 by_cases hi:i<l.length
 ·obtain ⟨r,hx⟩:=get_lt hi
  have hr:=hl r (List.mem_of_getElem? hx)
  have hnl:=DU hr
  have hpl:=Bj r
  have t1:AN (l.length:Nat) (i:Nat)=false:=AE (by omega)
  have w1:AG .i64 ((i:Int)+1)=((i+1:Nat):Int):=AK (by omega)
  rw [Am hx] at hacc
  simp -implicitDefEqProofs only [↓yP,yT,t1,AP hx,ei]
  refine Ba (els':=(Ao r).map eb) (by decide) (by rfl) (B8 r [] (by simp)) ?_
  simp -implicitDefEqProofs only [↓yP,yT,A6,Ar,XI]
  cases a1:AJ r q with
  |true=>
   have hq:(AJ r q||AJ r 92)=true:=by rw [a1];rfl
   have s1:=BW acc [92] (by simp;omega)
   have s2:=BW (acc++[92]) (Ao r) (by simp;omega)
   simp -implicitDefEqProofs only [↓yP,yT,XW,s1,s2,w1]
   refine ⟨d - 1,[],by omega,by decide,AC _,i+1,acc++[92]++Ao r,by (simp only [yE];try rfl),by (simp only [yE];try rfl),by omega,by simp;omega,?_⟩
   rw [hacc,HM,if_pos hq,Ap,Aa,Aa,show Ao 92=[92] from by decide];simp [BD]
  |false=>
  cases a2:AJ r 92 with
  |true=>
   have hq:(AJ r q||AJ r 92)=true:=by rw [a1,a2];rfl
   have s1:=BW acc [92] (by simp;omega)
   have s2:=BW (acc++[92]) (Ao r) (by simp;omega)
   simp -implicitDefEqProofs only [↓yP,yT,a2,XW,s1,s2,w1]
   refine ⟨d - 1,[],by omega,by decide,AC _,i+1,acc++[92]++Ao r,by (simp only [yE];try rfl),by (simp only [yE];try rfl),by omega,by simp;omega,?_⟩
   rw [hacc,HM,if_pos hq,Ap,Aa,Aa,show Ao 92=[92] from by decide];simp [BD]
  |false=>
  have hq:(AJ r q||AJ r 92)=false:=by rw [a1,a2];rfl
  cases a3:AJ r 10 with
  |true=>
   have hnl:RC r=true:=by rw [RC,a3];rfl
   have s1:=BW acc (As r) (by omega)
   have s2:=BW (acc++As r) [32] (by simp;omega)
   simp -implicitDefEqProofs only [↓yP,yT,a2,a3]
   refine AB (EU hr) (by rfl) fun y hy=>?_
   subst hy
   by_cases hi2:i+1<l.length
   ·obtain ⟨z,hz⟩:=get_lt hi2
    have t2:AN (l.length:Nat) ((i+1:Nat):Int)=false:=AE (by omega)
    have hdz:l.drop (i+1)=z::l.drop (i+2):=Am hz
    simp -implicitDefEqProofs only [↓yP,yT,s1,w1,t2,AP hz,ei]
    refine AB (HZ z) (by rfl) fun y hy=>?_
    subst hy
    cases m1:AN 0 (DI z) with
    |true=>
     have hg:DS (l.drop (i+1))=[32]:=by rw [hdz,DS,E1,m1];rfl
     simp -implicitDefEqProofs only [↓yP,yT,m1,Mx,s2,w1]
     refine ⟨d - 1,[],by omega,by decide,AC _,i+1,acc++As r++[32],by (simp only [yE];try rfl),by (simp only [yE];try rfl),by omega,by simp;omega,?_⟩
     rw [hacc,HM,if_neg (by rw [hq];simp),if_pos hnl,hg,Ap,BX hr];simp
    |false=>
    simp -implicitDefEqProofs only [yT,m1,w1,AP hz,ei]
    refine AB (CY z) (by rfl) fun y hy=>?_
    subst hy
    cases m2:Ad z with
    |true=>
     have hg:DS (l.drop (i+1))=[32]:=by rw [hdz,DS,E1,m1,m2];rfl
     simp -implicitDefEqProofs only [↓yP,yT,Mx,s2,w1]
     refine ⟨d - 1,[],by omega,by decide,AC _,i+1,acc++As r++[32],by (simp only [yE];try rfl),by (simp only [yE];try rfl),by omega,by simp;omega,?_⟩
     rw [hacc,HM,if_neg (by rw [hq];simp),if_pos hnl,hg,Ap,BX hr];simp
    |false=>
    cases m3:AJ z 12 with
    |true=>
     have hg:DS (l.drop (i+1))=[32]:=by rw [hdz,DS,E1,m1,m2,m3];rfl
     simp -implicitDefEqProofs only [↓yP,yT,m3,AP hz,ei,Mx,s2,w1]
     refine ⟨d - 1,[],by omega,by decide,AC _,i+1,acc++As r++[32],by (simp only [yE];try rfl),by (simp only [yE];try rfl),by omega,by simp;omega,?_⟩
     rw [hacc,HM,if_neg (by rw [hq];simp),if_pos hnl,hg,Ap,BX hr];simp
    |false=>
    cases m4:AJ z 13 with
    |true=>
     have hg:DS (l.drop (i+1))=[32]:=by rw [hdz,DS,E1,m1,m2,m3,m4];rfl
     simp -implicitDefEqProofs only [↓yP,yT,m3,m4,AP hz,ei,Mx,s2,w1]
     refine ⟨d - 1,[],by omega,by decide,AC _,i+1,acc++As r++[32],by (simp only [yE];try rfl),by (simp only [yE];try rfl),by omega,by simp;omega,?_⟩
     rw [hacc,HM,if_neg (by rw [hq];simp),if_pos hnl,hg,Ap,BX hr];simp
    |false=>
     have hg:DS (l.drop (i+1))=[]:=by rw [hdz,DS,E1,m1,m2,m3,m4];rfl
     simp -implicitDefEqProofs only [↓yP,yT,m3,m4,AP hz,ei,w1]
     refine ⟨d - 1,[],by omega,by decide,AC _,i+1,acc++As r,by (simp only [yE];try rfl),by (simp only [yE];try rfl),by omega,by simp;omega,?_⟩
     rw [hacc,HM,if_neg (by rw [hq];simp),if_pos hnl,hg,List.append_nil,Ap,Eo];simp
   ·have t2:AN (l.length:Nat) ((i+1:Nat):Int)=true:=AH (by omega)
    have hg:DS (l.drop (i+1))=[]:=by rw [List.drop_eq_nil_of_le (by omega)];rfl
    simp -implicitDefEqProofs only [↓yP,yT,s1,t2,w1]
    refine ⟨d - 1,[],by omega,by decide,AC _,i+1,acc++As r,by (simp only [yE];try rfl),by (simp only [yE];try rfl),by omega,by simp;omega,?_⟩
    rw [hacc,HM,if_neg (by rw [hq];simp),if_pos hnl,hg,List.append_nil,Ap,Eo];simp
  |false=>
  cases a4:AJ r 12 with
  |true=>
   have hnl:RC r=true:=by rw [RC,a3,a4];rfl
   have s1:=BW acc (As r) (by omega)
   have s2:=BW (acc++As r) [32] (by simp;omega)
   simp -implicitDefEqProofs only [↓yP,yT,a2,a3,a4]
   refine AB (EU hr) (by rfl) fun y hy=>?_
   subst hy
   by_cases hi2:i+1<l.length
   ·obtain ⟨z,hz⟩:=get_lt hi2
    have t2:AN (l.length:Nat) ((i+1:Nat):Int)=false:=AE (by omega)
    have hdz:l.drop (i+1)=z::l.drop (i+2):=Am hz
    simp -implicitDefEqProofs only [↓yP,yT,s1,w1,t2,AP hz,ei]
    refine AB (HZ z) (by rfl) fun y hy=>?_
    subst hy
    cases m1:AN 0 (DI z) with
    |true=>
     have hg:DS (l.drop (i+1))=[32]:=by rw [hdz,DS,E1,m1];rfl
     simp -implicitDefEqProofs only [↓yP,yT,m1,Mx,s2,w1]
     refine ⟨d - 1,[],by omega,by decide,AC _,i+1,acc++As r++[32],by (simp only [yE];try rfl),by (simp only [yE];try rfl),by omega,by simp;omega,?_⟩
     rw [hacc,HM,if_neg (by rw [hq];simp),if_pos hnl,hg,Ap,BX hr];simp
    |false=>
    simp -implicitDefEqProofs only [yT,m1,w1,AP hz,ei]
    refine AB (CY z) (by rfl) fun y hy=>?_
    subst hy
    cases m2:Ad z with
    |true=>
     have hg:DS (l.drop (i+1))=[32]:=by rw [hdz,DS,E1,m1,m2];rfl
     simp -implicitDefEqProofs only [↓yP,yT,Mx,s2,w1]
     refine ⟨d - 1,[],by omega,by decide,AC _,i+1,acc++As r++[32],by (simp only [yE];try rfl),by (simp only [yE];try rfl),by omega,by simp;omega,?_⟩
     rw [hacc,HM,if_neg (by rw [hq];simp),if_pos hnl,hg,Ap,BX hr];simp
    |false=>
    cases m3:AJ z 12 with
    |true=>
     have hg:DS (l.drop (i+1))=[32]:=by rw [hdz,DS,E1,m1,m2,m3];rfl
     simp -implicitDefEqProofs only [↓yP,yT,m3,AP hz,ei,Mx,s2,w1]
     refine ⟨d - 1,[],by omega,by decide,AC _,i+1,acc++As r++[32],by (simp only [yE];try rfl),by (simp only [yE];try rfl),by omega,by simp;omega,?_⟩
     rw [hacc,HM,if_neg (by rw [hq];simp),if_pos hnl,hg,Ap,BX hr];simp
    |false=>
    cases m4:AJ z 13 with
    |true=>
     have hg:DS (l.drop (i+1))=[32]:=by rw [hdz,DS,E1,m1,m2,m3,m4];rfl
     simp -implicitDefEqProofs only [↓yP,yT,m3,m4,AP hz,ei,Mx,s2,w1]
     refine ⟨d - 1,[],by omega,by decide,AC _,i+1,acc++As r++[32],by (simp only [yE];try rfl),by (simp only [yE];try rfl),by omega,by simp;omega,?_⟩
     rw [hacc,HM,if_neg (by rw [hq];simp),if_pos hnl,hg,Ap,BX hr];simp
    |false=>
     have hg:DS (l.drop (i+1))=[]:=by rw [hdz,DS,E1,m1,m2,m3,m4];rfl
     simp -implicitDefEqProofs only [↓yP,yT,m3,m4,AP hz,ei,w1]
     refine ⟨d - 1,[],by omega,by decide,AC _,i+1,acc++As r,by (simp only [yE];try rfl),by (simp only [yE];try rfl),by omega,by simp;omega,?_⟩
     rw [hacc,HM,if_neg (by rw [hq];simp),if_pos hnl,hg,List.append_nil,Ap,Eo];simp
   ·have t2:AN (l.length:Nat) ((i+1:Nat):Int)=true:=AH (by omega)
    have hg:DS (l.drop (i+1))=[]:=by rw [List.drop_eq_nil_of_le (by omega)];rfl
    simp -implicitDefEqProofs only [↓yP,yT,s1,t2,w1]
    refine ⟨d - 1,[],by omega,by decide,AC _,i+1,acc++As r,by (simp only [yE];try rfl),by (simp only [yE];try rfl),by omega,by simp;omega,?_⟩
    rw [hacc,HM,if_neg (by rw [hq];simp),if_pos hnl,hg,List.append_nil,Ap,Eo];simp
  |false=>
  cases a5:AJ r 13 with
  |true=>
   have hnl:RC r=true:=by rw [RC,a3,a4,a5];rfl
   have s1:=BW acc (As r) (by omega)
   have s2:=BW (acc++As r) [32] (by simp;omega)
   simp -implicitDefEqProofs only [↓yP,yT,a2,a3,a4,a5]
   refine AB (EU hr) (by rfl) fun y hy=>?_
   subst hy
   by_cases hi2:i+1<l.length
   ·obtain ⟨z,hz⟩:=get_lt hi2
    have t2:AN (l.length:Nat) ((i+1:Nat):Int)=false:=AE (by omega)
    have hdz:l.drop (i+1)=z::l.drop (i+2):=Am hz
    simp -implicitDefEqProofs only [↓yP,yT,s1,w1,t2,AP hz,ei]
    refine AB (HZ z) (by rfl) fun y hy=>?_
    subst hy
    cases m1:AN 0 (DI z) with
    |true=>
     have hg:DS (l.drop (i+1))=[32]:=by rw [hdz,DS,E1,m1];rfl
     simp -implicitDefEqProofs only [↓yP,yT,m1,Mx,s2,w1]
     refine ⟨d - 1,[],by omega,by decide,AC _,i+1,acc++As r++[32],by (simp only [yE];try rfl),by (simp only [yE];try rfl),by omega,by simp;omega,?_⟩
     rw [hacc,HM,if_neg (by rw [hq];simp),if_pos hnl,hg,Ap,BX hr];simp
    |false=>
    simp -implicitDefEqProofs only [yT,m1,w1,AP hz,ei]
    refine AB (CY z) (by rfl) fun y hy=>?_
    subst hy
    cases m2:Ad z with
    |true=>
     have hg:DS (l.drop (i+1))=[32]:=by rw [hdz,DS,E1,m1,m2];rfl
     simp -implicitDefEqProofs only [↓yP,yT,Mx,s2,w1]
     refine ⟨d - 1,[],by omega,by decide,AC _,i+1,acc++As r++[32],by (simp only [yE];try rfl),by (simp only [yE];try rfl),by omega,by simp;omega,?_⟩
     rw [hacc,HM,if_neg (by rw [hq];simp),if_pos hnl,hg,Ap,BX hr];simp
    |false=>
    cases m3:AJ z 12 with
    |true=>
     have hg:DS (l.drop (i+1))=[32]:=by rw [hdz,DS,E1,m1,m2,m3];rfl
     simp -implicitDefEqProofs only [↓yP,yT,m3,AP hz,ei,Mx,s2,w1]
     refine ⟨d - 1,[],by omega,by decide,AC _,i+1,acc++As r++[32],by (simp only [yE];try rfl),by (simp only [yE];try rfl),by omega,by simp;omega,?_⟩
     rw [hacc,HM,if_neg (by rw [hq];simp),if_pos hnl,hg,Ap,BX hr];simp
    |false=>
    cases m4:AJ z 13 with
    |true=>
     have hg:DS (l.drop (i+1))=[32]:=by rw [hdz,DS,E1,m1,m2,m3,m4];rfl
     simp -implicitDefEqProofs only [↓yP,yT,m3,m4,AP hz,ei,Mx,s2,w1]
     refine ⟨d - 1,[],by omega,by decide,AC _,i+1,acc++As r++[32],by (simp only [yE];try rfl),by (simp only [yE];try rfl),by omega,by simp;omega,?_⟩
     rw [hacc,HM,if_neg (by rw [hq];simp),if_pos hnl,hg,Ap,BX hr];simp
    |false=>
     have hg:DS (l.drop (i+1))=[]:=by rw [hdz,DS,E1,m1,m2,m3,m4];rfl
     simp -implicitDefEqProofs only [↓yP,yT,m3,m4,AP hz,ei,w1]
     refine ⟨d - 1,[],by omega,by decide,AC _,i+1,acc++As r,by (simp only [yE];try rfl),by (simp only [yE];try rfl),by omega,by simp;omega,?_⟩
     rw [hacc,HM,if_neg (by rw [hq];simp),if_pos hnl,hg,List.append_nil,Ap,Eo];simp
   ·have t2:AN (l.length:Nat) ((i+1:Nat):Int)=true:=AH (by omega)
    have hg:DS (l.drop (i+1))=[]:=by rw [List.drop_eq_nil_of_le (by omega)];rfl
    simp -implicitDefEqProofs only [↓yP,yT,s1,t2,w1]
    refine ⟨d - 1,[],by omega,by decide,AC _,i+1,acc++As r,by (simp only [yE];try rfl),by (simp only [yE];try rfl),by omega,by simp;omega,?_⟩
    rw [hacc,HM,if_neg (by rw [hq];simp),if_pos hnl,hg,List.append_nil,Ap,Eo];simp
  |false=>
   have hnl0:RC r=false:=by rw [RC,a3,a4,a5];rfl
   have s1:=BW acc (Ao r) (by omega)
   simp -implicitDefEqProofs only [↓yP,yT,a2,a3,a4,a5,s1,w1]
   refine ⟨d - 1,[],by omega,by decide,AC _,i+1,acc++Ao r,by (simp only [yE];try rfl),by (simp only [yE];try rfl),by omega,by simp;omega,?_⟩
   rw [hacc,HM,if_neg (by rw [hq];simp),if_neg (by rw [hnl0];simp),Ap,Aa,BD];simp
 ·have t1:AN (l.length:Nat) (i:Nat)=true:=AH (by omega)
  rw [List.drop_eq_nil_of_le (by omega),HM,BD,List.append_nil] at hacc
  have s1:=BW acc [q] (by simp;omega)
  have:enc (O2 q l)=acc++[q]:=by rw [O2,Aa,Ap,Aa,BD,hpq,←hacc];simp
  rw [this]
  simp -implicitDefEqProofs only [↓yP,yT,reduceCtorEq,t1,s1]
noncomputable def Zn (l:List Int):Int:=if (enc (O2 39 l)).length<(enc (O2 34 l)).length then 39 else 34
theorem Tq (l:List Int):Zn l=34∨Zn l=39:=by unfold Zn;split;exact .inr rfl;exact .inl rfl
theorem Mv (l:List Int) (hl:IM l) (hlen:l.length≤100000):AS C1 48 [yd (.string (AO (enc l)))] fun y=>y=yd (.string (AO (enc (O2 (Zn l) l)))):=by
 refine Pf (by rfl) (by rfl) pA (by rfl) ?_
 simp only [Try.f48,List.length_cons,List.length_nil,List.replicate,List.cons_append,List.nil_append]
 simp -implicitDefEqProofs only [↓yP,yT]
 refine AB (LI l hl hlen 34 (.inl rfl)) (by rfl) fun y hy=>?_
 subst hy
 simp -implicitDefEqProofs only [↓yP,yT]
 refine AB (LI l hl hlen 39 (.inr rfl)) (by rfl) fun y hy=>?_
 subst hy
 by_cases h:(enc (O2 39 l)).length<(enc (O2 34 l)).length
 ·have t1:AN ((enc (O2 34 l)).length:Nat) ((enc (O2 39 l)).length:Nat)=false:=AE (by omega)
  have e:Zn l=39:=by rw [Zn,if_pos h]
  rw [e]
  simp -implicitDefEqProofs only [↓yP,yT,reduceCtorEq,AY.eq_1,AW,t1]
 ·have t1:AN ((enc (O2 34 l)).length:Nat) ((enc (O2 39 l)).length:Nat)=true:=AH (by omega)
  have e:Zn l=34:=by rw [Zn,if_neg h]
  rw [e]
  simp -implicitDefEqProofs only [↓yP,yT,reduceCtorEq,AY.eq_1,AW,t1]
end Go.Vx.Seat
end
section
open Go Go.Vx Go.Proofs
set_option maxRecDepth 10000
set_option maxHeartbeats 8000000
namespace Go.Vx.Seat
attribute [local irreducible] Rg Rt Ro Ri Rc Ds Dt Dw Dx Rw Rl Rd Av An kf
theorem pD:By C1.P.funcs.toList 53=some Try.f53:=by kernel_rfl
def U5:List Int→Bool
 |a::b::t=>(AJ a 101||AJ a 69)&&(AL b||(match t with|c::_=>AJ b 45&&AL c|[]=>false))
 |_=>false
def HL (l:List Int):List Int:=if U5 l=true then As (l.headD 0)++[32]++DL false l.tail else DL true l
theorem QV (q:Bool) {r:Int} (h:Cn r):(enc (Km q r)).length≤11:=by
 unfold Km
 split
 ·rw [BX h,List.length_append];have:=DU h;simp;omega
 ·split
  ·have:=(Bx [r]).2;simp at this;omega
  ·have:=(Bx [92,r]).2;simp at this;omega
theorem Nl:∀(l:List Int),IM l→(enc (KX l)).length≤11*l.length
 |[],_=>by simp [KX,enc]
 |r::l,h=>by
  rw [KX,Ap,List.length_append,List.length_cons]
  have:=QV false (h r (List.mem_cons_self ..))
  have:=Nl l fun x hx=>h x (List.mem_cons_of_mem _ hx)
  omega
theorem G2 (first:Bool) (l:List Int) (h:IM l):(enc (DL first l)).length≤11*l.length:=by
 cases first with
 |false=>exact Nl l h
 |true=>
  cases l with
  |nil=>exact Nat.le_refl _
  |cons r l=>
   have h1:=QV true (h r (List.mem_cons_self ..))
   cases l with
   |nil=>
    simp only [DL]
    split
    ·show 2≤11;omega
    ·simp;omega
   |cons s l=>
    simp only [DL]
    rw [Ap,Ap,List.length_append,List.length_append,List.length_cons,List.length_cons]
    have:=QV (AJ r 45) (h s (by simp))
    have:=Nl l fun x hx=>h x (by simp [hx])
    omega
theorem XR (l:List Int) (hl:IM l) (hlen:l.length≤100000):AS C1 53 [yd (.string (AO (enc l)))] fun y=>y=yd (.string (AO (enc (HL l)))):=by
 have hel:=(Bx l).2
 have hpt:=G3 (AO (enc l)) (by rw [AW];omega)
 rw [GY hl] at hpt
 refine Pf (by rfl) (by rfl) pD (by rfl) ?_
 simp only [Try.f53,List.length_cons,List.length_nil,List.replicate,List.cons_append,List.nil_append]
 simp -implicitDefEqProofs only [↓yP,yT]
 refine AB hpt (by rfl) fun y hy=>?_
 subst hy
 by_cases h1:1<l.length
 ·have t1:AN (l.length:Nat) 1=false:=AE (by omega)
  obtain ⟨a,b,t,hlt⟩:∃a b t,l=a::b::t:=by
   cases l with
   |nil=>simp at h1
   |cons a l=>
    cases l with
    |nil=>simp at h1
    |cons b t=>exact ⟨a,b,t,rfl⟩
  have g0:(l.map ei)[0]?=some (ei a):=by rw [hlt];rfl
  have z1:(0:Int)≤1:=by omega
  have z2:(0:Int)≤2:=by omega
  have g1:(l.map ei)[Int.toNat 1]?=some (ei b):=by rw [hlt];rfl
  cases k1:AJ a 101 with
  |true=>
   have ha:a=101∨a=69:=.inl (AQ k1)
   have hae:(AJ a 101||AJ a 69)=true:=by rw [k1];rfl
   simp -implicitDefEqProofs only [↓yP,yT,t1,g0,g1,ei,k1,z1]
   refine AB (Be b) (by rfl) fun y hy=>?_
   subst hy
   cases m1:AL b with
   |true=>
    have hx:U5 l=true:=by rw [hlt];show ((AJ a 101||AJ a 69)&&(AL b||_))=true;rw [hae,m1];rfl
    have hpa:Ao a=[a]:=by rcases ha with rfl|rfl<;>decide
    have hun:HL l=As a++[32]++DL false (b::t):=by rw [HL,if_pos hx,hlt];rfl
    have hra:=hl a (by rw [hlt];simp)
    have hna:=DU hra
    have hlb:IM (b::t):=fun x hx=>hl x (by rw [hlt];exact List.mem_cons_of_mem _ hx)
    have hcut:AI (((AA (AO (enc l))).drop 1).take ((AA (AO (enc l))).length - 1))=AO (enc (b::t)):=by
     rw [List.take_of_length_le (by rw [List.length_drop];exact Nat.le_refl _),hlt,Aa,hpa];rfl
    have c1:(1:Int)≤((AA (AO (enc l))).length:Nat):=by rw [AW];have:=(Bx l).1;omega
    have c0:(0:Int)≤1:=by omega
    have i1:Int.toNat 1=1:=rfl
    have s1:=BW (As a) [32] (by simp;omega)
    have hsr:=(G2 false (b::t) hlb)
    have hll:(b::t).length≤100000:=by rw [hlt] at hlen;simp at hlen ⊢;omega
    have s2:=BW (As a++[32]) (enc (DL false (b::t))) (by simp only [List.length_append,List.length_cons,List.length_nil] at hll hsr ⊢;omega)
    rw [hun,Ap,BX hra]
    simp -implicitDefEqProofs only [↓yP,yT]
    refine A8 (by rw [C5];kernel_rfl) ?_
    simp -implicitDefEqProofs only [↓yP,yT,g0,ei]
    refine AB (EU hra) (by rfl) fun y hy=>?_
    subst hy
    simp -implicitDefEqProofs only [yT,Aw.eq_1,Mx,s1,c1,c0,i1,hcut]
    refine AB (Fa (b::t) hlb hll) (by rfl) fun y hy=>?_
    subst hy
    simp -implicitDefEqProofs only [↓yP,yT,reduceCtorEq,s2]
   |false=>
   by_cases h2:2<l.length
   ·have t2:AN (l.length:Nat) 2=false:=AE (by omega)
    obtain ⟨c,t',htc⟩:∃c t',t=c::t':=by cases t with|nil=>rw [hlt] at h2;simp at h2|cons c t'=>exact ⟨c,t',rfl⟩
    have gc:(l.map ei)[Int.toNat 2]?=some (ei c):=by rw [hlt,htc];rfl
    cases m2:AJ b 45 with
    |false=>
     have hx:U5 l=false:=by rw [hlt,htc];show ((AJ a 101||AJ a 69)&&(AL b||(AJ b 45&&AL c)))=false;rw [hae,m1,m2];rfl
     have hun:HL l=DL true l:=by rw [HL,if_neg (by rw [hx];simp)]
     rw [hun]
     simp -implicitDefEqProofs only [↓yP,yT,t2,g1,ei,m2,z1]
     refine AB (CG l hl hlen) (by rfl) fun y hy=>?_
     subst hy
     simp -implicitDefEqProofs only [↓yP,yT,reduceCtorEq]
    |true=>
     simp -implicitDefEqProofs only [yT,t2,g1,ei,m2,gc,z1,z2]
     refine AB (Be c) (by rfl) fun y hy=>?_
     subst hy
     cases m3:AL c with
     |true=>
      have hx:U5 l=true:=by rw [hlt,htc];show ((AJ a 101||AJ a 69)&&(AL b||(AJ b 45&&AL c)))=true;rw [hae,m1,m2,m3];rfl
      have hpa:Ao a=[a]:=by rcases ha with rfl|rfl<;>decide
      have hun:HL l=As a++[32]++DL false (b::t):=by rw [HL,if_pos hx,hlt];rfl
      have hra:=hl a (by rw [hlt];simp)
      have hna:=DU hra
      have hlb:IM (b::t):=fun x hx=>hl x (by rw [hlt];exact List.mem_cons_of_mem _ hx)
      have hcut:AI (((AA (AO (enc l))).drop 1).take ((AA (AO (enc l))).length - 1))=AO (enc (b::t)):=by
       rw [List.take_of_length_le (by rw [List.length_drop];exact Nat.le_refl _),hlt,Aa,hpa];rfl
      have c1:(1:Int)≤((AA (AO (enc l))).length:Nat):=by rw [AW];have:=(Bx l).1;omega
      have c0:(0:Int)≤1:=by omega
      have i1:Int.toNat 1=1:=rfl
      have s1:=BW (As a) [32] (by simp;omega)
      have hsr:=(G2 false (b::t) hlb)
      have hll:(b::t).length≤100000:=by rw [hlt] at hlen;simp at hlen ⊢;omega
      have s2:=BW (As a++[32]) (enc (DL false (b::t))) (by simp only [List.length_append,List.length_cons,List.length_nil] at hll hsr ⊢;omega)
      rw [hun,Ap,BX hra]
      simp -implicitDefEqProofs only [↓yP,yT]
      refine A8 (by rw [C5];kernel_rfl) ?_
      simp -implicitDefEqProofs only [↓yP,yT,g0,ei]
      refine AB (EU hra) (by rfl) fun y hy=>?_
      subst hy
      simp -implicitDefEqProofs only [yT,Aw.eq_1,Mx,s1,c1,c0,i1,hcut]
      refine AB (Fa (b::t) hlb hll) (by rfl) fun y hy=>?_
      subst hy
      simp -implicitDefEqProofs only [↓yP,yT,reduceCtorEq,s2]
     |false=>
      have hx:U5 l=false:=by rw [hlt,htc];show ((AJ a 101||AJ a 69)&&(AL b||(AJ b 45&&AL c)))=false;rw [hae,m1,m2,m3];rfl
      have hun:HL l=DL true l:=by rw [HL,if_neg (by rw [hx];simp)]
      rw [hun]
      simp -implicitDefEqProofs only [↓yP,yT]
      refine AB (CG l hl hlen) (by rfl) fun y hy=>?_
      subst hy
      simp -implicitDefEqProofs only [↓yP,yT,reduceCtorEq]
   ·have t2:AN (l.length:Nat) 2=true:=AH (by omega)
    have ht:t=[]:=by cases t with|nil=>rfl|cons c t'=>rw [hlt] at h2;simp at h2
    have hx:U5 l=false:=by rw [hlt,ht];show ((AJ a 101||AJ a 69)&&(AL b||false))=false;rw [hae,m1];rfl
    have hun:HL l=DL true l:=by rw [HL,if_neg (by rw [hx];simp)]
    rw [hun]
    simp -implicitDefEqProofs only [↓yP,yT,t2]
    refine AB (CG l hl hlen) (by rfl) fun y hy=>?_
    subst hy
    simp -implicitDefEqProofs only [↓yP,yT,reduceCtorEq]
  |false=>
  cases k2:AJ a 69 with
  |true=>
   have ha:a=101∨a=69:=.inr (AQ k2)
   have hae:(AJ a 101||AJ a 69)=true:=by rw [k1,k2];rfl
   simp -implicitDefEqProofs only [↓yP,yT,t1,g0,g1,ei,k1,k2,z1]
   refine AB (Be b) (by rfl) fun y hy=>?_
   subst hy
   cases m1:AL b with
   |true=>
    have hx:U5 l=true:=by rw [hlt];show ((AJ a 101||AJ a 69)&&(AL b||_))=true;rw [hae,m1];rfl
    have hpa:Ao a=[a]:=by rcases ha with rfl|rfl<;>decide
    have hun:HL l=As a++[32]++DL false (b::t):=by rw [HL,if_pos hx,hlt];rfl
    have hra:=hl a (by rw [hlt];simp)
    have hna:=DU hra
    have hlb:IM (b::t):=fun x hx=>hl x (by rw [hlt];exact List.mem_cons_of_mem _ hx)
    have hcut:AI (((AA (AO (enc l))).drop 1).take ((AA (AO (enc l))).length - 1))=AO (enc (b::t)):=by
     rw [List.take_of_length_le (by rw [List.length_drop];exact Nat.le_refl _),hlt,Aa,hpa];rfl
    have c1:(1:Int)≤((AA (AO (enc l))).length:Nat):=by rw [AW];have:=(Bx l).1;omega
    have c0:(0:Int)≤1:=by omega
    have i1:Int.toNat 1=1:=rfl
    have s1:=BW (As a) [32] (by simp;omega)
    have hsr:=(G2 false (b::t) hlb)
    have hll:(b::t).length≤100000:=by rw [hlt] at hlen;simp at hlen ⊢;omega
    have s2:=BW (As a++[32]) (enc (DL false (b::t))) (by simp only [List.length_append,List.length_cons,List.length_nil] at hll hsr ⊢;omega)
    rw [hun,Ap,BX hra]
    simp -implicitDefEqProofs only [↓yP,yT]
    refine A8 (by rw [C5];kernel_rfl) ?_
    simp -implicitDefEqProofs only [↓yP,yT,g0,ei]
    refine AB (EU hra) (by rfl) fun y hy=>?_
    subst hy
    simp -implicitDefEqProofs only [yT,Aw.eq_1,Mx,s1,c1,c0,i1,hcut]
    refine AB (Fa (b::t) hlb hll) (by rfl) fun y hy=>?_
    subst hy
    simp -implicitDefEqProofs only [↓yP,yT,reduceCtorEq,s2]
   |false=>
   by_cases h2:2<l.length
   ·have t2:AN (l.length:Nat) 2=false:=AE (by omega)
    obtain ⟨c,t',htc⟩:∃c t',t=c::t':=by cases t with|nil=>rw [hlt] at h2;simp at h2|cons c t'=>exact ⟨c,t',rfl⟩
    have gc:(l.map ei)[Int.toNat 2]?=some (ei c):=by rw [hlt,htc];rfl
    cases m2:AJ b 45 with
    |false=>
     have hx:U5 l=false:=by rw [hlt,htc];show ((AJ a 101||AJ a 69)&&(AL b||(AJ b 45&&AL c)))=false;rw [hae,m1,m2];rfl
     have hun:HL l=DL true l:=by rw [HL,if_neg (by rw [hx];simp)]
     rw [hun]
     simp -implicitDefEqProofs only [↓yP,yT,t2,g1,ei,m2,z1]
     refine AB (CG l hl hlen) (by rfl) fun y hy=>?_
     subst hy
     simp -implicitDefEqProofs only [↓yP,yT,reduceCtorEq]
    |true=>
     simp -implicitDefEqProofs only [yT,t2,g1,ei,m2,gc,z1,z2]
     refine AB (Be c) (by rfl) fun y hy=>?_
     subst hy
     cases m3:AL c with
     |true=>
      have hx:U5 l=true:=by rw [hlt,htc];show ((AJ a 101||AJ a 69)&&(AL b||(AJ b 45&&AL c)))=true;rw [hae,m1,m2,m3];rfl
      have hpa:Ao a=[a]:=by rcases ha with rfl|rfl<;>decide
      have hun:HL l=As a++[32]++DL false (b::t):=by rw [HL,if_pos hx,hlt];rfl
      have hra:=hl a (by rw [hlt];simp)
      have hna:=DU hra
      have hlb:IM (b::t):=fun x hx=>hl x (by rw [hlt];exact List.mem_cons_of_mem _ hx)
      have hcut:AI (((AA (AO (enc l))).drop 1).take ((AA (AO (enc l))).length - 1))=AO (enc (b::t)):=by
       rw [List.take_of_length_le (by rw [List.length_drop];exact Nat.le_refl _),hlt,Aa,hpa];rfl
      have c1:(1:Int)≤((AA (AO (enc l))).length:Nat):=by rw [AW];have:=(Bx l).1;omega
      have c0:(0:Int)≤1:=by omega
      have i1:Int.toNat 1=1:=rfl
      have s1:=BW (As a) [32] (by simp;omega)
      have hsr:=(G2 false (b::t) hlb)
      have hll:(b::t).length≤100000:=by rw [hlt] at hlen;simp at hlen ⊢;omega
      have s2:=BW (As a++[32]) (enc (DL false (b::t))) (by simp only [List.length_append,List.length_cons,List.length_nil] at hll hsr ⊢;omega)
      rw [hun,Ap,BX hra]
      simp -implicitDefEqProofs only [↓yP,yT]
      refine A8 (by rw [C5];kernel_rfl) ?_
      simp -implicitDefEqProofs only [↓yP,yT,g0,ei]
      refine AB (EU hra) (by rfl) fun y hy=>?_
      subst hy
      simp -implicitDefEqProofs only [yT,Aw.eq_1,Mx,s1,c1,c0,i1,hcut]
      refine AB (Fa (b::t) hlb hll) (by rfl) fun y hy=>?_
      subst hy
      simp -implicitDefEqProofs only [↓yP,yT,reduceCtorEq,s2]
     |false=>
      have hx:U5 l=false:=by rw [hlt,htc];show ((AJ a 101||AJ a 69)&&(AL b||(AJ b 45&&AL c)))=false;rw [hae,m1,m2,m3];rfl
      have hun:HL l=DL true l:=by rw [HL,if_neg (by rw [hx];simp)]
      rw [hun]
      simp -implicitDefEqProofs only [↓yP,yT]
      refine AB (CG l hl hlen) (by rfl) fun y hy=>?_
      subst hy
      simp -implicitDefEqProofs only [↓yP,yT,reduceCtorEq]
   ·have t2:AN (l.length:Nat) 2=true:=AH (by omega)
    have ht:t=[]:=by cases t with|nil=>rfl|cons c t'=>rw [hlt] at h2;simp at h2
    have hx:U5 l=false:=by rw [hlt,ht];show ((AJ a 101||AJ a 69)&&(AL b||false))=false;rw [hae,m1];rfl
    have hun:HL l=DL true l:=by rw [HL,if_neg (by rw [hx];simp)]
    rw [hun]
    simp -implicitDefEqProofs only [↓yP,yT,t2]
    refine AB (CG l hl hlen) (by rfl) fun y hy=>?_
    subst hy
    simp -implicitDefEqProofs only [↓yP,yT,reduceCtorEq]
  |false=>
   have hx:U5 l=false:=by rw [hlt];show ((AJ a 101||AJ a 69)&&_)=false;rw [k1,k2];rfl
   have hun:HL l=DL true l:=by rw [HL,if_neg (by rw [hx];simp)]
   rw [hun]
   simp -implicitDefEqProofs only [↓yP,yT,t1,g0,ei,k1,k2]
   refine AB (CG l hl hlen) (by rfl) fun y hy=>?_
   subst hy
   simp -implicitDefEqProofs only [↓yP,yT,reduceCtorEq]
 ·have t1:AN (l.length:Nat) 1=true:=AH (by omega)
  have hx:U5 l=false:=by
   cases l with
   |nil=>rfl
   |cons a l=>
    cases l with
    |nil=>rfl
    |cons b t=>simp at h1
  have hun:HL l=DL true l:=by rw [HL,if_neg (by rw [hx];simp)]
  rw [hun]
  simp -implicitDefEqProofs only [↓yP,yT,t1]
  refine AB (CG l hl hlen) (by rfl) fun y hy=>?_
  subst hy
  simp -implicitDefEqProofs only [↓yP,yT,reduceCtorEq]
end Go.Vx.Seat
end
section
open Go Go.Vx Go.Proofs
namespace Go.Vx.Seat
def dv (c:UInt8):Int:=((c.toNat:Nat):Int) - 48
def val (l:List UInt8):Int:=l.foldl (fun v c=>10*v+dv c) 0
def JM (l:List UInt8):Prop:=∀c,c∈l→48≤c.toNat∧c.toNat≤57
theorem Ic (l:List UInt8) (c:UInt8):val (l++[c])=10*val l+dv c:=by simp [val]
def lv:List UInt8→Int
 |[]=>0
 |c::l=>dv c+10*lv l
theorem eO (l:List UInt8):val l.reverse=lv l:=by
 induction l with
 |nil=>rfl
 |cons c l ih=>rw [List.reverse_cons,Ic,ih,lv];omega
theorem Gv (l:List UInt8) (c:UInt8):lv (l++[c])=lv l+dv c*10 ^ l.length:=by
 induction l with
 |nil=>simp [lv]
 |cons d l ih=>
  rw [List.cons_append,lv,lv,ih,List.length_cons,Int.pow_succ,Int.mul_add,←Int.mul_assoc]
  rw [show dv c*(10 ^ l.length*10)=10*dv c*10 ^ l.length by rw [←Int.mul_assoc,Int.mul_comm _ 10,Int.mul_assoc]]
  omega
theorem LJ (a b:List UInt8):val (a++b)=val a*10 ^ b.length+val b:=by
 rcases List.eq_nil_or_concat b with h|⟨p,c,h⟩
 ·rw [h];simp [val]
 ·rw [List.concat_eq_append] at h
  rw [h,←List.append_assoc,Ic,LJ a p,Ic,List.length_append,List.length_singleton,Int.pow_succ,←Int.mul_assoc]
  omega
termination_by b.length
decreasing_by rw [h];simp
theorem Tw {l:List UInt8} (h:JM l):0≤val l:=by
 rcases List.eq_nil_or_concat l with e|⟨p,c,e⟩
 ·rw [e];decide
 ·rw [List.concat_eq_append] at e
  rw [e,Ic]
  have h1:=Tw (l:=p) fun x hx=>h x (by rw [e];simp [hx])
  have h2:=h c (by rw [e];simp)
  unfold dv;omega
termination_by l.length
decreasing_by rw [e];simp
theorem cO {c:UInt8} {l:List UInt8} (h:JM (c::l)) (hc:c.toNat≠48):1≤val (c::l):=by
 have h0:=h c (List.mem_cons_self ..)
 have e:val (c::l)=dv c*10 ^ l.length+val l:=by
  have:=LJ [c] l
  rw [show [c]++l=c::l from rfl] at this
  rw [this]
  congr 2
  simp [val]
 have h1:=Tw (l:=l) fun x hx=>h x (List.mem_cons_of_mem _ hx)
 have h2:1≤dv c:=by unfold dv;omega
 have h3:(0:Int)<10 ^ l.length:=Int.pow_pos (by omega)
 have h4:1*10 ^ l.length≤dv c*10 ^ l.length:=Int.mul_le_mul_of_nonneg_right h2 (by omega)
 rw [e];omega
theorem Y1 {E:List UInt8} {c:UInt8} {l:List UInt8} (hE:JM E) (h:JM (c::l)) (hc:c.toNat≠48):val E<val (E++c::l):=by
 rw [LJ]
 have h1:=cO h hc
 have h2:=Tw hE
 have h3:(1:Int)≤10 ^ (c::l).length:=Int.pow_pos (n:=10) (m:=(c::l).length) (by omega)
 have h4:val E*1≤val E*10 ^ (c::l).length:=Int.mul_le_mul_of_nonneg_left h3 h2
 omega
def FA (l:List UInt8):Int:=match l with|45::t=> - val t|l=>val l
theorem FR (l:List UInt8):FA (45::l)= - val l:=rfl
theorem Ov {l:List UInt8} (h:∀c,l[0]?=some c→c.toNat≠45):FA l=val l:=by
 cases l with
 |nil=>rfl
 |cons a t=>
  have h1:=h a rfl
  unfold FA
  split
  ·rename_i h2;cases h2;exact absurd rfl h1
  ·rfl
theorem E6 {l:List UInt8} (h:JM l):FA l=val l:=Ov fun c hc=>by
 have:=h c (List.mem_of_getElem? hc);omega
def vI (l:List UInt8):Nat→Int
 |0=>0
 |i+1=>vI l i+Cs l i*10 ^ i
theorem aI {l:List UInt8} (h:JM l) {i:Nat} (hi:i<l.length):∃c,l[l.length - 1 - i]?=some c∧Cs l i=dv c∧0≤dv c∧dv c≤9:=by
 obtain ⟨c,hc⟩:=get_lt (show l.length - 1 - i<l.length by omega)
 have hcd:=h c (List.mem_of_getElem? hc)
 refine ⟨c,hc,?_,by unfold dv;omega,by unfold dv;omega⟩
 unfold Cs
 rw [if_neg (by omega),hc,Option.getD_some]
 have hx:∀n:Nat,48≤n→n≤57→AG .i64 (AG .u8 (((n:Nat):Int) - 48))=((n:Nat):Int) - 48:=fun n h1 h2=>by
  have:n=48∨n=49∨n=50∨n=51∨n=52∨n=53∨n=54∨n=55∨n=56∨n=57:=by omega
  rcases this with e|e|e|e|e|e|e|e|e|e<;>(subst e;decide)
 exact hx c.toNat hcd.1 hcd.2
theorem WE {l:List UInt8} {i:Nat} (hi:l.length≤i):Cs l i=0:=by unfold Cs;rw [if_pos hi]
theorem VP {l:List UInt8} (h:JM l):∀i,i≤l.length→vI l i=val (l.drop (l.length - i))
 |0,_=>by rw [Nat.sub_zero,List.drop_eq_nil_of_le (by omega)];rfl
 |i+1,hi=>by
  obtain ⟨c,hc,e1,_,_⟩:=aI h (i:=i) (by omega)
  rw [vI,VP h i (by omega),e1,Ly (by omega) hc]
  have:=LJ [c] (l.drop (l.length - i))
  rw [show [c]++l.drop (l.length - i)=c::l.drop (l.length - i) from rfl] at this
  rw [this,List.length_drop,show l.length - (l.length - i)=i by omega,show val [c]=dv c by simp [val]]
  omega
theorem Ob {l:List UInt8} (h:JM l):∀n,l.length≤n→vI l n=val l
 |0,hn=>by
  have:l=[]:=List.eq_nil_of_length_eq_zero (by omega)
  subst this;rfl
 |n+1,hn=>by
  by_cases k:l.length≤n
  ·rw [vI,Ob h n k,WE k];omega
  ·rw [show n+1=l.length by omega,VP h _ (Nat.le_refl _),Nat.sub_self,List.drop_zero]
theorem ZH:∀{l:List UInt8} {n:Nat},n≤l.length→(∀c,c∈l.drop n→c.toNat=48)→lv (l.take n)=lv l
 |[],n,h,_=>by simp
 |c::l,0,h,h0=>by
  rw [List.take_zero]
  have h1:∀l:List UInt8,(∀c,c∈l→c.toNat=48)→lv l=0:=fun l=>by
   induction l with
   |nil=>intro _;rfl
   |cons d l ih=>
    intro h
    rw [lv,ih fun x hx=>h x (List.mem_cons_of_mem _ hx)]
    have:=h d (List.mem_cons_self ..)
    unfold dv;omega
  rw [h1 (c::l) h0];rfl
 |c::l,n+1,h,h0=>by
  rw [List.take_succ_cons,lv,lv,ZH (by simpa using h) (by simpa using h0)]
def zB (c:UInt8):Bool:=c==48
def IK (l:List UInt8):List UInt8:=l.dropWhile zB
def IO (l:List UInt8):List UInt8:=(l.reverse.dropWhile zB).reverse
def Ie (l:List UInt8):List UInt8:=IO (IK l)
theorem Ss (l:List UInt8):(IO l).length≤l.length:=by
 unfold IO
 rw [List.length_reverse]
 have:=(List.dropWhile_sublist (l:=l.reverse) zB).length_le
 rw [List.length_reverse] at this;exact this
theorem YF {a:List UInt8} {c:UInt8} {b:List UInt8} (hc:zB c=false):a.length+1≤(IO (a++c::b)).length:=by
 unfold IO
 rw [List.length_reverse,List.reverse_append,List.reverse_cons,List.append_assoc]
 have:∀l:List UInt8,a.length+1≤((l++([c]++a.reverse)).dropWhile zB).length:=fun l=>by
  induction l with
  |nil=>
   rw [List.nil_append,show [c]++a.reverse=c::a.reverse from rfl,List.dropWhile_cons_of_neg (by rw [hc];simp)]
   simp
  |cons d l ih=>
   rw [List.cons_append]
   by_cases k:zB d
   ·rw [List.dropWhile_cons_of_pos k];exact ih
   ·rw [List.dropWhile_cons_of_neg k];simp;omega
 exact this _
theorem Ws (a b:List UInt8) (c:UInt8) (hc:zB c=false):IK (a++c::b)=IK a++c::b:=by
 unfold IK
 induction a with
 |nil=>rw [List.nil_append,List.dropWhile_cons_of_neg (by rw [hc];simp)];rfl
 |cons d a ih=>
  rw [List.cons_append]
  by_cases k:zB d
  ·rw [List.dropWhile_cons_of_pos k,List.dropWhile_cons_of_pos k,ih]
  ·rw [List.dropWhile_cons_of_neg k,List.dropWhile_cons_of_neg k];rfl
theorem Ww (a b:List UInt8) (c:UInt8) (hc:zB c=false):Ie (a++c::b)≠Ie a:=by
 intro h
 have h1:=YF (a:=IK a) (b:=b) hc
 rw [←Ws a b c hc] at h1
 have h2:=Ss (IK a)
 have h3:=congrArg List.length h
 unfold Ie at h3
 omega
end Go.Vx.Seat
end
