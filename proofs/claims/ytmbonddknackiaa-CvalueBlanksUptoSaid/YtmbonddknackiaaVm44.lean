/- Texts joined: VyBp VyBq VzD7 VzD8 VzD9. -/
import Derived.Test.YtmbonddknackiaaVm43
import Derived.Test.YtmbonddknackiaaVm39
import Derived.Test.YtmbonddknackiaaVm40
set_option linter.unusedSimpArgs false
set_option linter.unusedVariables false
section
open Go Go.Vx Go.Proofs
set_option maxRecDepth 10000
set_option maxHeartbeats 4000000
namespace Go.Vx.Seat
attribute [local irreducible] Rg Rt Ro Ri Rc Ds Dt Dw Dx Rw Rl Rd Av An kf
def F5 (l:List UInt8):List Int:=l.map fun c=>((c.toNat:Nat):Int)
theorem Gt (l:List UInt8):(F5 l).length=l.length:=List.length_map ..
theorem VU {l:List UInt8} {i:Nat} {z:Int} (h:(F5 l)[i]?=some z):∃c,l[i]?=some c∧z=((c.toNat:Nat):Int):=by
 rw [F5,List.getElem?_map] at h
 obtain ⟨c,h1,h2⟩:=Option.map_eq_some_iff.mp h
 exact ⟨c,h1,h2.symm⟩
theorem RN (l:List UInt8):AA (AO (F5 l))=l:=by
 show (F5 l).map (fun n=>UInt8.ofNat n.toNat)=l
 rw [F5,List.map_map]
 conv=>rhs;rw [←List.map_id l]
 exact List.map_congr_left fun c _=>by simp
theorem JR {l:List UInt8} (h:JM l) (i:Nat):0≤Cs l i∧Cs l i≤9:=by
 by_cases k:i<l.length
 ·obtain ⟨c,_,e,h1,h2⟩:=aI h k;omega
 ·rw [WE (by omega)];omega
theorem I3 {bs:List Int} {ls:List UInt8} (hbs:bs=F5 ls) (hls:JM ls) {D B:Int} (h0:0≤D) (h1:D≤9) (hB:B=D):∃nc,bs++[AG .u8 (AG .u8 B+48)]=F5 (ls++[nc])∧JM (ls++[nc])∧dv nc=D:=by
 subst hB
 obtain ⟨n,rfl⟩:=Int.eq_ofNat_of_zero_le h0
 have hn:n<10:=by omega
 obtain ⟨nc,e1,e2,e3⟩:∃nc:UInt8,AG .u8 (AG .u8 ((n:Nat):Int)+48)=((nc.toNat:Nat):Int)∧nc.toNat=48+n∧dv nc=(n:Nat):=by
  have:n=0∨n=1∨n=2∨n=3∨n=4∨n=5∨n=6∨n=7∨n=8∨n=9:=by omega
  rcases this with rfl|rfl|rfl|rfl|rfl|rfl|rfl|rfl|rfl|rfl
  ·exact ⟨48,by decide,by decide,by decide⟩
  ·exact ⟨49,by decide,by decide,by decide⟩
  ·exact ⟨50,by decide,by decide,by decide⟩
  ·exact ⟨51,by decide,by decide,by decide⟩
  ·exact ⟨52,by decide,by decide,by decide⟩
  ·exact ⟨53,by decide,by decide,by decide⟩
  ·exact ⟨54,by decide,by decide,by decide⟩
  ·exact ⟨55,by decide,by decide,by decide⟩
  ·exact ⟨56,by decide,by decide,by decide⟩
  ·exact ⟨57,by decide,by decide,by decide⟩
 refine ⟨nc,by rw [hbs,e1];simp [F5],fun c hc=>?_,e3⟩
 rcases List.mem_append.mp hc with h|h
 ·exact hls c h
 ·rw [List.mem_singleton.mp h];omega
theorem ME {p va vb c da db x T:Int} (hx:da+db+c=x) (hv:p+c*T=va+vb):p+x*T+0*(T*10)=va+da*T+(vb+db*T):=by
 subst hx;simp only [Int.add_mul,Int.zero_mul];omega
theorem MF {p va vb c da db x T:Int} (hx:da+db+c=x) (hv:p+c*T=va+vb):p+(x - 10)*T+1*(T*10)=va+da*T+(vb+db*T):=by
 subst hx;simp only [Int.add_mul,Int.sub_mul,Int.one_mul];omega
theorem XU {p va vb c da db x T:Int} (hx:da - db - c=x) (hv:p - c*T=va - vb):p+x*T - 0*(T*10)=va+da*T - (vb+db*T):=by
 subst hx;simp only [Int.sub_mul,Int.zero_mul];omega
theorem XE {p va vb c da db x T:Int} (hx:da - db - c=x) (hv:p - c*T=va - vb):p+(x+10)*T - 1*(T*10)=va+da*T - (vb+db*T):=by
 subst hx;simp only [Int.add_mul,Int.sub_mul,Int.one_mul];omega
theorem S1 {bs:List Int} {ls:List UInt8} {n:Nat} {z:Int} (hbs:bs=F5 ls) (hn2:n≤bs.length) (hn3:1≤n) (hn4:∀c,c∈ls.drop n→c.toNat=48) (hz:bs[n - 1]?=some z) (h:z=48):∀c,c∈ls.drop (n - 1)→c.toNat=48:=by
 subst hbs
 obtain ⟨c0,h1,h2⟩:=VU hz
 obtain ⟨h3,h4⟩:=List.getElem?_eq_some_iff.mp h1
 intro c hc
 rw [List.drop_eq_getElem_cons h3,h4,show n - 1+1=n by omega] at hc
 rcases List.mem_cons.mp hc with rfl|hc
 ·omega
 ·exact hn4 c hc
theorem K2 {bs:List Int} {ls:List UInt8} {os:List Int} {n j:Nat} {z:Int} (hbs:bs=F5 ls) (hj:j+1≤n) (h:os=F5 ((ls.take n).drop (j+1)).reverse) (hz:bs[j]?=some z):os++[z]=F5 ((ls.take n).drop j).reverse:=by
 subst hbs
 obtain ⟨c0,h1,h2⟩:=VU hz
 have h3:(ls.take n)[j]?=some c0:=by rw [List.getElem?_take_of_lt (by omega)];exact h1
 obtain ⟨h4,h5⟩:=List.getElem?_eq_some_iff.mp h3
 rw [List.drop_eq_getElem_cons h4,h5,List.reverse_cons,h,h2]
 simp [F5]
def dZ (v:Int) (m:Nat) (s:ByteArray):Prop:=val (AA s)=v∧Dg (AA s)∧(AA s).length≤m
theorem M7 {bs:List Int} {ls:List UInt8} {os:List Int} {n m:Nat} {v:Int} (hbs:bs=F5 ls) (hn2:n≤bs.length) (hn3:1≤n) (hn4:∀c,c∈ls.drop n→c.toNat=48) (h:os=F5 ((ls.take n).drop 0).reverse) (hls:JM ls) (hval:lv ls=v∧bs.length≤m):dZ v m (AO os):=by
 subst hbs
 rw [Gt] at hn2 hval
 rw [List.drop_zero] at h
 subst h
 unfold dZ
 rw [RN,eO,ZH hn2 hn4]
 refine ⟨hval.1,⟨?_,fun c hc=>hls c (List.mem_of_mem_take (List.mem_reverse.mp hc))⟩,?_⟩
 ·intro e
  have:=congrArg List.length e
  rw [List.length_reverse,List.length_take,List.length_nil] at this;omega
 ·have:=hval.2
  rw [List.length_reverse,List.length_take];omega
theorem IN (a b:ByteArray) (M:Nat) (ha:(AA a).length≤M) (hb:(AA b).length≤M) (hm:M≤12000000000) (hA:JM (AA a)) (hB:JM (AA b)) (ha0:AA a≠[]):AS C1 113 [yd (.string a),yd (.string b),yd (.bool false)] fun y=>∃s:ByteArray,y=yd (.string s)∧dZ (val (AA a)+val (AA b)) (M+1) s:=by
 refine Pf (by rfl) (by rfl) WW (by rfl) ?_
 simp only [Try.f113,List.length_cons,List.length_nil,List.replicate,List.cons_append,List.nil_append]
 simp -implicitDefEqProofs only [↓yP,yT]
 refine Cb 7 1 (by decide) rfl ?_
 refine Ah (fun d e s=>∃(i:Nat) (c:Int) (bs:List Int),e=([yd (.string a),yd (.string b),yd (.bool false),Tp,Tp,Tp,Tp,.c (.own 0 1 0 bs.length),yd (.int .i64 c),yd (.int .i64 (i:Nat)),Tp,Tp,Tp,Tp,Tp,Tp,Tp,Tp,Tp,Tp,Tp,Tp,Tp,Tp,Tp,Tp,Tp,Tp,Tp,Tp,Tp,Tp,Tp,Tp,Tp,Tp,Tp,Tp,Tp,Tp,Tp,Tp,Tp,Tp,Tp,Tp,Tp,Tp,Tp,Tp,Tp,Tp,Tp,Tp,Tp,Tp,Tp,Tp,Tp,Tp,Tp,Tp,Tp,Tp,Tp,Tp,Tp,Tp,Tp,Tp,Tp,Tp,Tp,Tp,Tp,Tp,Tp,Tp,Tp,Tp,Tp,Tp,Tp,Tp,Tp,Tp,Tp,Tp,Tp,Tp,Tp,Tp])∧s=[.row 1 (bs.map eb)]∧bs.length=i∧i+d=M+1∧((c=0∨c=1)∧(M<i→c=0))∧∃ls:List UInt8,bs=F5 ls∧JM ls∧lv ls+c*10 ^ i=vI (AA a) i+vI (AA b) i) [true,true,true,false,false,false,false,true,true,true] (M+1) [0] (by decide) (AC _) ⟨0,0,[],by (simp only [yE];try rfl),by (simp only [yE];try rfl),rfl,by omega,⟨.inl rfl,fun h=>by omega⟩,[],rfl,fun c h=>by simp at h,by rfl⟩ ?_
 rintro d e s ⟨i,c,bs,rfl,rfl,hbl,hd,⟨hc,hcM⟩,ls,hbs,hls,hv⟩
 have hll:ls.length=i:=by rw [←hbl,hbs,Gt]
 by_cases g1:i<(AA a).length
 ·have t1:AN ((AA a).length:Nat) (i:Nat)=false:=AE (by omega)
  simp -implicitDefEqProofs only [↓yP,yT,AY.eq_1,t1]
  refine AB (BL a i (by omega) (by omega)) (by rfl) fun y hy=>?_
  subst hy
  simp -implicitDefEqProofs only [yT]
  refine AB (BL b i (by omega) (by omega)) (by rfl) fun y hy=>?_
  subst hy
  have da:=JR hA i
  have db:=JR hB i
  have u1:AG .i64 (Cs (AA a) i+Cs (AA b) i)=Cs (AA a) i+Cs (AA b) i:=Au (by omega) (by omega)
  have u2:AG .i64 (Cs (AA a) i+Cs (AA b) i+c)=Cs (AA a) i+Cs (AA b) i+c:=Au (by omega) (by omega)
  simp -implicitDefEqProofs only [↓yP,yT,u1,u2]
  clear u1 u2
  have hx0:0≤Cs (AA a) i+Cs (AA b) i+c:=by omega
  have hx1:Cs (AA a) i+Cs (AA b) i+c≤19:=by omega
  generalize hx:Cs (AA a) i+Cs (AA b) i+c=x at hx0 hx1 ⊢
  have w1:AG .i64 ((i:Int)+1)=((i+1:Nat):Int):=AK (by omega)
  have b1:(bs.length+1)*1≤70368744177664:=by omega
  by_cases g9:x≤9
  ·have h1:AN x 9=true:=AH g9
   have h2:AN 0 x=true:=AH hx0
   simp -implicitDefEqProofs only [↓yP,yT,Nat.reduceAdd,Nat.reduceMul,Nat.reduceLeDiff,h1,h2,w1,b1]
   obtain ⟨nc,k1,k2,k3⟩:=I3 hbs hls (D:=x) (B:=x) (by omega) (by omega) rfl
   refine ⟨d - 1,[2],by omega,by decide,AC _,i+1,0,bs++[AG .u8 (AG .u8 (x)+48)],by (simp only [yE];try rfl),by simp only [yE,List.map_append];rfl,by simp;omega,by omega,?_,ls++[nc],k1,k2,(by rw [Gv,k3,hll,vI,vI,Int.pow_succ];exact ME hx hv)⟩
   refine ⟨by decide,fun hM=>?_⟩
   have dga:=Bg (l:=AA a) (i:=i) (by omega)
   have dgb:=Bg (l:=AA b) (i:=i) (by omega)
   first
   |rfl
   |(exfalso;omega)
  ·have h1:AN x 9=false:=AE g9
   have w10:AG .i64 (x - 10)=x - 10:=Au (by omega) (by omega)
   have h3:AN 0 (AG .i64 (x - 10))=true:=by rw [w10];exact AH (by omega)
   simp -implicitDefEqProofs only [↓yP,yT,Nat.reduceAdd,Nat.reduceMul,Nat.reduceLeDiff,h1,h3,w1,b1]
   obtain ⟨nc,k1,k2,k3⟩:=I3 hbs hls (D:=x - 10) (B:=AG .i64 (x - 10)) (by omega) (by omega) w10
   refine ⟨d - 1,[2],by omega,by decide,AC _,i+1,1,bs++[AG .u8 (AG .u8 (AG .i64 (x - 10))+48)],by (simp only [yE];try rfl),by simp only [yE,List.map_append];rfl,by simp;omega,by omega,?_,ls++[nc],k1,k2,(by rw [Gv,k3,hll,vI,vI,Int.pow_succ];exact MF hx hv)⟩
   refine ⟨by decide,fun hM=>?_⟩
   have dga:=Bg (l:=AA a) (i:=i) (by omega)
   have dgb:=Bg (l:=AA b) (i:=i) (by omega)
   first
   |rfl
   |(exfalso;omega)
 ·have t1:AN ((AA a).length:Nat) (i:Nat)=true:=AH (by omega)
  by_cases g2:i<(AA b).length
  ·have t2:AN ((AA b).length:Nat) (i:Nat)=false:=AE (by omega)
   simp -implicitDefEqProofs only [↓yP,yT,AY.eq_1,t1,t2]
   refine AB (BL a i (by omega) (by omega)) (by rfl) fun y hy=>?_
   subst hy
   simp -implicitDefEqProofs only [yT]
   refine AB (BL b i (by omega) (by omega)) (by rfl) fun y hy=>?_
   subst hy
   have da:=JR hA i
   have db:=JR hB i
   have u1:AG .i64 (Cs (AA a) i+Cs (AA b) i)=Cs (AA a) i+Cs (AA b) i:=Au (by omega) (by omega)
   have u2:AG .i64 (Cs (AA a) i+Cs (AA b) i+c)=Cs (AA a) i+Cs (AA b) i+c:=Au (by omega) (by omega)
   simp -implicitDefEqProofs only [↓yP,yT,u1,u2]
   clear u1 u2
   have hx0:0≤Cs (AA a) i+Cs (AA b) i+c:=by omega
   have hx1:Cs (AA a) i+Cs (AA b) i+c≤19:=by omega
   generalize hx:Cs (AA a) i+Cs (AA b) i+c=x at hx0 hx1 ⊢
   have w1:AG .i64 ((i:Int)+1)=((i+1:Nat):Int):=AK (by omega)
   have b1:(bs.length+1)*1≤70368744177664:=by omega
   by_cases g9:x≤9
   ·have h1:AN x 9=true:=AH g9
    have h2:AN 0 x=true:=AH hx0
    simp -implicitDefEqProofs only [↓yP,yT,Nat.reduceAdd,Nat.reduceMul,Nat.reduceLeDiff,h1,h2,w1,b1]
    obtain ⟨nc,k1,k2,k3⟩:=I3 hbs hls (D:=x) (B:=x) (by omega) (by omega) rfl
    refine ⟨d - 1,[2],by omega,by decide,AC _,i+1,0,bs++[AG .u8 (AG .u8 (x)+48)],by (simp only [yE];try rfl),by simp only [yE,List.map_append];rfl,by simp;omega,by omega,?_,ls++[nc],k1,k2,(by rw [Gv,k3,hll,vI,vI,Int.pow_succ];exact ME hx hv)⟩
    refine ⟨by decide,fun hM=>?_⟩
    have dga:=Bg (l:=AA a) (i:=i) (by omega)
    have dgb:=Bg (l:=AA b) (i:=i) (by omega)
    first
    |rfl
    |(exfalso;omega)
   ·have h1:AN x 9=false:=AE g9
    have w10:AG .i64 (x - 10)=x - 10:=Au (by omega) (by omega)
    have h3:AN 0 (AG .i64 (x - 10))=true:=by rw [w10];exact AH (by omega)
    simp -implicitDefEqProofs only [↓yP,yT,Nat.reduceAdd,Nat.reduceMul,Nat.reduceLeDiff,h1,h3,w1,b1]
    obtain ⟨nc,k1,k2,k3⟩:=I3 hbs hls (D:=x - 10) (B:=AG .i64 (x - 10)) (by omega) (by omega) w10
    refine ⟨d - 1,[2],by omega,by decide,AC _,i+1,1,bs++[AG .u8 (AG .u8 (AG .i64 (x - 10))+48)],by (simp only [yE];try rfl),by simp only [yE,List.map_append];rfl,by simp;omega,by omega,?_,ls++[nc],k1,k2,(by rw [Gv,k3,hll,vI,vI,Int.pow_succ];exact MF hx hv)⟩
    refine ⟨by decide,fun hM=>?_⟩
    have dga:=Bg (l:=AA a) (i:=i) (by omega)
    have dgb:=Bg (l:=AA b) (i:=i) (by omega)
    first
    |rfl
    |(exfalso;omega)
  ·have t2:AN ((AA b).length:Nat) (i:Nat)=true:=AH (by omega)
   by_cases g3:c=0
   ·have t3:AN c 0=true:=AH (by omega)
    have hpos:1≤bs.length:=by have:=List.length_pos_iff.mpr ha0;omega
    have hval:lv ls=val (AA a)+val (AA b)∧bs.length≤M+1:=by
     rw [Ob hA i (by omega),Ob hB i (by omega),g3,Int.zero_mul] at hv
     exact ⟨by omega,by omega⟩
    simp -implicitDefEqProofs only [↓yP,yT,AY.eq_1,t1,t2,t3]
    refine Ah (fun d e s=>∃n:Nat,e=[Tp,Tp,Tp,Tp,Tp,Tp,Tp,.c (.own 0 1 0 bs.length),Tp,Tp,Tp,yd (.int .i64 (n:Nat)),Tp,Tp,Tp,Tp,Tp,Tp,Tp,Tp,Tp,Tp,Tp,Tp,Tp,Tp,Tp,Tp,Tp,Tp,Tp,Tp,Tp,Tp,Tp,Tp,Tp,Tp,Tp,Tp,Tp,Tp,Tp,Tp,Tp,Tp,Tp,Tp,Tp,Tp,Tp,Tp,Tp,Tp,Tp,Tp,Tp,Tp,Tp,Tp,Tp,Tp,Tp,Tp,Tp,Tp,Tp,Tp,Tp,Tp,Tp,Tp,Tp,Tp,Tp,Tp,Tp,Tp,Tp,Tp,Tp,Tp,Tp,Tp,Tp,Tp,Tp,Tp,Tp,Tp,Tp,Tp]∧s=[.row 1 (bs.map eb)]∧n=d∧n≤bs.length∧1≤n∧∀c,c∈ls.drop n→c.toNat=48) [false,false,false,false,false,false,false,true,false,false,false,true] bs.length [0] (by decide) (AC _) ⟨bs.length,by (simp only [yE];try rfl),by (simp only [yE];try rfl),rfl,by omega,hpos,by rw [hbs,Gt,List.drop_eq_nil_of_le (Nat.le_refl _)];intro c hc;simp at hc⟩ ?_
    rintro d1 e s ⟨n,rfl,rfl,hn1,hn2,hn3,hn4⟩
    by_cases h1n:1<n
    ·have t5:AN (n:Nat) 1=false:=AE (by omega)
     have w5:AG .i64 ((n:Int) - 1)=((n - 1:Nat):Int):=Bq (by omega) (by omega)
     have c5:(0:Int)≤((n - 1:Nat):Int):=by omega
     have c6:((n - 1:Nat):Int)<(bs.length:Nat):=by omega
     obtain ⟨z,hz⟩:=get_lt (show n - 1<bs.length by omega)
     cases h5:AJ z 48 with
     |true=>
      simp -implicitDefEqProofs only [↓yP,yT,t5,w5,c5,c6,C4 hz,h5]
      refine ⟨d1 - 1,[0],by omega,by decide,AC _,n - 1,by (simp only [yE];try rfl),by (simp only [yE];try rfl),by omega,by omega,by omega,S1 hbs hn2 hn3 hn4 hz (AQ h5)⟩
     |false=>
      simp -implicitDefEqProofs only [↓yP,yT,t5,w5,c5,c6,C4 hz,h5]
      refine Cb 12 1 (by decide) rfl ?_
      refine Ah (fun d e s=>∃(j:Nat) (os:List Int),e=[Tp,Tp,Tp,Tp,Tp,Tp,Tp,.c (.own 0 1 0 bs.length),Tp,Tp,Tp,Tp,.c (.own 1 1 0 os.length),yd (.int .i64 ((j:Int) - 1)),Tp,Tp,Tp,Tp,Tp,Tp,Tp,Tp,Tp,Tp,Tp,Tp,Tp,Tp,Tp,Tp,Tp,Tp,Tp,Tp,Tp,Tp,Tp,Tp,Tp,Tp,Tp,Tp,Tp,Tp,Tp,Tp,Tp,Tp,Tp,Tp,Tp,Tp,Tp,Tp,Tp,Tp,Tp,Tp,Tp,Tp,Tp,Tp,Tp,Tp,Tp,Tp,Tp,Tp,Tp,Tp,Tp,Tp,Tp,Tp,Tp,Tp,Tp,Tp,Tp,Tp,Tp,Tp,Tp,Tp,Tp,Tp,Tp,Tp,Tp,Tp,Tp,Tp]∧s=[.row 1 (bs.map eb),.row 1 (os.map eb)]∧j=d∧j≤bs.length∧os.length+j=n∧os=F5 ((ls.take n).drop j).reverse) [false,false,false,false,false,false,false,true,false,false,false,false,true,true] n [0,1] (by decide) (AC _) ⟨n,[],by first|(simp only [yE];done)|(simp only [yE];rfl)|(rw [show ((n - 1:Nat):Int)=(n:Int) - 1 by omega];simp only [yE];rfl),by (simp only [yE];try rfl),rfl,by omega,by simp,by rw [List.drop_eq_nil_of_le (by simp;omega)];rfl⟩ ?_
      rintro d2 e s ⟨j,os,rfl,rfl,hj1,hj2,hj3,hj4⟩
      cases j with
      |zero=>
       have t6:AN 0 (((0:Nat):Int) - 1)=false:=AE (by omega)
       simp -implicitDefEqProofs only [↓yP,yT,reduceCtorEq,t6,A6,Ar]
       exact ⟨AO os,rfl,M7 hbs hn2 hn3 hn4 hj4 hls hval⟩
      |succ j=>
       have e7:((j+1:Nat):Int) - 1=(j:Nat):=by omega
       have t6:AN 0 (j:Nat)=true:=AH (by omega)
       have c7:(0:Int)≤(j:Nat):=by omega
       have c8:((j:Nat):Int)<(bs.length:Nat):=by omega
       have w8:AG .i64 ((j:Int) - 1)=(j:Int) - 1:=Au (by omega) (by omega)
       have b8:(os.length+1)*1≤70368744177664:=by omega
       obtain ⟨z8,hz8⟩:=get_lt (show j<bs.length by omega)
       rw [e7]
       simp -implicitDefEqProofs only [↓yP,yT,Nat.reduceAdd,Nat.reduceMul,Nat.reduceLeDiff,t6,c7,c8,w8,b8,C4 hz8]
       refine ⟨d2 - 1,[0,3],by omega,by decide,AC _,j,os++[z8],by (simp only [yE,reduceCtorEq];try rfl),?_,by omega,by omega,by simp;omega,K2 hbs (by omega) hj4 hz8⟩
       simp only [yE,List.map_append];rfl
    ·have t5:AN (n:Nat) 1=true:=AH (by omega)
     have w5:AG .i64 ((n:Int) - 1)=(n:Int) - 1:=Au (by omega) (by omega)
     simp -implicitDefEqProofs only [↓yP,yT,t5,w5]
     refine Cb 12 1 (by decide) rfl ?_
     refine Ah (fun d e s=>∃(j:Nat) (os:List Int),e=[Tp,Tp,Tp,Tp,Tp,Tp,Tp,.c (.own 0 1 0 bs.length),Tp,Tp,Tp,Tp,.c (.own 1 1 0 os.length),yd (.int .i64 ((j:Int) - 1)),Tp,Tp,Tp,Tp,Tp,Tp,Tp,Tp,Tp,Tp,Tp,Tp,Tp,Tp,Tp,Tp,Tp,Tp,Tp,Tp,Tp,Tp,Tp,Tp,Tp,Tp,Tp,Tp,Tp,Tp,Tp,Tp,Tp,Tp,Tp,Tp,Tp,Tp,Tp,Tp,Tp,Tp,Tp,Tp,Tp,Tp,Tp,Tp,Tp,Tp,Tp,Tp,Tp,Tp,Tp,Tp,Tp,Tp,Tp,Tp,Tp,Tp,Tp,Tp,Tp,Tp,Tp,Tp,Tp,Tp,Tp,Tp,Tp,Tp,Tp,Tp,Tp,Tp]∧s=[.row 1 (bs.map eb),.row 1 (os.map eb)]∧j=d∧j≤bs.length∧os.length+j=n∧os=F5 ((ls.take n).drop j).reverse) [false,false,false,false,false,false,false,true,false,false,false,false,true,true] n [0,1] (by decide) (AC _) ⟨n,[],by first|(simp only [yE];done)|(simp only [yE];rfl)|(rw [show ((n - 1:Nat):Int)=(n:Int) - 1 by omega];simp only [yE,Nat.reduceEqDiff,Nat.reduceAdd,reduceCtorEq];rfl),by (simp only [yE];try rfl),rfl,by omega,by simp,by rw [List.drop_eq_nil_of_le (by simp;omega)];rfl⟩ ?_
     rintro d2 e s ⟨j,os,rfl,rfl,hj1,hj2,hj3,hj4⟩
     cases j with
     |zero=>
      have t6:AN 0 (((0:Nat):Int) - 1)=false:=AE (by omega)
      simp -implicitDefEqProofs only [↓yP,yT,reduceCtorEq,t6,A6,Ar]
      exact ⟨AO os,rfl,M7 hbs hn2 hn3 hn4 hj4 hls hval⟩
     |succ j=>
      have e7:((j+1:Nat):Int) - 1=(j:Nat):=by omega
      have t6:AN 0 (j:Nat)=true:=AH (by omega)
      have c7:(0:Int)≤(j:Nat):=by omega
      have c8:((j:Nat):Int)<(bs.length:Nat):=by omega
      have w8:AG .i64 ((j:Int) - 1)=(j:Int) - 1:=Au (by omega) (by omega)
      have b8:(os.length+1)*1≤70368744177664:=by omega
      obtain ⟨z8,hz8⟩:=get_lt (show j<bs.length by omega)
      rw [e7]
      simp -implicitDefEqProofs only [↓yP,yT,Nat.reduceAdd,Nat.reduceMul,Nat.reduceLeDiff,t6,c7,c8,w8,b8,C4 hz8]
      refine ⟨d2 - 1,[0,3],by omega,by decide,AC _,j,os++[z8],by (simp only [yE,reduceCtorEq];try rfl),?_,by omega,by omega,by simp;omega,K2 hbs (by omega) hj4 hz8⟩
      simp only [yE,List.map_append];rfl
   ·have t3:AN c 0=false:=AE (by rcases hc with e|e<;>omega)
    have hiM:i≤M:=Nat.le_of_not_lt fun h=>g3 (hcM h)
    simp -implicitDefEqProofs only [↓yP,yT,AY.eq_1,t1,t2,t3]
    refine AB (BL a i (by omega) (by omega)) (by rfl) fun y hy=>?_
    subst hy
    simp -implicitDefEqProofs only [yT]
    refine AB (BL b i (by omega) (by omega)) (by rfl) fun y hy=>?_
    subst hy
    have da:=JR hA i
    have db:=JR hB i
    have u1:AG .i64 (Cs (AA a) i+Cs (AA b) i)=Cs (AA a) i+Cs (AA b) i:=Au (by omega) (by omega)
    have u2:AG .i64 (Cs (AA a) i+Cs (AA b) i+c)=Cs (AA a) i+Cs (AA b) i+c:=Au (by omega) (by omega)
    simp -implicitDefEqProofs only [↓yP,yT,u1,u2]
    clear u1 u2
    have hx0:0≤Cs (AA a) i+Cs (AA b) i+c:=by omega
    have hx1:Cs (AA a) i+Cs (AA b) i+c≤19:=by omega
    generalize hx:Cs (AA a) i+Cs (AA b) i+c=x at hx0 hx1 ⊢
    have w1:AG .i64 ((i:Int)+1)=((i+1:Nat):Int):=AK (by omega)
    have b1:(bs.length+1)*1≤70368744177664:=by omega
    by_cases g9:x≤9
    ·have h1:AN x 9=true:=AH g9
     have h2:AN 0 x=true:=AH hx0
     simp -implicitDefEqProofs only [↓yP,yT,Nat.reduceAdd,Nat.reduceMul,Nat.reduceLeDiff,h1,h2,w1,b1]
     obtain ⟨nc,k1,k2,k3⟩:=I3 hbs hls (D:=x) (B:=x) (by omega) (by omega) rfl
     refine ⟨d - 1,[2],by omega,by decide,AC _,i+1,0,bs++[AG .u8 (AG .u8 (x)+48)],by (simp only [yE];try rfl),by simp only [yE,List.map_append];rfl,by simp;omega,by omega,?_,ls++[nc],k1,k2,(by rw [Gv,k3,hll,vI,vI,Int.pow_succ];exact ME hx hv)⟩
     refine ⟨by decide,fun hM=>?_⟩
     have dga:=Bg (l:=AA a) (i:=i) (by omega)
     have dgb:=Bg (l:=AA b) (i:=i) (by omega)
     first
     |rfl
     |(exfalso;omega)
    ·have h1:AN x 9=false:=AE g9
     have w10:AG .i64 (x - 10)=x - 10:=Au (by omega) (by omega)
     have h3:AN 0 (AG .i64 (x - 10))=true:=by rw [w10];exact AH (by omega)
     simp -implicitDefEqProofs only [↓yP,yT,Nat.reduceAdd,Nat.reduceMul,Nat.reduceLeDiff,h1,h3,w1,b1]
     obtain ⟨nc,k1,k2,k3⟩:=I3 hbs hls (D:=x - 10) (B:=AG .i64 (x - 10)) (by omega) (by omega) w10
     refine ⟨d - 1,[2],by omega,by decide,AC _,i+1,1,bs++[AG .u8 (AG .u8 (AG .i64 (x - 10))+48)],by (simp only [yE];try rfl),by simp only [yE,List.map_append];rfl,by simp;omega,by omega,?_,ls++[nc],k1,k2,(by rw [Gv,k3,hll,vI,vI,Int.pow_succ];exact MF hx hv)⟩
     refine ⟨by decide,fun hM=>?_⟩
     have dga:=Bg (l:=AA a) (i:=i) (by omega)
     have dgb:=Bg (l:=AA b) (i:=i) (by omega)
     first
     |rfl
     |(exfalso;omega)
theorem EY (a b:ByteArray) (ha:(AA a).length≤12000000000) (hA:Dg (AA a)) (hB:Dg (AA b)) (hz:m8 (AA a)) (hs:RR (AA a) (AA b)=false):AS C1 113 [yd (.string a),yd (.string b),yd (.bool true)] fun y=>∃s:ByteArray,y=yd (.string s)∧dZ (val (AA a) - val (AA b)) ((AA a).length+1) s:=by
 have hle:(AA b).length≤(AA a).length:=by
  simp only [RR,Bool.or_eq_false_iff,decide_eq_false_iff_not] at hs
  omega
 refine Pf (by rfl) (by rfl) WW (by rfl) ?_
 simp only [Try.f113,List.length_cons,List.length_nil,List.replicate,List.cons_append,List.nil_append]
 simp -implicitDefEqProofs only [↓yP,yT]
 refine Cb 7 1 (by decide) rfl ?_
 refine Ah (fun d e s=>∃(i:Nat) (c:Int) (bs:List Int),e=([yd (.string a),yd (.string b),yd (.bool true),Tp,Tp,Tp,Tp,.c (.own 0 1 0 bs.length),yd (.int .i64 c),yd (.int .i64 (i:Nat)),Tp,Tp,Tp,Tp,Tp,Tp,Tp,Tp,Tp,Tp,Tp,Tp,Tp,Tp,Tp,Tp,Tp,Tp,Tp,Tp,Tp,Tp,Tp,Tp,Tp,Tp,Tp,Tp,Tp,Tp,Tp,Tp,Tp,Tp,Tp,Tp,Tp,Tp,Tp,Tp,Tp,Tp,Tp,Tp,Tp,Tp,Tp,Tp,Tp,Tp,Tp,Tp,Tp,Tp,Tp,Tp,Tp,Tp,Tp,Tp,Tp,Tp,Tp,Tp,Tp,Tp,Tp,Tp,Tp,Tp,Tp,Tp,Tp,Tp,Tp,Tp,Tp,Tp,Tp,Tp,Tp,Tp])∧s=[.row 1 (bs.map eb)]∧bs.length=i∧i+d=(AA a).length∧SubInv (AA a) (AA b) i c∧∃ls:List UInt8,bs=F5 ls∧JM ls∧lv ls - c*10 ^ i=vI (AA a) i - vI (AA b) i) [true,true,true,false,false,false,false,true,true,true] (AA a).length [0] (by decide) (AC _) ⟨0,0,[],by (simp only [yE];try rfl),by (simp only [yE];try rfl),rfl,by omega,.start hA,[],rfl,fun c h=>by simp at h,by rfl⟩ ?_
 rintro d e s ⟨i,c,bs,rfl,rfl,hbl,hd,hinv,ls,hbs,hls,hv⟩
 have hll:ls.length=i:=by rw [←hbl,hbs,Gt]
 by_cases g1:i<(AA a).length
 ·have t1:AN ((AA a).length:Nat) (i:Nat)=false:=AE (by omega)
  obtain ⟨v1,v2,v3,v4,hstep⟩:=hinv.step hA hB hz hle g1
  simp -implicitDefEqProofs only [↓yP,yT,AY.eq_1,t1]
  refine AB (BL a i (by omega) (by omega)) (by rfl) fun y hy=>?_
  subst hy
  simp -implicitDefEqProofs only [yT]
  refine AB (BL b i (by omega) (by omega)) (by rfl) fun y hy=>?_
  subst hy
  simp -implicitDefEqProofs only [↓yP,yT]
  refine AB (BL a i (by omega) (by omega)) (by rfl) fun y hy=>?_
  subst hy
  simp -implicitDefEqProofs only [yT]
  refine AB (BL b i (by omega) (by omega)) (by rfl) fun y hy=>?_
  subst hy
  have u1:AG .i64 (Cs (AA a) i - Cs (AA b) i)=Cs (AA a) i - Cs (AA b) i:=Au (by omega) (by omega)
  have u2:AG .i64 (Cs (AA a) i - Cs (AA b) i - c)=Cs (AA a) i - Cs (AA b) i - c:=Au (by omega) (by omega)
  simp -implicitDefEqProofs only [↓yP,yT,u1,u2]
  clear u1 u2
  generalize hx:Cs (AA a) i - Cs (AA b) i - c=x at v1 v2 hstep ⊢
  have w1:AG .i64 ((i:Int)+1)=((i+1:Nat):Int):=AK (by omega)
  have b1:(bs.length+1)*1≤70368744177664:=by omega
  have h1:AN x 9=true:=AH v2
  by_cases g0:0≤x
  ·have h2:AN 0 x=true:=AH g0
   simp -implicitDefEqProofs only [↓yP,yT,Nat.reduceAdd,Nat.reduceMul,Nat.reduceLeDiff,h1,h2,w1,b1]
   obtain ⟨nc,k1,k2,k3⟩:=I3 hbs hls (D:=x) (B:=x) (by omega) (by omega) rfl
   refine ⟨d - 1,[2],by omega,by decide,AC _,i+1,0,bs++[AG .u8 (AG .u8 (x)+48)],by (simp only [yE];try rfl),by simp only [yE,List.map_append];rfl,by simp;omega,by omega,?_,ls++[nc],k1,k2,(by rw [Gv,k3,hll,vI,vI,Int.pow_succ];exact XU hx hv)⟩
   first
   |(rw [if_neg (by omega)] at hstep;exact hstep)
   |(rw [if_pos (by omega)] at hstep;exact hstep)
  ·have h2:AN 0 x=false:=AE g0
   have w10:AG .i64 (x+10)=x+10:=Au (by omega) (by omega)
   simp -implicitDefEqProofs only [↓yP,yT,Nat.reduceAdd,Nat.reduceMul,Nat.reduceLeDiff,h1,h2,w1,b1]
   obtain ⟨nc,k1,k2,k3⟩:=I3 hbs hls (D:=x+10) (B:=AG .i64 (x+10)) (by omega) (by omega) w10
   refine ⟨d - 1,[2],by omega,by decide,AC _,i+1,1,bs++[AG .u8 (AG .u8 (AG .i64 (x+10))+48)],by (simp only [yE];try rfl),by simp only [yE,List.map_append];rfl,by simp;omega,by omega,?_,ls++[nc],k1,k2,(by rw [Gv,k3,hll,vI,vI,Int.pow_succ];exact XE hx hv)⟩
   first
   |(rw [if_neg (by omega)] at hstep;exact hstep)
   |(rw [if_pos (by omega)] at hstep;exact hstep)
 ·have t1:AN ((AA a).length:Nat) (i:Nat)=true:=AH (by omega)
  have t2:AN ((AA b).length:Nat) (i:Nat)=true:=AH (by omega)
  have hi:i=(AA a).length:=by have:=hinv.le;omega
  have hc0:c=0:=by rw [hi] at hinv;exact hinv.end hs
  have t3:AN c 0=true:=AH (by omega)
  have hpos:1≤bs.length:=by have:=List.length_pos_iff.mpr hA.1;omega
  have hval:lv ls=val (AA a) - val (AA b)∧bs.length≤(AA a).length+1:=by
   rw [Ob hA.2 i (by omega),Ob hB.2 i (by omega),hc0,Int.zero_mul] at hv
   exact ⟨by omega,by omega⟩
  simp -implicitDefEqProofs only [↓yP,yT,AY.eq_1,t1,t2,t3]
  refine Ah (fun d e s=>∃n:Nat,e=[Tp,Tp,Tp,Tp,Tp,Tp,Tp,.c (.own 0 1 0 bs.length),Tp,Tp,Tp,yd (.int .i64 (n:Nat)),Tp,Tp,Tp,Tp,Tp,Tp,Tp,Tp,Tp,Tp,Tp,Tp,Tp,Tp,Tp,Tp,Tp,Tp,Tp,Tp,Tp,Tp,Tp,Tp,Tp,Tp,Tp,Tp,Tp,Tp,Tp,Tp,Tp,Tp,Tp,Tp,Tp,Tp,Tp,Tp,Tp,Tp,Tp,Tp,Tp,Tp,Tp,Tp,Tp,Tp,Tp,Tp,Tp,Tp,Tp,Tp,Tp,Tp,Tp,Tp,Tp,Tp,Tp,Tp,Tp,Tp,Tp,Tp,Tp,Tp,Tp,Tp,Tp,Tp,Tp,Tp,Tp,Tp,Tp,Tp]∧s=[.row 1 (bs.map eb)]∧n=d∧n≤bs.length∧1≤n∧∀c,c∈ls.drop n→c.toNat=48) [false,false,false,false,false,false,false,true,false,false,false,true] bs.length [0] (by decide) (AC _) ⟨bs.length,by (simp only [yE];try rfl),by (simp only [yE];try rfl),rfl,by omega,hpos,by rw [hbs,Gt,List.drop_eq_nil_of_le (Nat.le_refl _)];intro c hc;simp at hc⟩ ?_
  rintro d1 e s ⟨n,rfl,rfl,hn1,hn2,hn3,hn4⟩
  by_cases h1n:1<n
  ·have t5:AN (n:Nat) 1=false:=AE (by omega)
   have w5:AG .i64 ((n:Int) - 1)=((n - 1:Nat):Int):=Bq (by omega) (by omega)
   have c5:(0:Int)≤((n - 1:Nat):Int):=by omega
   have c6:((n - 1:Nat):Int)<(bs.length:Nat):=by omega
   obtain ⟨z,hz⟩:=get_lt (show n - 1<bs.length by omega)
   cases h5:AJ z 48 with
   |true=>
    simp -implicitDefEqProofs only [↓yP,yT,t5,w5,c5,c6,C4 hz,h5]
    refine ⟨d1 - 1,[0],by omega,by decide,AC _,n - 1,by (simp only [yE];try rfl),by (simp only [yE];try rfl),by omega,by omega,by omega,S1 hbs hn2 hn3 hn4 hz (AQ h5)⟩
   |false=>
    simp -implicitDefEqProofs only [↓yP,yT,t5,w5,c5,c6,C4 hz,h5]
    refine Cb 12 1 (by decide) rfl ?_
    refine Ah (fun d e s=>∃(j:Nat) (os:List Int),e=[Tp,Tp,Tp,Tp,Tp,Tp,Tp,.c (.own 0 1 0 bs.length),Tp,Tp,Tp,Tp,.c (.own 1 1 0 os.length),yd (.int .i64 ((j:Int) - 1)),Tp,Tp,Tp,Tp,Tp,Tp,Tp,Tp,Tp,Tp,Tp,Tp,Tp,Tp,Tp,Tp,Tp,Tp,Tp,Tp,Tp,Tp,Tp,Tp,Tp,Tp,Tp,Tp,Tp,Tp,Tp,Tp,Tp,Tp,Tp,Tp,Tp,Tp,Tp,Tp,Tp,Tp,Tp,Tp,Tp,Tp,Tp,Tp,Tp,Tp,Tp,Tp,Tp,Tp,Tp,Tp,Tp,Tp,Tp,Tp,Tp,Tp,Tp,Tp,Tp,Tp,Tp,Tp,Tp,Tp,Tp,Tp,Tp,Tp,Tp,Tp,Tp,Tp]∧s=[.row 1 (bs.map eb),.row 1 (os.map eb)]∧j=d∧j≤bs.length∧os.length+j=n∧os=F5 ((ls.take n).drop j).reverse) [false,false,false,false,false,false,false,true,false,false,false,false,true,true] n [0,1] (by decide) (AC _) ⟨n,[],by first|(simp only [yE];done)|(simp only [yE];rfl)|(rw [show ((n - 1:Nat):Int)=(n:Int) - 1 by omega];simp only [yE];rfl),by (simp only [yE];try rfl),rfl,by omega,by simp,by rw [List.drop_eq_nil_of_le (by simp;omega)];rfl⟩ ?_
    rintro d2 e s ⟨j,os,rfl,rfl,hj1,hj2,hj3,hj4⟩
    cases j with
    |zero=>
     have t6:AN 0 (((0:Nat):Int) - 1)=false:=AE (by omega)
     simp -implicitDefEqProofs only [↓yP,yT,reduceCtorEq,t6,A6,Ar]
     exact ⟨AO os,rfl,M7 hbs hn2 hn3 hn4 hj4 hls hval⟩
    |succ j=>
     have e7:((j+1:Nat):Int) - 1=(j:Nat):=by omega
     have t6:AN 0 (j:Nat)=true:=AH (by omega)
     have c7:(0:Int)≤(j:Nat):=by omega
     have c8:((j:Nat):Int)<(bs.length:Nat):=by omega
     have w8:AG .i64 ((j:Int) - 1)=(j:Int) - 1:=Au (by omega) (by omega)
     have b8:(os.length+1)*1≤70368744177664:=by omega
     obtain ⟨z8,hz8⟩:=get_lt (show j<bs.length by omega)
     rw [e7]
     simp -implicitDefEqProofs only [↓yP,yT,Nat.reduceAdd,Nat.reduceMul,Nat.reduceLeDiff,t6,c7,c8,w8,b8,C4 hz8]
     refine ⟨d2 - 1,[0,3],by omega,by decide,AC _,j,os++[z8],by (simp only [yE,reduceCtorEq];try rfl),?_,by omega,by omega,by simp;omega,K2 hbs (by omega) hj4 hz8⟩
     simp only [yE,List.map_append];rfl
  ·have t5:AN (n:Nat) 1=true:=AH (by omega)
   have w5:AG .i64 ((n:Int) - 1)=(n:Int) - 1:=Au (by omega) (by omega)
   simp -implicitDefEqProofs only [↓yP,yT,t5,w5]
   refine Cb 12 1 (by decide) rfl ?_
   refine Ah (fun d e s=>∃(j:Nat) (os:List Int),e=[Tp,Tp,Tp,Tp,Tp,Tp,Tp,.c (.own 0 1 0 bs.length),Tp,Tp,Tp,Tp,.c (.own 1 1 0 os.length),yd (.int .i64 ((j:Int) - 1)),Tp,Tp,Tp,Tp,Tp,Tp,Tp,Tp,Tp,Tp,Tp,Tp,Tp,Tp,Tp,Tp,Tp,Tp,Tp,Tp,Tp,Tp,Tp,Tp,Tp,Tp,Tp,Tp,Tp,Tp,Tp,Tp,Tp,Tp,Tp,Tp,Tp,Tp,Tp,Tp,Tp,Tp,Tp,Tp,Tp,Tp,Tp,Tp,Tp,Tp,Tp,Tp,Tp,Tp,Tp,Tp,Tp,Tp,Tp,Tp,Tp,Tp,Tp,Tp,Tp,Tp,Tp,Tp,Tp,Tp,Tp,Tp,Tp,Tp,Tp,Tp,Tp,Tp]∧s=[.row 1 (bs.map eb),.row 1 (os.map eb)]∧j=d∧j≤bs.length∧os.length+j=n∧os=F5 ((ls.take n).drop j).reverse) [false,false,false,false,false,false,false,true,false,false,false,false,true,true] n [0,1] (by decide) (AC _) ⟨n,[],by first|(simp only [yE];done)|(simp only [yE];rfl)|(rw [show ((n - 1:Nat):Int)=(n:Int) - 1 by omega];simp only [yE,Nat.reduceEqDiff,Nat.reduceAdd,reduceCtorEq];rfl),by (simp only [yE];try rfl),rfl,by omega,by simp,by rw [List.drop_eq_nil_of_le (by simp;omega)];rfl⟩ ?_
   rintro d2 e s ⟨j,os,rfl,rfl,hj1,hj2,hj3,hj4⟩
   cases j with
   |zero=>
    have t6:AN 0 (((0:Nat):Int) - 1)=false:=AE (by omega)
    simp -implicitDefEqProofs only [↓yP,yT,reduceCtorEq,t6,A6,Ar]
    exact ⟨AO os,rfl,M7 hbs hn2 hn3 hn4 hj4 hls hval⟩
   |succ j=>
    have e7:((j+1:Nat):Int) - 1=(j:Nat):=by omega
    have t6:AN 0 (j:Nat)=true:=AH (by omega)
    have c7:(0:Int)≤(j:Nat):=by omega
    have c8:((j:Nat):Int)<(bs.length:Nat):=by omega
    have w8:AG .i64 ((j:Int) - 1)=(j:Int) - 1:=Au (by omega) (by omega)
    have b8:(os.length+1)*1≤70368744177664:=by omega
    obtain ⟨z8,hz8⟩:=get_lt (show j<bs.length by omega)
    rw [e7]
    simp -implicitDefEqProofs only [↓yP,yT,Nat.reduceAdd,Nat.reduceMul,Nat.reduceLeDiff,t6,c7,c8,w8,b8,C4 hz8]
    refine ⟨d2 - 1,[0,3],by omega,by decide,AC _,j,os++[z8],by (simp only [yE,reduceCtorEq];try rfl),?_,by omega,by omega,by simp;omega,K2 hbs (by omega) hj4 hz8⟩
    simp only [yE,List.map_append];rfl
end Go.Vx.Seat
end
section
open Go Go.Vx Go.Proofs
set_option maxRecDepth 10000
set_option maxHeartbeats 4000000
namespace Go.Vx.Seat
attribute [local irreducible] Rg Rt Ro Ri Rc Ds Dt Dw Dx Rw Rl Rd Av An kf
def bE (c:UInt8):Bool:=AN 48 ((c.toNat:Nat):Int)&&AN ((c.toNat:Nat):Int) 57
def LL (l:List UInt8):Nat:=(l.takeWhile bE).length
theorem cU (l:List UInt8):LL l≤l.length:=(List.takeWhile_sublist _).length_le
theorem XY (s:ByteArray) (i:Nat) (hs:(AA s).length≤20000000000) (hi:i≤(AA s).length):AS C1 115 [yd (.string s),yd (.int .i64 (i:Nat))] fun y=>y=yd (.int .i64 ((i+LL ((AA s).drop i):Nat):Int)):=by
 have hle:=cU ((AA s).drop i)
 rw [List.length_drop] at hle
 refine Pf (by rfl) (by rfl) gO (by rfl) ?_
 simp only [Try.f115,List.length_cons,List.length_nil,List.replicate,List.cons_append,List.nil_append]
 simp -implicitDefEqProofs only [↓yP,yT]
 refine Ah (fun d e st=>∃(k:Nat),e=[yd (.string s),yd (.int .i64 (k:Nat)),Tp,Tp,Tp,Tp,Tp,Tp,Tp,Tp,Tp,Tp,Tp,Tp,Tp,Tp,Tp,Tp,Tp,Tp,Tp,Tp,Tp,Tp]∧st=[]∧k+d=(AA s).length∧i≤k∧i+LL ((AA s).drop i)=k+LL ((AA s).drop k)) [true,true] ((AA s).length - i) [] (by decide) (AC _) ⟨i,by (simp only [yE];try rfl),by (simp only [yE];try rfl),by omega,by omega,rfl⟩ ?_
 rintro d e st ⟨k,rfl,rfl,hd,hk,hr⟩
 by_cases hkl:k<(AA s).length
 ·obtain ⟨c,hc⟩:=get_lt hkl
  obtain ⟨g1,g2⟩:=List.getElem?_eq_some_iff.mp hc
  have hdrop:(AA s).drop k=c::(AA s).drop (k+1):=by rw [List.drop_eq_getElem_cons g1,g2]
  have t0:(0:Int)≤(k:Nat):=by omega
  have t1:AN ((AA s).length:Nat) (k:Nat)=false:=AE (by omega)
  have w1:AG .i64 ((k:Int)+1)=((k+1:Nat):Int):=AK (by omega)
  have stop:bE c=false→i+LL ((AA s).drop i)=k:=fun h=>by
   rw [hr,hdrop,LL,List.takeWhile_cons_of_neg (by rw [h];simp)];rfl
  cases h1:AN 48 (c.toNat:Nat) with
  |false=>
   have:=stop (by rw [bE,h1];rfl)
   rw [this]
   simp -implicitDefEqProofs only [↓yP,yT,reduceCtorEq,AY.eq_1,AV.eq_1,t0,t1,hc,h1]
  |true=>
   cases h2:AN (c.toNat:Nat) 57 with
   |false=>
    have:=stop (by rw [bE,h1,h2];rfl)
    rw [this]
    simp -implicitDefEqProofs only [↓yP,yT,reduceCtorEq,AY.eq_1,AV.eq_1,t0,t1,hc,h1,h2]
   |true=>
    simp -implicitDefEqProofs only [↓yP,yT,AY.eq_1,AV.eq_1,t0,t1,hc,h1,h2,w1]
    refine ⟨d - 1,[],by omega,by decide,AC _,k+1,by (simp only [yE];try rfl),rfl,by omega,by omega,?_⟩
    rw [hr,hdrop,LL,List.takeWhile_cons_of_pos (by rw [bE,h1,h2];rfl),List.length_cons,LL];omega
 ·have t1:AN ((AA s).length:Nat) (k:Nat)=true:=AH (by omega)
  have:i+LL ((AA s).drop i)=k:=by rw [hr,List.drop_eq_nil_of_le (by omega)];rfl
  rw [this]
  simp -implicitDefEqProofs only [↓yP,yT,reduceCtorEq,AY.eq_1,t1]
def DJ:List UInt8→List UInt8
 |c::d::l=>if AJ ((c.toNat:Nat):Int) 48=true then DJ (d::l) else c::d::l
 |l=>l
theorem NE:∀l:List UInt8,(DJ l).length≤l.length
 |[]=>by simp [DJ]
 |[c]=>by simp [DJ]
 |c::d::l=>by
  rw [DJ]
  split
  ·have:=NE (d::l);simp at this ⊢;omega
  ·exact Nat.le_refl _
theorem GT (s:ByteArray) (hs:(AA s).length≤20000000000):AS C1 116 [yd (.string s)] fun y=>y=yd (.string (AI (DJ (AA s)))):=by
 refine Pf (by rfl) (by rfl) gQ (by rfl) ?_
 simp only [Try.f116,List.length_cons,List.length_nil,List.replicate,List.cons_append,List.nil_append]
 simp -implicitDefEqProofs only [↓yP,yT]
 refine Ah (fun d e st=>∃(s':ByteArray),e=[yd (.string s'),Tp,Tp,Tp,Tp,Tp,Tp,Tp,Tp,Tp,Tp,Tp,Tp,Tp]∧st=[]∧d=(AA s').length∧(AA s').length≤(AA s).length∧DJ (AA s)=DJ (AA s')) [true] (AA s).length [] (by decide) (AC _) ⟨s,by (simp only [yE];try rfl),by (simp only [yE];try rfl),rfl,by omega,rfl⟩ ?_
 rintro d e st ⟨s',rfl,rfl,rfl,hk,hst⟩
 by_cases h1:1<(AA s').length
 ·have t1:AN ((AA s').length:Nat) 1=false:=AE (by omega)
  have t0:(0:Int)≤0:=by omega
  have t2:(1:Int)≤((AA s').length:Nat):=by omega
  have t3:(0:Int)≤1:=by omega
  obtain ⟨c,hc⟩:=get_lt (show 0<(AA s').length by omega)
  have h0:Int.toNat 0=0:=rfl
  have h1':Int.toNat 1=1:=rfl
  obtain ⟨c2,l2,hcl⟩:∃c2 l2,AA s'=c::c2::l2:=by
   cases hl:AA s' with
   |nil=>rw [hl] at h1;simp at h1
   |cons x l=>
    cases l with
    |nil=>rw [hl] at h1;simp at h1
    |cons y l=>rw [hl] at hc;simp at hc;exact ⟨y,l,by rw [hc]⟩
  cases h2:AJ (c.toNat:Nat) 48 with
  |false=>
   have:DJ (AA s)=AA s':=by rw [hst,hcl,DJ,h2,if_neg (by simp)]
   rw [this,Dn]
   simp -implicitDefEqProofs only [↓yP,yT,reduceCtorEq,AY.eq_1,AV.eq_1,t0,t1,h0,hc,h2]
  |true=>
   simp -implicitDefEqProofs only [↓yP,yT,AY.eq_1,AV.eq_1,Aw.eq_1,t0,t1,t2,t3,h0,h1',hc,h2]
   refine ⟨(AA s').length - 1,[],by omega,by decide,AC _,_,by (simp only [yE];try rfl),rfl,?_,?_,?_⟩
   ·simp [AD]
   ·simp [AD];omega
   ·rw [hst,AD,hcl,DJ,h2,if_pos rfl]
    simp
 ·have t1:AN ((AA s').length:Nat) 1=true:=AH (by omega)
  have:DJ (AA s)=AA s':=by
   rw [hst]
   cases hl:AA s' with
   |nil=>rfl
   |cons x l=>
    cases l with
    |nil=>rfl
    |cons y l=>rw [hl] at h1;simp at h1
  rw [this,Dn]
  simp -implicitDefEqProofs only [↓yP,yT,reduceCtorEq,AY.eq_1,t1]
theorem V7 (s:ByteArray) (hs:(AA s).length≤20000000000) (h:Dg (AA s)):AS C1 93 [yd (.string s)] fun y=>y=yd (.bool true):=by
 refine Pf (by rfl) (by rfl) l9 (by rfl) ?_
 simp only [Try.f93,List.length_cons,List.length_nil,List.replicate,List.cons_append,List.nil_append]
 simp -implicitDefEqProofs only [↓yP,yT]
 refine Ah (fun d e st=>∃(i:Nat),e=[yd (.string s),Tp,Tp,yd (.int .i64 (i:Nat)),Tp,Tp,Tp,Tp,Tp,Tp,Tp,Tp,Tp,Tp,Tp,Tp,Tp,Tp,Tp,Tp,Tp,Tp]∧st=[]∧i+d=(AA s).length) [true,false,false,true] (AA s).length [] (by decide) (AC _) ⟨0,by (simp only [yE];try rfl),by (simp only [yE];try rfl),by omega⟩ ?_
 rintro d e st ⟨k,rfl,rfl,hd⟩
 by_cases hkl:k<(AA s).length
 ·obtain ⟨c,hc⟩:=get_lt hkl
  have hcd:=h.2 c (List.mem_of_getElem? hc)
  have t0:(0:Int)≤(k:Nat):=by omega
  have t1:AN ((AA s).length:Nat) (k:Nat)=false:=AE (by omega)
  have w1:AG .i64 ((k:Int)+1)=((k+1:Nat):Int):=AK (by omega)
  have h1:AN 48 (c.toNat:Nat)=true:=AH (by omega)
  have h2:AN (c.toNat:Nat) 57=true:=AH (by omega)
  simp -implicitDefEqProofs only [↓yP,yT,AY.eq_1,AV.eq_1,t0,t1,hc,h1,h2,w1]
  refine ⟨d - 1,[],by omega,by decide,AC _,k+1,by (simp only [yE];try rfl),rfl,by omega⟩
 ·have t1:AN ((AA s).length:Nat) (k:Nat)=true:=AH (by omega)
  have hne:(AA s==AA ⟨#[]⟩)=false:=by rw [beq_eq_false_iff_ne];intro e;exact h.1 (by rw [e];rfl)
  simp -implicitDefEqProofs only [↓yP,yT,reduceCtorEq,AY.eq_1,t1,AU,hne]
def If (l:List UInt8):Prop:=l=[48]∨(Dg (DO l)∧∀c,(DO l)[0]?=some c→c.toNat≠48)
theorem E4 {l:List UInt8} (h:JM l):DO l=l:=Ed fun c hc=>by have:=h c (List.mem_of_getElem? hc);omega
theorem If.ne {l:List UInt8} (h:If l):l≠[]:=by
 rintro rfl
 rcases h with h|h
 ·cases h
 ·exact h.1.1 rfl
theorem If.dg {l:List UInt8} (h:If l):Dg (DO l)∧m8 (DO l):=by
 rcases h with rfl|h
 ·exact ⟨⟨by simp [DO],by simp [DO]⟩,.inl rfl⟩
 ·exact ⟨h.1,.inr h.2⟩
theorem EX {l:List UInt8} (h:l≠[]):FA l=if (l[0]?.map fun c=>AJ ((c.toNat:Nat):Int) 45)=some true then - val (DO l) else val (DO l):=by
 cases l with
 |nil=>exact absurd rfl h
 |cons c t=>
  cases k:AJ ((c.toNat:Nat):Int) 45 with
  |true=>
   have hc:c=45:=by rw [←UInt8.toNat_inj];have:=AQ k;exact (by omega:c.toNat=45)
   subst hc
   rw [if_pos (by rfl)];rfl
  |false=>
   have hc:=A7 k
   rw [if_neg (by simp [k]),Ov (fun d hd e=>by simp at hd;subst hd;omega),Ed (fun d hd e=>by simp at hd;subst hd;omega)]
theorem QF (s:ByteArray) (hs:(AA s).length≤20000000000) (h:If (AA s)):AS C1 94 [yd (.string s)] fun y=>y=yd (.bool true):=by
 have t00:(0:Int)≤0:=by omega
 have i00:Int.toNat 0=0:=rfl
 have i01:Int.toNat 1=1:=rfl
 refine Pf (by rfl) (by rfl) iR (by rfl) ?_
 simp only [Try.f94,List.length_cons,List.length_nil,List.replicate,List.cons_append,List.nil_append]
 cases h1:(AA s==AA ⟨#[48]⟩) with
 |true=>
  simp -implicitDefEqProofs only [↓yP,yT,reduceCtorEq,At,h1]
 |false=>
  have h':Dg (DO (AA s))∧∀c,(DO (AA s))[0]?=some c→c.toNat≠48:=by
   rcases h with h|h
   ·rw [h] at h1;exact absurd h1 (by decide)
   ·exact h
  have h2:0<(AA s).length:=List.length_pos_iff.mpr h.ne
  obtain ⟨c,hc⟩:=get_lt h2
  have t1:AN ((AA s).length:Nat) 0=false:=AE (by omega)
  have t2:(1:Int)≤((AA s).length:Nat):=by omega
  have t3:(0:Int)≤1:=by omega
  cases h3:AJ (c.toNat:Nat) 45 with
  |true=>
   have hun:=GR hc (by have:=AQ h3;omega)
   have htk:((AA s).drop 1).take ((AA s).length - 1)=(AA s).drop 1:=List.take_of_length_le (by simp)
   rw [hun] at h'
   obtain ⟨hdg,hno⟩:=h'
   obtain ⟨z,hz⟩:∃z,((AA s).drop 1)[0]?=some z:=get_lt (List.length_pos_iff.mpr hdg.1)
   have h5:AJ (z.toNat:Nat) 48=false:=AF (by have:=hno z hz;omega)
   simp -implicitDefEqProofs only [↓yP,yT,AY.eq_1,AV.eq_1,Aw.eq_1,At,h1,t1,t00,t2,t3,i00,i01,hc,h3,htk]
   refine AB (V7 _ (by first|assumption|(simp [AD];omega)) (by rw [AD];exact hdg)) (by rfl) fun y hy=>?_
   subst hy
   simp -implicitDefEqProofs only [↓yP,yT,reduceCtorEq,AV.eq_1,AD,t00,i00,hz,h5]
  |false=>
   have hun:=Ed (l:=AA s) (fun c' hc' h=>by rw [hc] at hc';cases hc';exact A7 h3 (by omega))
   rw [hun] at h'
   obtain ⟨hdg,hno⟩:=h'
   obtain ⟨z,hz⟩:∃z,(AA s)[0]?=some z:=⟨c,hc⟩
   have h5:AJ (z.toNat:Nat) 48=false:=AF (by have:=hno z hz;omega)
   simp -implicitDefEqProofs only [↓yP,yT,AY.eq_1,AV.eq_1,At,h1,t1,t00,i00,hc,h3]
   refine AB (V7 s hs hdg) (by rfl) fun y hy=>?_
   subst hy
   simp -implicitDefEqProofs only [↓yP,yT,reduceCtorEq,AV.eq_1,t00,i00,hz,h5]
theorem NF (s:ByteArray) (hs:AA s≠[]):AS C1 95 [yd (.string s)] fun y=>∃(b:Bool) (p:ByteArray),y=.tup [yd (.bool b),yd (.string p)]∧AA p=DO (AA s)∧((AA s)[0]?.map fun c=>AJ ((c.toNat:Nat):Int) 45)=some b:=by
 have t00:(0:Int)≤0:=by omega
 have i00:Int.toNat 0=0:=rfl
 have i01:Int.toNat 1=1:=rfl
 have h2:0<(AA s).length:=List.length_pos_iff.mpr hs
 refine Pf (by rfl) (by rfl) kT (by rfl) ?_
 simp only [Try.f95,List.length_cons,List.length_nil,List.replicate,List.cons_append,List.nil_append]
 obtain ⟨c,hc⟩:=get_lt h2
 have t2:(1:Int)≤((AA s).length:Nat):=by omega
 have t3:(0:Int)≤1:=by omega
 cases h3:AJ (c.toNat:Nat) 45 with
 |true=>
  have hun:=GR hc (by have:=AQ h3;omega)
  have htk:((AA s).drop 1).take ((AA s).length - 1)=(AA s).drop 1:=List.take_of_length_le (by simp)
  simp -implicitDefEqProofs only [↓yP,yT,AV.eq_1,t00,i00,hc,h3]
  refine A8 (by rw [C5];kernel_rfl) ?_
  simp -implicitDefEqProofs only [↓yP,yT,reduceCtorEq,Aw.eq_1,t2,t3,i01,htk]
  exact ⟨true,_,rfl,by rw [hun];rfl,rfl⟩
 |false=>
  have hun:=Ed (l:=AA s) (fun c' hc' h=>by rw [hc] at hc';cases hc';exact A7 h3 (by omega))
  simp -implicitDefEqProofs only [↓yP,yT,reduceCtorEq,AV.eq_1,t00,i00,hc,h3]
  exact ⟨false,s,rfl,hun.symm,rfl⟩
def l5 (M:Nat) (a b:List UInt8) (y:YV):Prop:=∃s:ByteArray,y=.tup [yd (.string s),yd (.bool true)]∧FA (AA s)=FA a+FA b∧Dg (DO (AA s))∧(AA s).length≤M+2
theorem FP (M:Nat) (a b:ByteArray) (hM:M≤10000000000) (ha:(AA a).length≤M) (hb:(AA b).length≤M) (haR:If (AA a)) (hbR:If (AA b)):AS C1 97 [yd (.string a),yd (.string b)] (l5 M (AA a) (AA b)):=by
 have han:=haR.ne
 have hbn:=hbR.ne
 obtain ⟨aD,aZ⟩:=haR.dg
 obtain ⟨bD,bZ⟩:=hbR.dg
 refine Pf (by rfl) (by rfl) lT (by rfl) ?_
 simp only [Try.f97,List.length_cons,List.length_nil,List.replicate,List.cons_append,List.nil_append]
 simp -implicitDefEqProofs only [↓yP,yT]
 refine AB (QF a (by omega) haR) (by rfl) fun y hy=>?_
 subst hy
 simp -implicitDefEqProofs only [yT]
 refine AB (QF b (by omega) hbR) (by rfl) fun y hy=>?_
 subst hy
 simp -implicitDefEqProofs only [↓yP,yT]
 refine AB (NF a han) (by rfl) fun y hy=>?_
 obtain ⟨x,p,rfl,hp,hxe⟩:=hy
 simp -implicitDefEqProofs only [↓yP,yT]
 refine AB (NF b hbn) (by rfl) fun y hy=>?_
 obtain ⟨z,q,rfl,hq,hze⟩:=hy
 have lp:(AA p).length≤M:=by rw [hp];have:=Iz (AA a);omega
 have lq:(AA q).length≤M:=by rw [hq];have:=Iz (AA b);omega
 rw [←hp] at aD aZ
 rw [←hq] at bD bZ
 unfold l5
 cases x<;>cases z
 ·simp -implicitDefEqProofs only [↓yP,yT,beq_self_eq_true]
  refine AB (IN p q M lp lq (by omega) aD.2 bD.2 aD.1) (by rfl) fun y hy=>?_
  obtain ⟨s,rfl,hv,hs,hl⟩:=hy
  rw [hp,hq] at hv
  have e0:FA (AA s)=FA (AA a)+FA (AA b):=by
   rw [E6 hs.2,EX han,EX hbn,hxe,hze,hv];rfl
  cases hq:(AA s==AA ⟨#[48]⟩)<;>(simp -implicitDefEqProofs only [↓yP,yT,reduceCtorEq];exact ⟨s,rfl,e0,by rw [E4 hs.2];exact hs,by omega⟩)
 ·simp -implicitDefEqProofs only [↓yP,yT]
  refine AB (F2 p q) (by rfl) fun y hy=>?_
  subst hy
  cases hsm:RR (AA p) (AA q) with
  |true=>
   simp -implicitDefEqProofs only [↓yP,yT]
   refine AB (EY q p (by omega) bD aD bZ (Jk hsm)) (by rfl) fun y hy=>?_
   obtain ⟨s,rfl,hv,hs,hl⟩:=hy
   rw [hp,hq] at hv
   have e0:FA (AA a)+FA (AA b)= - val (AA s):=by
    rw [EX han,EX hbn,hxe,hze,hv]
    show val (DO (AA a))+ - val (DO (AA b))=_
    omega
   cases hq:(AA s==AA ⟨#[48]⟩) with
   |true=>
    have h48:AA s=[48]:=eq_of_beq hq
    simp -implicitDefEqProofs only [↓yP,yT,reduceCtorEq,AU,hq]
    refine ⟨s,rfl,?_,by rw [E4 hs.2];exact hs,by omega⟩
    rw [e0,E6 hs.2,h48];decide
   |false=>
    have b1:(AA ⟨#[45]⟩).length+(AA s).length≤140737488355328:=by
     have:(AA ⟨#[45]⟩).length=1:=rfl
     omega
    simp -implicitDefEqProofs only [↓yP,yT,reduceCtorEq,AU,Bk,hq,b1]
    refine ⟨_,rfl,?_,?_,?_⟩
    ·rw [AD,show AA ⟨#[45]⟩++AA s=45::AA s from rfl,FR,e0]
    ·rw [AD,show AA ⟨#[45]⟩++AA s=45::AA s from rfl];exact hs
    ·rw [AD,List.length_append];have:(AA ⟨#[45]⟩).length=1:=rfl;omega
  |false=>
   simp -implicitDefEqProofs only [↓yP,yT]
   refine AB (EY p q (by omega) aD bD aZ hsm) (by rfl) fun y hy=>?_
   obtain ⟨s,rfl,hv,hs,hl⟩:=hy
   rw [hp,hq] at hv
   have e0:FA (AA s)=FA (AA a)+FA (AA b):=by
    rw [E6 hs.2,EX han,EX hbn,hxe,hze,hv]
    show _=val (DO (AA a))+ - val (DO (AA b))
    omega
   cases hq:(AA s==AA ⟨#[48]⟩)<;>(simp -implicitDefEqProofs only [↓yP,yT,reduceCtorEq];exact ⟨s,rfl,e0,by rw [E4 hs.2];exact hs,by omega⟩)
 ·simp -implicitDefEqProofs only [↓yP,yT]
  refine AB (F2 p q) (by rfl) fun y hy=>?_
  subst hy
  cases hsm:RR (AA p) (AA q) with
  |true=>
   simp -implicitDefEqProofs only [↓yP,yT]
   refine AB (EY q p (by omega) bD aD bZ (Jk hsm)) (by rfl) fun y hy=>?_
   obtain ⟨s,rfl,hv,hs,hl⟩:=hy
   rw [hp,hq] at hv
   have e0:FA (AA s)=FA (AA a)+FA (AA b):=by
    rw [E6 hs.2,EX han,EX hbn,hxe,hze,hv]
    show _= - val (DO (AA a))+val (DO (AA b))
    omega
   cases hq:(AA s==AA ⟨#[48]⟩)<;>(simp -implicitDefEqProofs only [↓yP,yT,reduceCtorEq];exact ⟨s,rfl,e0,by rw [E4 hs.2];exact hs,by omega⟩)
  |false=>
   simp -implicitDefEqProofs only [↓yP,yT]
   refine AB (EY p q (by omega) aD bD aZ hsm) (by rfl) fun y hy=>?_
   obtain ⟨s,rfl,hv,hs,hl⟩:=hy
   rw [hp,hq] at hv
   have e0:FA (AA a)+FA (AA b)= - val (AA s):=by
    rw [EX han,EX hbn,hxe,hze,hv]
    show - val (DO (AA a))+val (DO (AA b))=_
    omega
   cases hq:(AA s==AA ⟨#[48]⟩) with
   |true=>
    have h48:AA s=[48]:=eq_of_beq hq
    simp -implicitDefEqProofs only [↓yP,yT,reduceCtorEq,AU,hq]
    refine ⟨s,rfl,?_,by rw [E4 hs.2];exact hs,by omega⟩
    rw [e0,E6 hs.2,h48];decide
   |false=>
    have b1:(AA ⟨#[45]⟩).length+(AA s).length≤140737488355328:=by
     have:(AA ⟨#[45]⟩).length=1:=rfl
     omega
    simp -implicitDefEqProofs only [↓yP,yT,reduceCtorEq,AU,Bk,hq,b1]
    refine ⟨_,rfl,?_,?_,?_⟩
    ·rw [AD,show AA ⟨#[45]⟩++AA s=45::AA s from rfl,FR,e0]
    ·rw [AD,show AA ⟨#[45]⟩++AA s=45::AA s from rfl];exact hs
    ·rw [AD,List.length_append];have:(AA ⟨#[45]⟩).length=1:=rfl;omega
 ·simp -implicitDefEqProofs only [↓yP,yT,beq_self_eq_true]
  refine AB (IN p q M lp lq (by omega) aD.2 bD.2 aD.1) (by rfl) fun y hy=>?_
  obtain ⟨s,rfl,hv,hs,hl⟩:=hy
  rw [hp,hq] at hv
  have e0:FA (AA a)+FA (AA b)= - val (AA s):=by
   rw [EX han,EX hbn,hxe,hze,hv]
   show - val (DO (AA a))+ - val (DO (AA b))=_
   omega
  cases hq:(AA s==AA ⟨#[48]⟩) with
  |true=>
   have h48:AA s=[48]:=eq_of_beq hq
   simp -implicitDefEqProofs only [↓yP,yT,reduceCtorEq,AU,hq]
   refine ⟨s,rfl,?_,by rw [E4 hs.2];exact hs,by omega⟩
   rw [e0,E6 hs.2,h48];decide
  |false=>
   have b1:(AA ⟨#[45]⟩).length+(AA s).length≤140737488355328:=by
    have:(AA ⟨#[45]⟩).length=1:=rfl
    omega
   simp -implicitDefEqProofs only [↓yP,yT,reduceCtorEq,AU,Bk,hq,b1]
   refine ⟨_,rfl,?_,?_,?_⟩
   ·rw [AD,show AA ⟨#[45]⟩++AA s=45::AA s from rfl,FR,e0]
   ·rw [AD,show AA ⟨#[45]⟩++AA s=45::AA s from rfl];exact hs
   ·rw [AD,List.length_append];have:(AA ⟨#[45]⟩).length=1:=rfl;omega
def i4 (n:Nat):Prop:=n≤200000000000→AS C1 98 [yd (.int .i64 (n:Nat))] fun y=>∃s:ByteArray,y=yd (.string s)∧(AA s).length≤n+1∧val (AA s)=(n:Nat)∧Dg (AA s)∧(n=0→AA s=[48])∧(1≤n→∀c,(AA s)[0]?=some c→c.toNat≠48)
theorem XS (d:Nat) (h:d<10):∃c:UInt8,((AA ⟨#[48,49,50,51,52,53,54,55,56,57]⟩).drop d).take (d+1 - d)=[c]∧c.toNat=48+d:=by
 have:d=0∨d=1∨d=2∨d=3∨d=4∨d=5∨d=6∨d=7∨d=8∨d=9:=by omega
 rcases this with rfl|rfl|rfl|rfl|rfl|rfl|rfl|rfl|rfl|rfl<;>exact ⟨_,rfl,rfl⟩
theorem W4 (n:Nat) (ih:∀m,m<n→i4 m):i4 n:=by
 intro hn
 obtain ⟨dc,hdc,hdn⟩:=XS (n % 10) (by omega)
 refine Pf (by rfl) (by rfl) fI (by rfl) ?_
 simp only [Try.f98,List.length_cons,List.length_nil,List.replicate,List.cons_append,List.nil_append]
 have t0:AN 0 (n:Nat)=true:=AH (by omega)
 have r1:((n:Nat):Int).tmod 10=((n % 10:Nat):Int):=by rw [Int.tmod_eq_emod_of_nonneg (by omega)];omega
 have r2:((n:Nat):Int).tdiv 10=((n / 10:Nat):Int):=by rw [Int.tdiv_eq_ediv_of_nonneg (by omega)];omega
 have w1:AG .i64 (((n % 10:Nat):Int)+1)=((n % 10+1:Nat):Int):=AK (by omega)
 have w2:IntKind.wrap .i64 ((n / 10:Nat):Int)=((n / 10:Nat):Int):=by rw [IntKind.wrap_i64];omega
 have c1:(0:Int)≤((n % 10:Nat):Int):=by omega
 have c2:((n % 10:Nat):Int)≤((n % 10+1:Nat):Int):=by omega
 have c3:((n % 10+1:Nat):Int)≤((AA ⟨#[48,49,50,51,52,53,54,55,56,57]⟩).length:Nat):=by show _≤((10:Nat):Int);omega
 have z10:((10:Int)=0)=False:=by simp
 by_cases h9:n≤9
 ·have t9:AN (n:Nat) 9=true:=AH (by omega)
  simp -implicitDefEqProofs only [↓yP,yT,reduceCtorEq,Aw.eq_1,t0,t9,r1,w1,c1,c2,c3,z10]
  refine ⟨_,rfl,?_⟩
  rw [AD,hdc]
  refine ⟨by simp,by show 10*0+dv dc=_;unfold dv;omega,⟨by simp,fun c hc=>by rw [List.mem_singleton.mp hc];omega⟩,fun h0=>?_,fun h1 c hc=>?_⟩
  ·subst h0
   have:dc=48:=by rw [←UInt8.toNat_inj];exact (by omega:dc.toNat=48)
   rw [this]
  ·simp at hc;subst hc;omega
 ·have t9:AN (n:Nat) 9=false:=AE (by omega)
  simp -implicitDefEqProofs only [↓yP,yT,Aw.eq_1,t0,t9,r1,r2,w1,w2,c1,c2,c3,z10]
  refine AB (ih (n / 10) (by omega) (by omega)) (by rfl) fun y hy=>?_
  obtain ⟨s,rfl,hs,hv,hdg,_,hne⟩:=hy
  have b1:(AA s).length+(((AA ⟨#[48,49,50,51,52,53,54,55,56,57]⟩).drop (n % 10)).take (n % 10+1 - n % 10)).length≤140737488355328:=by
   rw [hdc]
   have:[dc].length=1:=rfl
   omega
  simp -implicitDefEqProofs only [↓yP,yT,reduceCtorEq,Bk,AD,b1]
  refine ⟨_,rfl,?_⟩
  rw [AD,hdc]
  refine ⟨by simp;omega,by rw [Ic,hv];unfold dv;omega,⟨by simp,fun c hc=>?_⟩,fun h0=>by omega,fun _ c hc=>?_⟩
  ·rcases List.mem_append.mp hc with h|h
   ·exact hdg.2 c h
   ·rw [List.mem_singleton.mp h];omega
  ·have hp:=List.length_pos_iff.mpr hdg.1
   rw [List.getElem?_append_left hp] at hc
   exact hne (by omega) c hc
theorem QE (n:Nat):i4 n:=by
 induction n using Nat.strongRecOn with
 |ind n ih=>exact W4 n ih
theorem FN (x:Int) (h1: -200000000000≤x) (h2:x≤200000000000):AS C1 98 [yd (.int .i64 x)] fun y=>∃s:ByteArray,y=yd (.string s)∧(AA s).length≤x.natAbs+2∧FA (AA s)=x∧If (AA s):=by
 by_cases h0:0≤x
 ·obtain ⟨n,rfl⟩:=Int.eq_ofNat_of_zero_le h0
  refine (QE n (by omega)).mono fun y ⟨s,h3,h4,h5,h6,h7,h8⟩=>⟨s,h3,by omega,by rw [E6 h6.2,h5],?_⟩
  by_cases k:n=0
  ·exact .inl (h7 k)
  ·exact .inr (by rw [E4 h6.2];exact ⟨h6,h8 (by omega)⟩)
 ·refine Pf (by rfl) (by rfl) fI (by rfl) ?_
  simp only [Try.f98,List.length_cons,List.length_nil,List.replicate,List.cons_append,List.nil_append]
  have t0:AN 0 x=false:=AE (by omega)
  have w0:IntKind.wrap .i64 (0 - x)=((x.natAbs:Nat):Int):=by rw [IntKind.wrap_i64];omega
  simp -implicitDefEqProofs only [↓yP,yT,t0,w0]
  refine AB (QE x.natAbs (by omega)) (by rfl) fun y hy=>?_
  obtain ⟨s,rfl,hs,hv,hdg,_,hne⟩:=hy
  have b1:(AA ⟨#[45]⟩).length+(AA s).length≤140737488355328:=by
   have:(AA ⟨#[45]⟩).length=1:=rfl
   omega
  simp -implicitDefEqProofs only [↓yP,yT,reduceCtorEq,Bk,b1]
  refine ⟨_,rfl,?_,?_,?_⟩
  ·rw [AD,List.length_append];have:(AA ⟨#[45]⟩).length=1:=rfl;omega
  ·rw [AD,show AA ⟨#[45]⟩++AA s=45::AA s from rfl,FR,hv];omega
  ·rw [AD,show AA ⟨#[45]⟩++AA s=45::AA s from rfl]
   exact .inr ⟨hdg,hne (by omega)⟩
end Go.Vx.Seat
end
section
open Go Go.Vx Go.Proofs
set_option maxRecDepth 10000
set_option maxHeartbeats 8000000
namespace Go.Vx.Seat
attribute [local irreducible] Rg Rt Ro Ri Rc Ds Dt Dw Dx Rw Rl Rd Av An kf
theorem oG:By C1.P.funcs.toList 96=some Try.f96:=by kernel_rfl
theorem nR:By C1.P.funcs.toList 69=some Try.f69:=by kernel_rfl
theorem oA:By C1.P.funcs.toList 68=some Try.f68:=by kernel_rfl
theorem nN:By C1.P.funcs.toList 71=some Try.f71:=by kernel_rfl
theorem Cc (a b:List UInt8) (h:a.length+b.length≤1000000000):Cr .add (AI a) (AI b)=some (.string (AI (a++b))):=by
 rw [Bk,if_pos (by rw [AD,AD];omega),AD,AD]
theorem pQ:(⟨#[48]⟩:ByteArray)=AI [48]:=rfl
theorem c45:(⟨#[45]⟩:ByteArray)=AI [45]:=rfl
theorem c43:(⟨#[43]⟩:ByteArray)=AI [43]:=rfl
theorem Xv:(⟨#[46]⟩:ByteArray)=AI [46]:=rfl
theorem Mw:(⟨#[101]⟩:ByteArray)=AI [101]:=rfl
theorem lD:(⟨#[48,46]⟩:ByteArray)=AI [48,46]:=rfl
theorem gI:(⟨#[46,48]⟩:ByteArray)=AI [46,48]:=rfl
theorem c0:(⟨#[]⟩:ByteArray)=AI []:=rfl
theorem LY (n:Nat) (hn:n≤1000000):AS C1 96 [yd (.int .i64 (n:Nat))] fun y=>y=yd (.string (AI (List.replicate n 48))):=by
 refine Pf (by rfl) (by rfl) oG (by rfl) ?_
 simp only [Try.f96,List.length_cons,List.length_nil,List.replicate,List.cons_append,List.nil_append]
 simp -implicitDefEqProofs only [↓yP,yT,c0]
 refine Ah (fun d e st=>∃(i:Nat),e=[yd (.int .i64 (n:Nat)),Tp,Tp,yd (.string (AI (List.replicate i 48))),yd (.int .i64 (i:Nat)),Tp,Tp,Tp,Tp,Tp,Tp,Tp,Tp]∧st=[]∧i+d=n) [true,false,false,true,true] n [] (by decide) (AC _) ⟨0,by (simp only [yE];try rfl),by (simp only [yE];try rfl),by omega⟩ ?_
 rintro d e st ⟨i,rfl,rfl,hd⟩
 by_cases hi:i<n
 ·have t1:AN (n:Nat) (i:Nat)=false:=AE (by omega)
  have w1:AG .i64 ((i:Int)+1)=((i+1:Nat):Int):=AK (by omega)
  have s1:=Cc (List.replicate i 48) [48] (by simp;omega)
  simp -implicitDefEqProofs only [↓yP,yT,t1,pQ,s1,w1]
  refine ⟨d - 1,[],by omega,by decide,AC _,i+1,by simp only [yE,List.replicate_succ'];try rfl,by (simp only [yE];try rfl),by omega⟩
 ·have t1:AN (n:Nat) (i:Nat)=true:=AH (by omega)
  obtain rfl:i=n:=by omega
  simp -implicitDefEqProofs only [↓yP,yT,reduceCtorEq,t1]
def pV (y:YV):Prop:=∃(x:Int) (ok:Bool),y=.tup [yd (.int .i64 x),yd (.bool ok)]∧ -1000000≤x∧x≤1000000
theorem SA (s:ByteArray) (hs:(AA s).length≤1000000):AS C1 69 [yd (.string s)] pV:=by
 refine Pf (by rfl) (by rfl) nR (by rfl) ?_
 simp only [Try.f69,List.length_cons,List.length_nil,List.replicate,List.cons_append,List.nil_append]
 simp -implicitDefEqProofs only [↓yP,yT]
 refine AB (HB s (by omega)) (by rfl) fun y hy=>?_
 obtain ⟨b,rfl,hb⟩:=hy
 cases b with
 |false=>
  simp -implicitDefEqProofs only [↓yP,yT,reduceCtorEq]
  exact ⟨0,false,rfl,by omega,by omega⟩
 |true=>
 obtain ⟨hne,hdg,_⟩:=hb rfl
 by_cases h8:(AA s).length≤8
 ·have t8:AN ((AA s).length:Nat) 8=true:=AH (by omega)
  simp -implicitDefEqProofs only [↓yP,yT,AY.eq_1,t8]
  refine AB (L0 s hne) (by rfl) fun y hy=>?_
  obtain ⟨sg,p,rfl,hp⟩:=hy
  have hpl:(AA p).length≤8:=by rw [hp];have:=Iz (AA s);omega
  rw [←hp] at hdg
  simp -implicitDefEqProofs only [↓yP,yT]
  refine Ah (fun d e st=>∃(i:Nat) (n:Int),e=[Tp,Tp,Tp,Tp,yd (.bool sg),yd (.string p),yd (.int .i64 n),yd (.int .i64 (i:Nat)),Tp,Tp,Tp,Tp,Tp,Tp,Tp,Tp,Tp,Tp,Tp,Tp,Tp,Tp,Tp,Tp,Tp,Tp,Tp,Tp,Tp,Tp,Tp,Tp,Tp,Tp,Tp,Tp,Tp,Tp,Tp,Tp,Tp]∧st=[]∧i+d=(AA p).length∧0≤n∧n<10 ^ i) [false,false,false,false,true,true,true,true] (AA p).length [] (by decide) (AC _) ⟨0,0,by (simp only [yE];try rfl),by (simp only [yE];try rfl),by omega,by omega,by decide⟩ ?_
  rintro d e st ⟨i,n,rfl,rfl,hd,h0,h1⟩
  by_cases hi:i<(AA p).length
  ·obtain ⟨c,hc⟩:=get_lt hi
   have hcd:=hdg.2 c (List.mem_of_getElem? hc)
   have t1:AN ((AA p).length:Nat) (i:Nat)=false:=AE (by omega)
   have t0:(0:Int)≤(i:Nat):=by omega
   have w1:AG .i64 ((i:Int)+1)=((i+1:Nat):Int):=AK (by omega)
   have hb10:(10:Int) ^ i≤10 ^ 8:=by
    have:(10:Nat) ^ i≤10 ^ 8:=Nat.pow_le_pow_right (by omega) (by omega)
    exact_mod_cast this
   have h8':(10:Int) ^ 8=100000000:=by decide
   have w2:AG .u8 (((c.toNat:Nat):Int) - 48)=((c.toNat - 48:Nat):Int):=by
    rw [show ((c.toNat:Nat):Int) - 48=((c.toNat - 48:Nat):Int) by omega];exact TH (by omega)
   have w3:AG .i64 ((c.toNat - 48:Nat):Int)=((c.toNat - 48:Nat):Int):=A1 (by omega)
   have w4:AG .i64 (10*n)=10*n:=Au (by omega) (by omega)
   have w5:AG .i64 (10*n+((c.toNat - 48:Nat):Int))=10*n+((c.toNat - 48:Nat):Int):=Au (by omega) (by omega)
   simp -implicitDefEqProofs only [↓yP,yT,AY.eq_1,AV.eq_1,t1,t0,hc,w1,w2,w3,w4,w5]
   refine ⟨d - 1,[],by omega,by decide,AC _,i+1,10*n+((c.toNat - 48:Nat):Int),by (simp only [yE];try rfl),by (simp only [yE];try rfl),by omega,by omega,?_⟩
   rw [Int.pow_succ];omega
  ·have t1:AN ((AA p).length:Nat) (i:Nat)=true:=AH (by omega)
   by_cases hm:n≤1000000
   ·have t2:AN n 1000000=true:=AH hm
    have wn:IntKind.wrap .i64 (0 - n)=0 - n:=by rw [IntKind.wrap_i64];omega
    cases sg with
    |true=>
     simp -implicitDefEqProofs only [↓yP,yT,reduceCtorEq,AY.eq_1,t1,t2,wn]
     exact ⟨0 - n,true,rfl,by omega,by omega⟩
    |false=>
     simp -implicitDefEqProofs only [↓yP,yT,reduceCtorEq,AY.eq_1,t1,t2]
     exact ⟨n,true,rfl,by omega,by omega⟩
   ·have t2:AN n 1000000=false:=AE hm
    simp -implicitDefEqProofs only [↓yP,yT,reduceCtorEq,AY.eq_1,t1,t2]
    exact ⟨0,false,rfl,by omega,by omega⟩
 ·have t8:AN ((AA s).length:Nat) 8=false:=AE (by omega)
  simp -implicitDefEqProofs only [↓yP,yT,reduceCtorEq,AY.eq_1,t8]
  exact ⟨0,false,rfl,by omega,by omega⟩
def ZO (dg ex:ByteArray):Prop:=(AA dg=[]∧AA ex=[])∨(Dg (AA dg)∧(∀c,(AA dg)[0]?=some c→c.toNat≠48)∧If (AA ex))
theorem Vd (s:ByteArray) (hs:(AA s).length≤100000000):∃b:Bool,AS C1 93 [yd (.string s)] (fun y=>y=yd (.bool b))∧(b=true→Dg (AA s)):=by
 obtain ⟨y,⟨b,rfl,h2⟩,h3⟩:=(D4 s (by omega)).det Nh JO rfl
 exact ⟨b,h3,h2⟩
theorem Ok (s:ByteArray) (hs:(AA s).length≤100000000):AS C1 94 [yd (.string s)] fun y=>∃b:Bool,y=yd (.bool b)∧(b=true→If (AA s)):=by
 have t00:(0:Int)≤0:=by omega
 have i00:Int.toNat 0=0:=rfl
 have i01:Int.toNat 1=1:=rfl
 refine Pf (by rfl) (by rfl) iR (by rfl) ?_
 simp only [Try.f94,List.length_cons,List.length_nil,List.replicate,List.cons_append,List.nil_append]
 cases h1:(AA s==AA ⟨#[48]⟩) with
 |true=>
  simp -implicitDefEqProofs only [↓yP,yT,reduceCtorEq,At,h1]
  refine ⟨true,rfl,fun _=>?_⟩
  have:AA s=[48]:=eq_of_beq h1
  exact .inl this
 |false=>
  by_cases h2:0<(AA s).length
  ·obtain ⟨c,hc⟩:=get_lt h2
   have t1:AN ((AA s).length:Nat) 0=false:=AE (by omega)
   have t2:(1:Int)≤((AA s).length:Nat):=by omega
   have t3:(0:Int)≤1:=by omega
   cases h3:AJ (c.toNat:Nat) 45 with
   |true=>
    have hun:=GR hc (by have:=AQ h3;omega)
    have htk:((AA s).drop 1).take ((AA s).length - 1)=(AA s).drop 1:=List.take_of_length_le (by simp)
    simp -implicitDefEqProofs only [↓yP,yT,AY.eq_1,AV.eq_1,Aw.eq_1,At,h1,t1,t00,t2,t3,i00,i01,hc,h3,htk]
    refine AB (D4 _ (by first|omega|assumption|(simp [AD];omega))) (by rfl) fun y hy=>?_
    obtain ⟨b,rfl,hb⟩:=hy
    cases b with
    |false=>
     simp -implicitDefEqProofs only [↓yP,yT,reduceCtorEq]
     exact ⟨false,rfl,fun h=>by cases h⟩
    |true=>
     have hdg:=hb rfl
     try rw [AD] at hdg
     obtain ⟨z,hz⟩:∃z,((AA s).drop 1)[0]?=some z:=get_lt (List.length_pos_iff.mpr hdg.1)
     cases h5:AJ (z.toNat:Nat) 48 with
     |true=>
      simp -implicitDefEqProofs only [↓yP,yT,reduceCtorEq,AV.eq_1,AD,t00,i00,hz,h5]
      exact ⟨false,rfl,fun h=>by cases h⟩
     |false=>
      have h5':=A7 h5
      simp -implicitDefEqProofs only [↓yP,yT,reduceCtorEq,AV.eq_1,AD,t00,i00,hz,h5]
      refine ⟨true,rfl,fun _=>.inr ⟨?_,?_⟩⟩
      ·rw [hun];exact hdg
      ·rw [hun];intro c hc h;rw [hz] at hc;cases hc;exact h5' (by omega)
   |false=>
    have hun:=Ed (l:=AA s) (fun c' hc' h=>by rw [hc] at hc';cases hc';exact A7 h3 (by omega))
    simp -implicitDefEqProofs only [↓yP,yT,AY.eq_1,AV.eq_1,At,h1,t1,t00,i00,hc,h3]
    refine AB (D4 _ (by first|omega|assumption|(simp [AD];omega))) (by rfl) fun y hy=>?_
    obtain ⟨b,rfl,hb⟩:=hy
    cases b with
    |false=>
     simp -implicitDefEqProofs only [↓yP,yT,reduceCtorEq]
     exact ⟨false,rfl,fun h=>by cases h⟩
    |true=>
     have hdg:=hb rfl
     try rw [AD] at hdg
     obtain ⟨z,hz⟩:∃z,(AA s)[0]?=some z:=get_lt (List.length_pos_iff.mpr hdg.1)
     cases h5:AJ (z.toNat:Nat) 48 with
     |true=>
      simp -implicitDefEqProofs only [↓yP,yT,reduceCtorEq,AV.eq_1,t00,i00,hz,h5]
      exact ⟨false,rfl,fun h=>by cases h⟩
     |false=>
      have h5':=A7 h5
      simp -implicitDefEqProofs only [↓yP,yT,reduceCtorEq,AV.eq_1,t00,i00,hz,h5]
      refine ⟨true,rfl,fun _=>.inr ⟨?_,?_⟩⟩
      ·rw [hun];exact hdg
      ·rw [hun];intro c hc h;rw [hz] at hc;cases hc;exact h5' (by omega)
  ·have t1:AN ((AA s).length:Nat) 0=true:=AH (by omega)
   have hnil:AA s=[]:=List.eq_nil_of_length_eq_zero (by omega)
   have hun:DO (AA s)=AA s:=by rw [hnil];rfl
   simp -implicitDefEqProofs only [↓yP,yT,AY.eq_1,At,h1,t1]
   refine AB (D4 s (by omega)) (by rfl) fun y hy=>?_
   obtain ⟨b,rfl,hb⟩:=hy
   cases b with
   |false=>
    simp -implicitDefEqProofs only [↓yP,yT,reduceCtorEq]
    exact ⟨false,rfl,fun h=>by cases h⟩
   |true=>exact absurd hnil (hb rfl).1
theorem YJ (s:ByteArray) (hs:(AA s).length≤100000000):∃b:Bool,AS C1 94 [yd (.string s)] (fun y=>y=yd (.bool b))∧(b=true→If (AA s)):=by
 obtain ⟨y,⟨b,rfl,h2⟩,h3⟩:=(Ok s hs).det Nh JO rfl
 exact ⟨b,h3,h2⟩
noncomputable def Zf (s:ByteArray):Bool:=if h:(AA s).length≤100000000 then Classical.choose (Vd s h) else false
noncomputable def m9 (s:ByteArray):Bool:=if h:(AA s).length≤100000000 then Classical.choose (YJ s h) else false
theorem Lq (s:ByteArray) (hs:(AA s).length≤100000000):AS C1 93 [yd (.string s)] (fun y=>y=yd (.bool (Zf s)))∧(Zf s=true→Dg (AA s)):=by
 rw [Zf,dif_pos hs];exact Classical.choose_spec (Vd s hs)
theorem Rp (s:ByteArray) (hs:(AA s).length≤100000000):AS C1 94 [yd (.string s)] (fun y=>y=yd (.bool (m9 s)))∧(m9 s=true→If (AA s)):=by
 rw [m9,dif_pos hs];exact Classical.choose_spec (YJ s hs)
def ON (l:List UInt8) (i:Nat):Bool:=match l[i]? with|some c=>AJ ((c.toNat:Nat):Int) 48|none=>false
noncomputable def kK (dg ex:ByteArray):Bool:=if (AA dg==AA ⟨#[]⟩)=true then (AA ex==AA ⟨#[]⟩) else Zf dg&& !ON (AA dg) 0&& !ON (AA dg) ((AA dg).length - 1)&&m9 ex
theorem YR {dg ex:ByteArray} (hd:(AA dg).length≤1000000) (he:(AA ex).length≤1000000) (h:kK dg ex=true):ZO dg ex:=by
 unfold kK at h
 split at h
 ·rename_i h1
  exact .inl ⟨eq_of_beq h1,eq_of_beq h⟩
 ·simp only [Bool.and_eq_true,Bool.not_eq_true'] at h
  obtain ⟨⟨⟨k1,k2⟩,_⟩,k4⟩:=h
  refine .inr ⟨(Lq dg (by omega)).2 k1,fun c hc e=>?_,(Rp ex (by omega)).2 k4⟩
  rw [ON,hc] at k2
  exact A7 k2 (by omega)
theorem J1 (neg:Bool) (dg ex:ByteArray) (hd:(AA dg).length≤1000000) (he:(AA ex).length≤1000000):AS C1 68 [.agg (nm neg dg ex)] fun y=>y=yd (.bool (kK dg ex)):=by
 have i00:Int.toNat 0=0:=rfl
 have t00:(0:Int)≤0:=by omega
 unfold kK
 refine Pf (by rfl) (by rfl) oA (by rfl) ?_
 simp only [Try.f68,List.length_cons,List.length_nil,List.replicate,List.cons_append,List.nil_append]
 cases h1:(AA dg==AA ⟨#[]⟩) with
 |true=>
  simp -implicitDefEqProofs only [↓yP,yT,reduceCtorEq,At,h1]
 |false=>
  simp -implicitDefEqProofs only [↓yP,yT,At,h1]
  refine AB (Lq dg (by omega)).1 (by rfl) fun y hy=>?_
  subst hy
  cases hb:Zf dg with
  |false=>
   simp -implicitDefEqProofs only [↓yP,yT,reduceCtorEq]
   all_goals rfl
  |true=>
   have hdg:=(Lq dg (by omega)).2 hb
   have hp:=List.length_pos_iff.mpr hdg.1
   obtain ⟨c,hc⟩:=get_lt hp
   have e2:ON (AA dg) 0=AJ (c.toNat:Nat) 48:=by rw [ON,hc]
   rw [e2]
   cases h2:AJ (c.toNat:Nat) 48 with
   |true=>
    simp -implicitDefEqProofs only [↓yP,yT,reduceCtorEq,AV.eq_1,t00,i00,hc,h2]
    all_goals rfl
   |false=>
    have w1:AG .i64 (((AA dg).length:Nat) - 1)=(((AA dg).length - 1:Nat):Int):=Bq (by omega) (by omega)
    have c2:(0:Int)≤(((AA dg).length - 1:Nat):Int):=by omega
    obtain ⟨z,hz⟩:=get_lt (show (AA dg).length - 1<(AA dg).length by omega)
    have e3:ON (AA dg) ((AA dg).length - 1)=AJ (z.toNat:Nat) 48:=by rw [ON,hz]
    rw [e3]
    cases h3:AJ (z.toNat:Nat) 48 with
    |true=>
     simp -implicitDefEqProofs only [↓yP,yT,reduceCtorEq,AY.eq_1,AV.eq_1,t00,i00,hc,h2,w1,c2,hz,h3]
     all_goals rfl
    |false=>
     simp -implicitDefEqProofs only [yT,AY.eq_1,AV.eq_1,t00,i00,hc,h2,w1,c2,hz,h3]
     refine AB (Rp ex (by omega)).1 (by rfl) fun y hy=>?_
     subst hy
     simp -implicitDefEqProofs only [↓yP,yT,reduceCtorEq]
     all_goals rfl
def es (s:ByteArray):List PC:=[.d (.string s)]
abbrev rS (l:List ByteArray):PC:=.row 1 (l.map es)
theorem J0 (l:List ByteArray) (hl:l.length≤1000000):AS C1 71 [.c (.p (rS l))] fun y=>∃s:ByteArray,y=yd (.string s)∧((s=⟨#[]⟩∧l=[])∨s∈l):=by
 refine Pf (by rfl) (by rfl) nN (by rfl) ?_
 simp only [Try.f71,List.length_cons,List.length_nil,List.replicate,List.cons_append,List.nil_append]
 by_cases h0:l.length=0
 ·have t0:AJ (l.length:Nat) 0=true:=by rw [h0];rfl
  simp -implicitDefEqProofs only [↓yP,yT,reduceCtorEq,t0]
  exact ⟨_,rfl,.inl ⟨rfl,List.eq_nil_of_length_eq_zero h0⟩⟩
 ·have t0:AJ (l.length:Nat) 0=false:=AF (by omega)
  obtain ⟨s0,hs0⟩:=get_lt (show 0<l.length by omega)
  simp -implicitDefEqProofs only [↓yP,yT,t0,AP hs0,es]
  refine Ah (fun d e st=>∃(i:Nat) (s:ByteArray),e=[.c (.p (rS l)),Tp,Tp,yd (.string s),yd (.int .i64 (i:Nat)),Tp,Tp,Tp,Tp,Tp,Tp,Tp,Tp,Tp,Tp,Tp,Tp,Tp,Tp,Tp,Tp,Tp,Tp,Tp,Tp,Tp,Tp,Tp,Tp,Tp]∧st=[]∧i+d=l.length+1∧1≤i∧i≤l.length∧s∈l) [true,false,false,true,true] l.length [] (by decide) (AC _) ⟨1,s0,by (simp only [yE];try rfl),by (simp only [yE];try rfl),by omega,by omega,by omega,List.mem_of_getElem? hs0⟩ ?_
  rintro d e st ⟨i,s,rfl,rfl,hd,h1,h2,hm⟩
  by_cases hi:i<l.length
  ·obtain ⟨z,hz⟩:=get_lt hi
   have t1:AN (l.length:Nat) (i:Nat)=false:=AE (by omega)
   have w1:AG .i64 ((i:Int)+1)=((i+1:Nat):Int):=AK (by omega)
   cases h3:AN ((AA s).length:Nat) ((AA z).length:Nat) with
   |true=>
    simp -implicitDefEqProofs only [↓yP,yT,AY.eq_1,t1,AP hz,es,h3,w1]
    refine ⟨d - 1,[],by omega,by decide,AC _,i+1,s,by (simp only [yE];try rfl),by (simp only [yE];try rfl),by omega,by omega,by omega,hm⟩
   |false=>
    simp -implicitDefEqProofs only [↓yP,yT,AY.eq_1,t1,AP hz,es,h3,w1]
    refine ⟨d - 1,[],by omega,by decide,AC _,i+1,z,by (simp only [yE];try rfl),by (simp only [yE];try rfl),by omega,by omega,by omega,List.mem_of_getElem? hz⟩
  ·have t1:AN (l.length:Nat) (i:Nat)=true:=AH (by omega)
   simp -implicitDefEqProofs only [↓yP,yT,reduceCtorEq,t1]
   exact ⟨s,rfl,.inr hm⟩
end Go.Vx.Seat
end
section
open Go Go.Vx Go.Proofs
set_option maxRecDepth 10000
set_option maxHeartbeats 8000000
namespace Go.Vx.Seat
attribute [local irreducible] Rg Rt Ro Ri Rc Ds Dt Dw Dx Rw Rl Rd Av An kf
theorem pX:By C1.P.funcs.toList 70=some Try.f70:=by kernel_rfl
def KY (dg ex s:List UInt8):Prop:=
 (∃z,s=dg++List.replicate z 48)∨(∃d1 d2,dg=d1++d2∧d1≠[]∧d2≠[]∧s=d1++46::d2)∨(∃z,s=48::46::(List.replicate z 48++dg))∨s=dg++101::ex∨
 (∃d1 d2 e,dg=d1++d2∧d1≠[]∧d2≠[]∧s=d1++46::(d2++101::e)∧Dg (DO e))
theorem RF (a:List UInt8) (h:a.length≤100000000):Cr .add (AI []) (AI a)=some (.string (AI a)):=by
 have:=Cc [] a (by simp;omega)
 rwa [List.nil_append] at this
theorem SY (dg ex:ByteArray) (hd:(AA dg).length≤100000) (he:(AA ex).length≤100000) (hne:AA dg≠[]) (hrn:kK dg ex=true):AS C1 70 [.agg (nm false dg ex)] fun y=>∃ls:List ByteArray,y=.c (.p (rS ls))∧ls.length≤10∧AI (AA dg++[101]++AA ex)∈ls∧∀s,s∈ls→KY (AA dg) (AA ex) (AA s)∧(AA s).length≤300000:=by
 have i00:Int.toNat 0=0:=rfl
 have t00:(0:Int)≤0:=by omega
 obtain ⟨hdg,hnz,hex⟩:Dg (AA dg)∧(∀c,(AA dg)[0]?=some c→c.toNat≠48)∧If (AA ex):=by
  rcases YR (by omega) (by omega) hrn with h|h
  ·exact absurd h.1 hne
  ·exact h
 have hrs:=J1 false dg ex (by omega) (by omega)
 rw [hrn] at hrs
 obtain ⟨D,hdm,hD⟩:∃D,dg=AI D∧AA dg=D:=⟨AA dg,(Dn dg).symm,rfl⟩
 obtain ⟨X,hem,hX⟩:∃X,ex=AI X∧AA ex=X:=⟨AA ex,(Dn ex).symm,rfl⟩
 rw [hD] at hd hne hdg hnz ⊢
 rw [hX] at he hex ⊢
 have DI:If (AA ex):=by rw [hX];exact hex
 have hint:=SA ex (by rw [hX];omega)
 subst hdm hem
 have h1:(D==AA ⟨#[]⟩)=false:=by rw [beq_eq_false_iff_ne];intro e;exact hne (by rw [e];rfl)
 have sD:=RF D (by omega)
 have sE1:=Cc D [101] (by simp;omega)
 have sE2:=Cc (D++[101]) X (by simp;omega)
 have wk:IntKind.wrap .i64 (0 - (D.length:Nat))=0 - (D.length:Nat):=by rw [IntKind.wrap_i64];omega
 have wk2:AG .i64 (0 - (D.length:Nat) - 20)=0 - (D.length:Nat) - 20:=Au (by omega) (by omega)
 refine Pf (by rfl) (by rfl) pX (by rfl) ?_
 simp only [Try.f70,List.length_cons,List.length_nil,List.replicate,List.cons_append,List.nil_append]
 simp -implicitDefEqProofs only [↓yP,yT,Nat.reduceAdd]
 refine AB hrs (by rfl) fun y hy=>?_
 subst hy
 simp -implicitDefEqProofs only [↓yP,yT,At,AD,h1]
 refine AB hint (by rfl) fun y hy=>?_
 obtain ⟨x,ok,rfl,hx1,hx2⟩:=hy
 cases ok with
 |false=>
  by_cases hk1:1<D.length
  ·have tk:AN (D.length:Nat) 1=false:=AE (by omega)
   have wk1:AG .i64 ((D.length:Nat) - 1)=((D.length - 1:Nat):Int):=Bq (by omega) (by omega)
   have d0:(0:Int)≤1:=by omega
   have d1:(1:Int)≤(D.length:Nat):=by omega
   have i1:Int.toNat 1=1:=rfl
   simp -implicitDefEqProofs only [↓yP,yT,Nat.reduceAdd,Nat.reduceMul,Nat.reduceLeDiff,reduceCtorEq,AY.eq_1,AD,c0,sD,Mw,sE1,sE2,tk]
   refine A8 (by rw [C5];kernel_rfl) ?_
   simp -implicitDefEqProofs only [↓yP,yT,wk1]
   refine AB (FN ((D.length - 1:Nat):Int) (by omega) (by omega)) (by rfl) fun y hy=>?_
   obtain ⟨z,rfl,hz,hzv,hzR⟩:=hy
   simp -implicitDefEqProofs only [yT]
   refine AB (FP 100010 (AI X) z (by omega) (by rw [AD];omega) (by omega) DI hzR) (by rfl) fun y hy=>?_
   obtain ⟨z2,rfl,hz2,hz3,hz4⟩:=hy
   simp -implicitDefEqProofs only [↓yP,yT]
   refine A8 (by rw [C5];kernel_rfl) ?_
   obtain ⟨Z,hzm,hZ⟩:∃Z,z2=AI Z∧AA z2=Z:=⟨AA z2,(Dn z2).symm,rfl⟩
   rw [hZ] at hz3 hz4
   subst hzm
   obtain ⟨a,D2,hDa⟩:∃a D2,D=a::D2:=by cases D with|nil=>exact absurd rfl hne|cons a D2=>exact ⟨a,D2,rfl⟩
   have hD2:D2≠[]:=by rintro rfl;rw [hDa] at hk1;simp at hk1
   have hT:List.take 1 D=[a]:=by rw [hDa];rfl
   have hR:List.take (D.length - 1) (List.drop 1 D)=D2:=by rw [hDa];simp
   have hDl:D2.length≤100000:=by rw [hDa] at hd;simp at hd;omega
   have sA:=RF [a] (by simp)
   have sB:Cr .add (AI [a]) (AI [46])=some (.string (AI [a,46])):=Cc [a] [46] (by simp)
   have sC:Cr .add (AI [a,46]) (AI D2)=some (.string (AI (a::46::D2))):=Cc [a,46] D2 (by simp;omega)
   have sF:Cr .add (AI (a::46::D2)) (AI [101])=some (.string (AI (a::46::(D2++[101])))):=Cc (a::46::D2) [101] (by simp;omega)
   have sG:Cr .add (AI (a::46::(D2++[101]))) (AI Z)=some (.string (AI (a::46::(D2++[101]++Z)))):=Cc (a::46::(D2++[101])) Z (by simp;omega)
   have pE:KY D X (AA (AI (D++[101]++X)))∧(AA (AI (D++[101]++X))).length≤300000:=⟨by rw [AD];exact .inr (.inr (.inr (.inl (by simp)))),by rw [AD];simp;omega⟩
   cases hz0:(Z==AA ⟨#[48]⟩) with
   |true=>
    simp -implicitDefEqProofs only [↓yP,yT,reduceCtorEq,Aw.eq_1,AD,d0,d1,i1,i00,t00,hT,hR,sA,Xv,sB,sC,AU,hz0]
    exact ⟨[AI (D++[101]++X)],rfl,by simp,by simp,fun s hs=>by
     simp only [List.mem_cons,List.not_mem_nil,or_false] at hs
     subst hs;exact pE⟩
   |false=>
    have pG:KY D X (AA (AI (a::46::(D2++[101]++Z))))∧(AA (AI (a::46::(D2++[101]++Z)))).length≤300000:=⟨by rw [AD];exact .inr (.inr (.inr (.inr ⟨[a],D2,Z,hDa,by simp,hD2,by simp,hz3⟩))),by rw [AD];simp;omega⟩
    simp -implicitDefEqProofs only [↓yP,yT,Nat.reduceAdd,Nat.reduceMul,Nat.reduceLeDiff,reduceCtorEq,Aw.eq_1,AD,d0,d1,i1,i00,t00,hT,hR,c0,sA,Xv,sB,sC,AU,hz0,sF,sG]
    exact ⟨[AI (D++[101]++X),AI (a::46::(D2++[101]++Z))],rfl,by simp,by simp,fun s hs=>by
     simp only [List.mem_cons,List.not_mem_nil,or_false] at hs
     rcases hs with rfl|rfl;exact pE;exact pG⟩
  ·have tk:AN (D.length:Nat) 1=true:=AH (by omega)
   have pE:KY D X (AA (AI (D++[101]++X)))∧(AA (AI (D++[101]++X))).length≤300000:=⟨by rw [AD];exact .inr (.inr (.inr (.inl (by simp)))),by rw [AD];simp;omega⟩
   simp -implicitDefEqProofs only [↓yP,yT,Nat.reduceAdd,Nat.reduceMul,Nat.reduceLeDiff,reduceCtorEq,AY.eq_1,AD,c0,sD,Mw,sE1,sE2,tk]
   exact ⟨[AI (D++[101]++X)],rfl,by simp,by simp,fun s hs=>by
    simp only [List.mem_cons,List.not_mem_nil,or_false] at hs
    subst hs;exact pE⟩
 |true=>
  have two:∀{s S:ByteArray},s=S∨s=AI (D++[101]++X)→(KY D X (AA S)∧(AA S).length≤300000)→(KY D X (AA (AI (D++[101]++X)))∧(AA (AI (D++[101]++X))).length≤300000)→KY D X (AA s)∧(AA s).length≤300000:=fun h a b=>by
   rcases h with rfl|rfl
   ·exact a
   ·exact b
  have three:∀{s S T:ByteArray},s=S∨s=AI (D++[101]++X)∨s=T→(KY D X (AA S)∧(AA S).length≤300000)→(KY D X (AA (AI (D++[101]++X)))∧(AA (AI (D++[101]++X))).length≤300000)→(KY D X (AA T)∧(AA T).length≤300000)→KY D X (AA s)∧(AA s).length≤300000:=fun h a b c=>by
   rcases h with rfl|rfl|rfl
   ·exact a
   ·exact b
   ·exact c
  by_cases g0:0≤x
  ·have q0:AN 0 x=true:=AH g0
   obtain ⟨n,rfl⟩:=Int.eq_ofNat_of_zero_le g0
   have q1:AN (0:Int) ((n:Nat):Int)=true:=q0
   by_cases g20:((n:Nat):Int)≤20
   ·have q2:AN ((n:Nat):Int) 20=true:=AH g20
    have sN:=Cc D (List.replicate n 48) (by simp;omega)
    have pN:KY D X (AA (AI (D++List.replicate n 48)))∧(AA (AI (D++List.replicate n 48))).length≤300000:=⟨by rw [AD];exact .inl ⟨n,rfl⟩,by rw [AD];simp;omega⟩
    have q3:AN ((n:Nat):Int) (0 - (D.length:Nat))=false:=AE (by have:=List.length_pos_iff.mpr hne;omega)
    simp -implicitDefEqProofs only [↓yP,yT,AY.eq_1,AD,q0,q2,c0,sD]
    refine AB (LY n (by omega)) (by rfl) fun y hy=>?_
    subst hy
    by_cases hk1:1<D.length
    ·have tk:AN (D.length:Nat) 1=false:=AE (by omega)
     have wk1:AG .i64 ((D.length:Nat) - 1)=((D.length - 1:Nat):Int):=Bq (by omega) (by omega)
     have d0:(0:Int)≤1:=by omega
     have d1:(1:Int)≤(D.length:Nat):=by omega
     have i1:Int.toNat 1=1:=rfl
     simp -implicitDefEqProofs only [↓yP,yT,Nat.reduceAdd,Nat.reduceMul,Nat.reduceLeDiff,reduceCtorEq,sN,q0,q3,wk,c0,sD,Mw,sE1,sE2,tk]
     refine A8 (by rw [C5];kernel_rfl) ?_
     simp -implicitDefEqProofs only [↓yP,yT,wk1]
     refine AB (FN ((D.length - 1:Nat):Int) (by omega) (by omega)) (by rfl) fun y hy=>?_
     obtain ⟨z,rfl,hz,hzv,hzR⟩:=hy
     simp -implicitDefEqProofs only [yT]
     refine AB (FP 100010 (AI X) z (by omega) (by rw [AD];omega) (by omega) DI hzR) (by rfl) fun y hy=>?_
     obtain ⟨z2,rfl,hz2,hz3,hz4⟩:=hy
     simp -implicitDefEqProofs only [↓yP,yT]
     refine A8 (by rw [C5];kernel_rfl) ?_
     obtain ⟨Z,hzm,hZ⟩:∃Z,z2=AI Z∧AA z2=Z:=⟨AA z2,(Dn z2).symm,rfl⟩
     rw [hZ] at hz3 hz4
     subst hzm
     obtain ⟨a,D2,hDa⟩:∃a D2,D=a::D2:=by cases D with|nil=>exact absurd rfl hne|cons a D2=>exact ⟨a,D2,rfl⟩
     have hD2:D2≠[]:=by rintro rfl;rw [hDa] at hk1;simp at hk1
     have hT:List.take 1 D=[a]:=by rw [hDa];rfl
     have hR:List.take (D.length - 1) (List.drop 1 D)=D2:=by rw [hDa];simp
     have hDl:D2.length≤100000:=by rw [hDa] at hd;simp at hd;omega
     have sA:=RF [a] (by simp)
     have sB:Cr .add (AI [a]) (AI [46])=some (.string (AI [a,46])):=Cc [a] [46] (by simp)
     have sC:Cr .add (AI [a,46]) (AI D2)=some (.string (AI (a::46::D2))):=Cc [a,46] D2 (by simp;omega)
     have sF:Cr .add (AI (a::46::D2)) (AI [101])=some (.string (AI (a::46::(D2++[101])))):=Cc (a::46::D2) [101] (by simp;omega)
     have sG:Cr .add (AI (a::46::(D2++[101]))) (AI Z)=some (.string (AI (a::46::(D2++[101]++Z)))):=Cc (a::46::(D2++[101])) Z (by simp;omega)
     have pE:KY D X (AA (AI (D++[101]++X)))∧(AA (AI (D++[101]++X))).length≤300000:=⟨by rw [AD];exact .inr (.inr (.inr (.inl (by simp)))),by rw [AD];simp;omega⟩
     cases hz0:(Z==AA ⟨#[48]⟩) with
     |true=>
      simp -implicitDefEqProofs only [↓yP,yT,Nat.reduceAdd,reduceCtorEq,Aw.eq_1,AD,d0,d1,i1,i00,t00,hT,hR,sA,Xv,sB,sC,AU,hz0]
      exact ⟨[AI (D++List.replicate n 48),AI (D++[101]++X)],rfl,by simp,by simp,fun s hs=>by
       simp only [List.mem_cons,List.not_mem_nil,or_false] at hs
       exact two hs pN pE⟩
     |false=>
      have pG:KY D X (AA (AI (a::46::(D2++[101]++Z))))∧(AA (AI (a::46::(D2++[101]++Z)))).length≤300000:=⟨by rw [AD];exact .inr (.inr (.inr (.inr ⟨[a],D2,Z,hDa,by simp,hD2,by simp,hz3⟩))),by rw [AD];simp;omega⟩
      simp -implicitDefEqProofs only [↓yP,yT,Nat.reduceAdd,Nat.reduceMul,Nat.reduceLeDiff,reduceCtorEq,Aw.eq_1,AD,d0,d1,i1,i00,t00,hT,hR,c0,sA,Xv,sB,sC,AU,hz0,sF,sG]
      exact ⟨[AI (D++List.replicate n 48),AI (D++[101]++X),AI (a::46::(D2++[101]++Z))],rfl,by simp,by simp,fun s hs=>by
       simp only [List.mem_cons,List.not_mem_nil,or_false] at hs
       exact three hs pN pE pG⟩
    ·have tk:AN (D.length:Nat) 1=true:=AH (by omega)
     have pE:KY D X (AA (AI (D++[101]++X)))∧(AA (AI (D++[101]++X))).length≤300000:=⟨by rw [AD];exact .inr (.inr (.inr (.inl (by simp)))),by rw [AD];simp;omega⟩
     simp -implicitDefEqProofs only [↓yP,yT,Nat.reduceAdd,Nat.reduceMul,Nat.reduceLeDiff,reduceCtorEq,sN,q0,q3,wk,c0,sD,Mw,sE1,sE2,tk]
     exact ⟨[AI (D++List.replicate n 48),AI (D++[101]++X)],rfl,by simp,by simp,fun s hs=>by
      simp only [List.mem_cons,List.not_mem_nil,or_false] at hs
      exact two hs pN pE⟩
   ·have q2:AN ((n:Nat):Int) 20=false:=AE g20
    have q3:AN ((n:Nat):Int) (0 - (D.length:Nat))=false:=AE (by have:=List.length_pos_iff.mpr hne;omega)
    by_cases hk1:1<D.length
    ·have tk:AN (D.length:Nat) 1=false:=AE (by omega)
     have wk1:AG .i64 ((D.length:Nat) - 1)=((D.length - 1:Nat):Int):=Bq (by omega) (by omega)
     have d0:(0:Int)≤1:=by omega
     have d1:(1:Int)≤(D.length:Nat):=by omega
     have i1:Int.toNat 1=1:=rfl
     simp -implicitDefEqProofs only [↓yP,yT,Nat.reduceAdd,Nat.reduceMul,Nat.reduceLeDiff,reduceCtorEq,AY.eq_1,AD,q0,q2,q3,wk,c0,sD,Mw,sE1,sE2,tk]
     refine A8 (by rw [C5];kernel_rfl) ?_
     simp -implicitDefEqProofs only [↓yP,yT,wk1]
     refine AB (FN ((D.length - 1:Nat):Int) (by omega) (by omega)) (by rfl) fun y hy=>?_
     obtain ⟨z,rfl,hz,hzv,hzR⟩:=hy
     simp -implicitDefEqProofs only [yT]
     refine AB (FP 100010 (AI X) z (by omega) (by rw [AD];omega) (by omega) DI hzR) (by rfl) fun y hy=>?_
     obtain ⟨z2,rfl,hz2,hz3,hz4⟩:=hy
     simp -implicitDefEqProofs only [↓yP,yT]
     refine A8 (by rw [C5];kernel_rfl) ?_
     obtain ⟨Z,hzm,hZ⟩:∃Z,z2=AI Z∧AA z2=Z:=⟨AA z2,(Dn z2).symm,rfl⟩
     rw [hZ] at hz3 hz4
     subst hzm
     obtain ⟨a,D2,hDa⟩:∃a D2,D=a::D2:=by cases D with|nil=>exact absurd rfl hne|cons a D2=>exact ⟨a,D2,rfl⟩
     have hD2:D2≠[]:=by rintro rfl;rw [hDa] at hk1;simp at hk1
     have hT:List.take 1 D=[a]:=by rw [hDa];rfl
     have hR:List.take (D.length - 1) (List.drop 1 D)=D2:=by rw [hDa];simp
     have hDl:D2.length≤100000:=by rw [hDa] at hd;simp at hd;omega
     have sA:=RF [a] (by simp)
     have sB:Cr .add (AI [a]) (AI [46])=some (.string (AI [a,46])):=Cc [a] [46] (by simp)
     have sC:Cr .add (AI [a,46]) (AI D2)=some (.string (AI (a::46::D2))):=Cc [a,46] D2 (by simp;omega)
     have sF:Cr .add (AI (a::46::D2)) (AI [101])=some (.string (AI (a::46::(D2++[101])))):=Cc (a::46::D2) [101] (by simp;omega)
     have sG:Cr .add (AI (a::46::(D2++[101]))) (AI Z)=some (.string (AI (a::46::(D2++[101]++Z)))):=Cc (a::46::(D2++[101])) Z (by simp;omega)
     have pE:KY D X (AA (AI (D++[101]++X)))∧(AA (AI (D++[101]++X))).length≤300000:=⟨by rw [AD];exact .inr (.inr (.inr (.inl (by simp)))),by rw [AD];simp;omega⟩
     cases hz0:(Z==AA ⟨#[48]⟩) with
     |true=>
      simp -implicitDefEqProofs only [↓yP,yT,reduceCtorEq,Aw.eq_1,AD,d0,d1,i1,i00,t00,hT,hR,sA,Xv,sB,sC,AU,hz0]
      exact ⟨[AI (D++[101]++X)],rfl,by simp,by simp,fun s hs=>by
       simp only [List.mem_cons,List.not_mem_nil,or_false] at hs
       subst hs;exact pE⟩
     |false=>
      have pG:KY D X (AA (AI (a::46::(D2++[101]++Z))))∧(AA (AI (a::46::(D2++[101]++Z)))).length≤300000:=⟨by rw [AD];exact .inr (.inr (.inr (.inr ⟨[a],D2,Z,hDa,by simp,hD2,by simp,hz3⟩))),by rw [AD];simp;omega⟩
      simp -implicitDefEqProofs only [↓yP,yT,Nat.reduceAdd,Nat.reduceMul,Nat.reduceLeDiff,reduceCtorEq,Aw.eq_1,AD,d0,d1,i1,i00,t00,hT,hR,c0,sA,Xv,sB,sC,AU,hz0,sF,sG]
      exact ⟨[AI (D++[101]++X),AI (a::46::(D2++[101]++Z))],rfl,by simp,by simp,fun s hs=>by
       simp only [List.mem_cons,List.not_mem_nil,or_false] at hs
       rcases hs with rfl|rfl;exact pE;exact pG⟩
    ·have tk:AN (D.length:Nat) 1=true:=AH (by omega)
     have pE:KY D X (AA (AI (D++[101]++X)))∧(AA (AI (D++[101]++X))).length≤300000:=⟨by rw [AD];exact .inr (.inr (.inr (.inl (by simp)))),by rw [AD];simp;omega⟩
     simp -implicitDefEqProofs only [↓yP,yT,Nat.reduceAdd,Nat.reduceMul,Nat.reduceLeDiff,reduceCtorEq,AY.eq_1,AD,q0,q2,q3,wk,c0,sD,Mw,sE1,sE2,tk]
     exact ⟨[AI (D++[101]++X)],rfl,by simp,by simp,fun s hs=>by
      simp only [List.mem_cons,List.not_mem_nil,or_false] at hs
      subst hs;exact pE⟩
  ·have q0:AN 0 x=false:=AE g0
   by_cases gk:x≤0 - (D.length:Nat)
   ·have q3:AN x (0 - (D.length:Nat))=true:=AH gk
    by_cases g20:0 - (D.length:Nat) - 20≤x
    ·have q4:AN (0 - (D.length:Nat) - 20) x=true:=AH g20
     obtain ⟨n,hn⟩:=Int.eq_ofNat_of_zero_le (show 0≤0 - x - (D.length:Nat) by omega)
     have wx:IntKind.wrap .i64 (0 - x)=0 - x:=by rw [IntKind.wrap_i64];omega
     have wx2:AG .i64 (0 - x - (D.length:Nat))=(n:Nat):=by rw [hn];exact A1 (by omega)
     have s46:=RF [48,46] (by simp)
     have sN:Cr .add (AI [48,46]) (AI (List.replicate n 48))=some (.string (AI (48::46::List.replicate n 48))):=Cc [48,46] (List.replicate n 48) (by simp;omega)
     have sM:Cr .add (AI (48::46::List.replicate n 48)) (AI D)=some (.string (AI (48::46::(List.replicate n 48++D)))):=Cc (48::46::List.replicate n 48) D (by simp;omega)
     have pN:KY D X (AA (AI (48::46::(List.replicate n 48++D))))∧(AA (AI (48::46::(List.replicate n 48++D)))).length≤300000:=⟨by rw [AD];exact .inr (.inr (.inl ⟨n,rfl⟩)),by rw [AD];simp;omega⟩
     simp -implicitDefEqProofs only [↓yP,yT,AY.eq_1,AD,q0,q3,wk,wk2,q4,c0,lD,s46,wx,wx2]
     refine AB (LY n (by omega)) (by rfl) fun y hy=>?_
     subst hy
     by_cases hk1:1<D.length
     ·have tk:AN (D.length:Nat) 1=false:=AE (by omega)
      have wk1:AG .i64 ((D.length:Nat) - 1)=((D.length - 1:Nat):Int):=Bq (by omega) (by omega)
      have d0:(0:Int)≤1:=by omega
      have d1:(1:Int)≤(D.length:Nat):=by omega
      have i1:Int.toNat 1=1:=rfl
      simp -implicitDefEqProofs only [↓yP,yT,Nat.reduceAdd,Nat.reduceMul,Nat.reduceLeDiff,reduceCtorEq,sN,sM,c0,sD,Mw,sE1,sE2,tk]
      refine A8 (by rw [C5];kernel_rfl) ?_
      simp -implicitDefEqProofs only [↓yP,yT,wk1]
      refine AB (FN ((D.length - 1:Nat):Int) (by omega) (by omega)) (by rfl) fun y hy=>?_
      obtain ⟨z,rfl,hz,hzv,hzR⟩:=hy
      simp -implicitDefEqProofs only [yT]
      refine AB (FP 100010 (AI X) z (by omega) (by rw [AD];omega) (by omega) DI hzR) (by rfl) fun y hy=>?_
      obtain ⟨z2,rfl,hz2,hz3,hz4⟩:=hy
      simp -implicitDefEqProofs only [↓yP,yT]
      refine A8 (by rw [C5];kernel_rfl) ?_
      obtain ⟨Z,hzm,hZ⟩:∃Z,z2=AI Z∧AA z2=Z:=⟨AA z2,(Dn z2).symm,rfl⟩
      rw [hZ] at hz3 hz4
      subst hzm
      obtain ⟨a,D2,hDa⟩:∃a D2,D=a::D2:=by cases D with|nil=>exact absurd rfl hne|cons a D2=>exact ⟨a,D2,rfl⟩
      have hD2:D2≠[]:=by rintro rfl;rw [hDa] at hk1;simp at hk1
      have hT:List.take 1 D=[a]:=by rw [hDa];rfl
      have hR:List.take (D.length - 1) (List.drop 1 D)=D2:=by rw [hDa];simp
      have hDl:D2.length≤100000:=by rw [hDa] at hd;simp at hd;omega
      have sA:=RF [a] (by simp)
      have sB:Cr .add (AI [a]) (AI [46])=some (.string (AI [a,46])):=Cc [a] [46] (by simp)
      have sC:Cr .add (AI [a,46]) (AI D2)=some (.string (AI (a::46::D2))):=Cc [a,46] D2 (by simp;omega)
      have sF:Cr .add (AI (a::46::D2)) (AI [101])=some (.string (AI (a::46::(D2++[101])))):=Cc (a::46::D2) [101] (by simp;omega)
      have sG:Cr .add (AI (a::46::(D2++[101]))) (AI Z)=some (.string (AI (a::46::(D2++[101]++Z)))):=Cc (a::46::(D2++[101])) Z (by simp;omega)
      have pE:KY D X (AA (AI (D++[101]++X)))∧(AA (AI (D++[101]++X))).length≤300000:=⟨by rw [AD];exact .inr (.inr (.inr (.inl (by simp)))),by rw [AD];simp;omega⟩
      cases hz0:(Z==AA ⟨#[48]⟩) with
      |true=>
       simp -implicitDefEqProofs only [↓yP,yT,Nat.reduceAdd,reduceCtorEq,Aw.eq_1,AD,d0,d1,i1,i00,t00,hT,hR,sA,Xv,sB,sC,AU,hz0]
       exact ⟨[AI (48::46::(List.replicate n 48++D)),AI (D++[101]++X)],rfl,by simp,by simp,fun s hs=>by
        simp only [List.mem_cons,List.not_mem_nil,or_false] at hs
        exact two hs pN pE⟩
      |false=>
       have pG:KY D X (AA (AI (a::46::(D2++[101]++Z))))∧(AA (AI (a::46::(D2++[101]++Z)))).length≤300000:=⟨by rw [AD];exact .inr (.inr (.inr (.inr ⟨[a],D2,Z,hDa,by simp,hD2,by simp,hz3⟩))),by rw [AD];simp;omega⟩
       simp -implicitDefEqProofs only [↓yP,yT,Nat.reduceAdd,Nat.reduceMul,Nat.reduceLeDiff,reduceCtorEq,Aw.eq_1,AD,d0,d1,i1,i00,t00,hT,hR,c0,sA,Xv,sB,sC,AU,hz0,sF,sG]
       exact ⟨[AI (48::46::(List.replicate n 48++D)),AI (D++[101]++X),AI (a::46::(D2++[101]++Z))],rfl,by simp,by simp,fun s hs=>by
        simp only [List.mem_cons,List.not_mem_nil,or_false] at hs
        exact three hs pN pE pG⟩
     ·have tk:AN (D.length:Nat) 1=true:=AH (by omega)
      have pE:KY D X (AA (AI (D++[101]++X)))∧(AA (AI (D++[101]++X))).length≤300000:=⟨by rw [AD];exact .inr (.inr (.inr (.inl (by simp)))),by rw [AD];simp;omega⟩
      simp -implicitDefEqProofs only [↓yP,yT,Nat.reduceAdd,Nat.reduceMul,Nat.reduceLeDiff,reduceCtorEq,sN,sM,c0,sD,Mw,sE1,sE2,tk]
      exact ⟨[AI (48::46::(List.replicate n 48++D)),AI (D++[101]++X)],rfl,by simp,by simp,fun s hs=>by
       simp only [List.mem_cons,List.not_mem_nil,or_false] at hs
       exact two hs pN pE⟩
    ·have q4:AN (0 - (D.length:Nat) - 20) x=false:=AE g20
     by_cases hk1:1<D.length
     ·have tk:AN (D.length:Nat) 1=false:=AE (by omega)
      have wk1:AG .i64 ((D.length:Nat) - 1)=((D.length - 1:Nat):Int):=Bq (by omega) (by omega)
      have d0:(0:Int)≤1:=by omega
      have d1:(1:Int)≤(D.length:Nat):=by omega
      have i1:Int.toNat 1=1:=rfl
      simp -implicitDefEqProofs only [↓yP,yT,Nat.reduceAdd,Nat.reduceMul,Nat.reduceLeDiff,reduceCtorEq,AY.eq_1,AD,q0,q3,wk,wk2,q4,c0,sD,Mw,sE1,sE2,tk]
      refine A8 (by rw [C5];kernel_rfl) ?_
      simp -implicitDefEqProofs only [↓yP,yT,wk1]
      refine AB (FN ((D.length - 1:Nat):Int) (by omega) (by omega)) (by rfl) fun y hy=>?_
      obtain ⟨z,rfl,hz,hzv,hzR⟩:=hy
      simp -implicitDefEqProofs only [yT]
      refine AB (FP 100010 (AI X) z (by omega) (by rw [AD];omega) (by omega) DI hzR) (by rfl) fun y hy=>?_
      obtain ⟨z2,rfl,hz2,hz3,hz4⟩:=hy
      simp -implicitDefEqProofs only [↓yP,yT]
      refine A8 (by rw [C5];kernel_rfl) ?_
      obtain ⟨Z,hzm,hZ⟩:∃Z,z2=AI Z∧AA z2=Z:=⟨AA z2,(Dn z2).symm,rfl⟩
      rw [hZ] at hz3 hz4
      subst hzm
      obtain ⟨a,D2,hDa⟩:∃a D2,D=a::D2:=by cases D with|nil=>exact absurd rfl hne|cons a D2=>exact ⟨a,D2,rfl⟩
      have hD2:D2≠[]:=by rintro rfl;rw [hDa] at hk1;simp at hk1
      have hT:List.take 1 D=[a]:=by rw [hDa];rfl
      have hR:List.take (D.length - 1) (List.drop 1 D)=D2:=by rw [hDa];simp
      have hDl:D2.length≤100000:=by rw [hDa] at hd;simp at hd;omega
      have sA:=RF [a] (by simp)
      have sB:Cr .add (AI [a]) (AI [46])=some (.string (AI [a,46])):=Cc [a] [46] (by simp)
      have sC:Cr .add (AI [a,46]) (AI D2)=some (.string (AI (a::46::D2))):=Cc [a,46] D2 (by simp;omega)
      have sF:Cr .add (AI (a::46::D2)) (AI [101])=some (.string (AI (a::46::(D2++[101])))):=Cc (a::46::D2) [101] (by simp;omega)
      have sG:Cr .add (AI (a::46::(D2++[101]))) (AI Z)=some (.string (AI (a::46::(D2++[101]++Z)))):=Cc (a::46::(D2++[101])) Z (by simp;omega)
      have pE:KY D X (AA (AI (D++[101]++X)))∧(AA (AI (D++[101]++X))).length≤300000:=⟨by rw [AD];exact .inr (.inr (.inr (.inl (by simp)))),by rw [AD];simp;omega⟩
      cases hz0:(Z==AA ⟨#[48]⟩) with
      |true=>
       simp -implicitDefEqProofs only [↓yP,yT,reduceCtorEq,Aw.eq_1,AD,d0,d1,i1,i00,t00,hT,hR,sA,Xv,sB,sC,AU,hz0]
       exact ⟨[AI (D++[101]++X)],rfl,by simp,by simp,fun s hs=>by
        simp only [List.mem_cons,List.not_mem_nil,or_false] at hs
        subst hs;exact pE⟩
      |false=>
       have pG:KY D X (AA (AI (a::46::(D2++[101]++Z))))∧(AA (AI (a::46::(D2++[101]++Z)))).length≤300000:=⟨by rw [AD];exact .inr (.inr (.inr (.inr ⟨[a],D2,Z,hDa,by simp,hD2,by simp,hz3⟩))),by rw [AD];simp;omega⟩
       simp -implicitDefEqProofs only [↓yP,yT,Nat.reduceAdd,Nat.reduceMul,Nat.reduceLeDiff,reduceCtorEq,Aw.eq_1,AD,d0,d1,i1,i00,t00,hT,hR,c0,sA,Xv,sB,sC,AU,hz0,sF,sG]
       exact ⟨[AI (D++[101]++X),AI (a::46::(D2++[101]++Z))],rfl,by simp,by simp,fun s hs=>by
        simp only [List.mem_cons,List.not_mem_nil,or_false] at hs
        rcases hs with rfl|rfl;exact pE;exact pG⟩
     ·have tk:AN (D.length:Nat) 1=true:=AH (by omega)
      have pE:KY D X (AA (AI (D++[101]++X)))∧(AA (AI (D++[101]++X))).length≤300000:=⟨by rw [AD];exact .inr (.inr (.inr (.inl (by simp)))),by rw [AD];simp;omega⟩
      simp -implicitDefEqProofs only [↓yP,yT,Nat.reduceAdd,Nat.reduceMul,Nat.reduceLeDiff,reduceCtorEq,AY.eq_1,AD,q0,q3,wk,wk2,q4,c0,sD,Mw,sE1,sE2,tk]
      exact ⟨[AI (D++[101]++X)],rfl,by simp,by simp,fun s hs=>by
       simp only [List.mem_cons,List.not_mem_nil,or_false] at hs
       subst hs;exact pE⟩
   ·have q3:AN x (0 - (D.length:Nat))=false:=AE gk
    obtain ⟨n,hn⟩:=Int.eq_ofNat_of_zero_le (show 0≤(D.length:Nat)+x by omega)
    have wn:AG .i64 ((D.length:Nat)+x)=(n:Nat):=by rw [hn];exact A1 (by omega)
    have n0:(0:Int)≤(n:Nat):=by omega
    have n1:((n:Nat):Int)≤(D.length:Nat):=by omega
    have hR2:List.take (D.length - n) (List.drop n D)=List.drop n D:=List.take_of_length_le (by simp)
    have sT:=RF (List.take n D) (by simp;omega)
    have sU:=Cc (List.take n D) [46] (by simp;omega)
    have sV:=Cc (List.take n D++[46]) (List.drop n D) (by simp;omega)
    have hl1:(List.take n D).length=n:=by rw [List.length_take];omega
    have hl2:(List.drop n D).length=D.length - n:=List.length_drop ..
    have pN:KY D X (AA (AI (List.take n D++[46]++List.drop n D)))∧(AA (AI (List.take n D++[46]++List.drop n D))).length≤300000:=⟨by
     rw [AD]
     exact .inr (.inl ⟨List.take n D,List.drop n D,(List.take_append_drop n D).symm,fun e=>by rw [e] at hl1;simp at hl1;omega,fun e=>by rw [e] at hl2;simp at hl2;omega,by simp⟩),by
     rw [AD,List.length_append,List.length_append,hl1,hl2];simp;omega⟩
    simp -implicitDefEqProofs only [↓yP,yT,AY.eq_1,AD,q0,q3,wk]
    refine A8 (by rw [C5];kernel_rfl) ?_
    by_cases hk1:1<D.length
    ·have tk:AN (D.length:Nat) 1=false:=AE (by omega)
     have wk1:AG .i64 ((D.length:Nat) - 1)=((D.length - 1:Nat):Int):=Bq (by omega) (by omega)
     have d0:(0:Int)≤1:=by omega
     have d1:(1:Int)≤(D.length:Nat):=by omega
     have i1:Int.toNat 1=1:=rfl
     simp -implicitDefEqProofs only [↓yP,yT,Nat.reduceAdd,Nat.reduceMul,Nat.reduceLeDiff,reduceCtorEq,Aw.eq_1,AD,wn,n0,n1,i00,t00,hR2,sT,Xv,sU,sV,q3,wk,c0,sD,Mw,sE1,sE2,tk]
     refine A8 (by rw [C5];kernel_rfl) ?_
     simp -implicitDefEqProofs only [↓yP,yT,wk1]
     refine AB (FN ((D.length - 1:Nat):Int) (by omega) (by omega)) (by rfl) fun y hy=>?_
     obtain ⟨z,rfl,hz,hzv,hzR⟩:=hy
     simp -implicitDefEqProofs only [yT]
     refine AB (FP 100010 (AI X) z (by omega) (by rw [AD];omega) (by omega) DI hzR) (by rfl) fun y hy=>?_
     obtain ⟨z2,rfl,hz2,hz3,hz4⟩:=hy
     simp -implicitDefEqProofs only [↓yP,yT]
     refine A8 (by rw [C5];kernel_rfl) ?_
     obtain ⟨Z,hzm,hZ⟩:∃Z,z2=AI Z∧AA z2=Z:=⟨AA z2,(Dn z2).symm,rfl⟩
     rw [hZ] at hz3 hz4
     subst hzm
     obtain ⟨a,D2,hDa⟩:∃a D2,D=a::D2:=by cases D with|nil=>exact absurd rfl hne|cons a D2=>exact ⟨a,D2,rfl⟩
     have hD2:D2≠[]:=by rintro rfl;rw [hDa] at hk1;simp at hk1
     have hT:List.take 1 D=[a]:=by rw [hDa];rfl
     have hR:List.take (D.length - 1) (List.drop 1 D)=D2:=by rw [hDa];simp
     have hDl:D2.length≤100000:=by rw [hDa] at hd;simp at hd;omega
     have sA:=RF [a] (by simp)
     have sB:Cr .add (AI [a]) (AI [46])=some (.string (AI [a,46])):=Cc [a] [46] (by simp)
     have sC:Cr .add (AI [a,46]) (AI D2)=some (.string (AI (a::46::D2))):=Cc [a,46] D2 (by simp;omega)
     have sF:Cr .add (AI (a::46::D2)) (AI [101])=some (.string (AI (a::46::(D2++[101])))):=Cc (a::46::D2) [101] (by simp;omega)
     have sG:Cr .add (AI (a::46::(D2++[101]))) (AI Z)=some (.string (AI (a::46::(D2++[101]++Z)))):=Cc (a::46::(D2++[101])) Z (by simp;omega)
     have pE:KY D X (AA (AI (D++[101]++X)))∧(AA (AI (D++[101]++X))).length≤300000:=⟨by rw [AD];exact .inr (.inr (.inr (.inl (by simp)))),by rw [AD];simp;omega⟩
     cases hz0:(Z==AA ⟨#[48]⟩) with
     |true=>
      simp -implicitDefEqProofs only [↓yP,yT,Nat.reduceAdd,reduceCtorEq,Aw.eq_1,AD,d0,d1,i1,i00,t00,hT,hR,sA,sB,sC,AU,hz0]
      exact ⟨[AI (List.take n D++[46]++List.drop n D),AI (D++[101]++X)],rfl,by simp,by simp,fun s hs=>by
       simp only [List.mem_cons,List.not_mem_nil,or_false] at hs
       exact two hs pN pE⟩
     |false=>
      have pG:KY D X (AA (AI (a::46::(D2++[101]++Z))))∧(AA (AI (a::46::(D2++[101]++Z)))).length≤300000:=⟨by rw [AD];exact .inr (.inr (.inr (.inr ⟨[a],D2,Z,hDa,by simp,hD2,by simp,hz3⟩))),by rw [AD];simp;omega⟩
      simp -implicitDefEqProofs only [↓yP,yT,Nat.reduceAdd,Nat.reduceMul,Nat.reduceLeDiff,reduceCtorEq,Aw.eq_1,AD,d0,d1,i1,i00,t00,hT,hR,c0,sA,sB,sC,AU,hz0,sF,sG]
      exact ⟨[AI (List.take n D++[46]++List.drop n D),AI (D++[101]++X),AI (a::46::(D2++[101]++Z))],rfl,by simp,by simp,fun s hs=>by
       simp only [List.mem_cons,List.not_mem_nil,or_false] at hs
       exact three hs pN pE pG⟩
    ·have tk:AN (D.length:Nat) 1=true:=AH (by omega)
     have pE:KY D X (AA (AI (D++[101]++X)))∧(AA (AI (D++[101]++X))).length≤300000:=⟨by rw [AD];exact .inr (.inr (.inr (.inl (by simp)))),by rw [AD];simp;omega⟩
     simp -implicitDefEqProofs only [↓yP,yT,Nat.reduceAdd,Nat.reduceMul,Nat.reduceLeDiff,reduceCtorEq,Aw.eq_1,AD,wn,n0,n1,i00,t00,hR2,sT,Xv,sU,sV,q3,wk,c0,sD,Mw,sE1,sE2,tk]
     exact ⟨[AI (List.take n D++[46]++List.drop n D),AI (D++[101]++X)],rfl,by simp,by simp,fun s hs=>by
      simp only [List.mem_cons,List.not_mem_nil,or_false] at hs
      exact two hs pN pE⟩
end Go.Vx.Seat
end
section
open Go Go.Vx Go.Proofs
namespace Go.Vx.Seat
def mD (D X s:List UInt8):Prop:=
 (∃d1 d2,D=d1++d2∧d1≠[]∧d2≠[]∧s=d1++46::d2)∨(∃z,s=46::(List.replicate z 48++D))∨s=D++101::X∨
 (∃d1 d2 e,D=d1++d2∧d1≠[]∧d2≠[]∧s=d1++46::(d2++101::e)∧Dg (DO e))∨(∃z,s=D++(List.replicate z 48++[46,48]))
def m6 (D X:List UInt8) (whole:Bool) (body:List UInt8):Prop:=
 match whole with
 |true=>(D=[]∧body=[48])∨(D≠[]∧∃z,body=D++List.replicate z 48)
 |false=>(D=[]∧body=[46,48])∨(D≠[]∧mD D X body)
def IY (l:List UInt8):Bool:=l.any fun c=>AJ ((c.toNat:Nat):Int) 46||AJ ((c.toNat:Nat):Int) 101
def Eu (l:List UInt8):List UInt8:=match l with|48::46::t=>46::t|l=>l
theorem RZ {l:List UInt8} (h:JM l):IY l=false:=by
 rw [IY,List.any_eq_false]
 intro c hc
 have:=h c hc
 rw [AF (by omega),AF (by omega)];simp
theorem LW (a b:List UInt8):IY (a++b)=(IY a||IY b):=List.any_append ..
theorem NB (z:Nat):JM (List.replicate z 48):=fun c hc=>by rw [(List.mem_replicate.mp hc).2];decide
theorem fH {D X s:List UInt8} (hD:Dg D) (hn:∀c,D[0]?=some c→c.toNat≠48) (h:KY D X s):s≠[]∧(IY s=true→mD D X (Eu s))∧(∀c,s[0]?=some c→c.toNat=48→∃t,s=48::46::t):=by
 have hd0:∀(d1 d2 t:List UInt8),D=d1++d2→d1≠[]→d1++t≠[]∧Eu (d1++t)=d1++t∧∀c,(d1++t)[0]?=some c→c.toNat=48→False:=fun d1 d2 t e h1=>by
  cases d1 with
  |nil=>exact absurd rfl h1
  |cons a d1=>
   have ha:a.toNat≠48:=hn a (by rw [e];rfl)
   refine ⟨by simp,?_,fun c hc h48=>?_⟩
   ·show Eu (a::(d1++t))=a::(d1++t)
    unfold Eu
    split
    ·rename_i h'
     have h48:=(List.cons.inj h').1
     rw [h48] at ha;exact absurd rfl ha
    ·rfl
   ·simp at hc;subst hc;exact ha h48
 rcases h with ⟨z,rfl⟩|⟨d1,d2,e,h1,h2,rfl⟩|⟨z,rfl⟩|rfl|⟨d1,d2,x,e,h1,h2,rfl,hx⟩
 ·obtain ⟨k1,k2,k3⟩:=hd0 D [] (List.replicate z 48) (by simp) hD.1
  refine ⟨k1,fun h=>?_,fun c hc h48=>(k3 c hc h48).elim⟩
  rw [LW,RZ hD.2,RZ (NB z)] at h;cases h
 ·obtain ⟨k1,k2,k3⟩:=hd0 d1 d2 (46::d2) e h1
  exact ⟨k1,fun _=>by rw [k2];exact .inl ⟨d1,d2,e,h1,h2,rfl⟩,fun c hc h48=>(k3 c hc h48).elim⟩
 ·exact ⟨by simp,fun _=>.inr (.inl ⟨z,rfl⟩),fun c hc h48=>⟨_,rfl⟩⟩
 ·obtain ⟨k1,k2,k3⟩:=hd0 D [] (101::X) (by simp) hD.1
  exact ⟨k1,fun _=>by rw [k2];exact .inr (.inr (.inl rfl)),fun c hc h48=>(k3 c hc h48).elim⟩
 ·obtain ⟨k1,k2,k3⟩:=hd0 d1 d2 (46::(d2++101::x)) e h1
  exact ⟨k1,fun _=>by rw [k2];exact .inr (.inr (.inr (.inl ⟨d1,d2,x,e,h1,h2,rfl,hx⟩))),fun c hc h48=>(k3 c hc h48).elim⟩
theorem UB (l:List UInt8):(Eu l).length≤l.length:=by
 unfold Eu;split
 ·simp
 ·exact Nat.le_refl _
end Go.Vx.Seat
end
