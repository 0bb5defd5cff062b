/- Texts joined: VzDa VzDb VzDc VzY1 VyC5 VyC6 VyC7a VyE1a VzS1 VzS2 VzX1 VzDd VzDe. -/
import Derived.Test.YtmbonddknackiaaVm44
import Derived.Test.YtmbonddknackiaaVm39
import Derived.Test.YtmbonddknackiaaVm40
import Derived.Test.YtmbonddknackiaaVyGive
import Derived.Test.YtmbonddknackiaaVm42
import Derived.Test.YtmbonddknackiaaVyFrame
import Derived.Test.YtmbonddknackiaaVm41
set_option linter.unusedSimpArgs false
set_option linter.unusedVariables false
section
open Go Go.Vx Go.Proofs
set_option maxRecDepth 10000
set_option maxHeartbeats 16000000
namespace Go.Vx.Seat
attribute [local irreducible] Rg Rt Ro Ri Rc Ds Dt Dw Dx Rw Rl Rd Av An kf
theorem nW:By C1.P.funcs.toList 52=some Try.f52:=by kernel_rfl
def gT (neg sign:Bool):List UInt8:=if neg then [45] else if sign then [43] else []
def qF (neg sign whole:Bool) (D X:List UInt8) (y:YV):Prop:=∃out:List UInt8,y=yd (.string (AI out))∧out.length≤400000∧(out=[]∨(ZO (AI D) (AI X)∧∃body,out=gT neg sign++body∧m6 D X whole body))
theorem mC (l:List UInt8):Aj (AI l)=F5 l:=rfl
theorem Qj {st:BH} {id n:Nat} {out:List ByteArray} (h:By st id=some (.row 1 (out.map es))) (hn:n=out.length):[YV.c (.own id 1 0 n)].map (IV st)=[.c (.p (rS out))]:=by
 subst hn
 simp [IV,Qk,ES,h,List.take_of_length_le]
theorem Yu {l:List UInt8} {k:Nat} {c:UInt8} (h:l[k]?=some c):IY (l.take (k+1))=(IY (l.take k)||(AJ ((c.toNat:Nat):Int) 46||AJ ((c.toNat:Nat):Int) 101)):=by
 rw [List.take_add_one,h,LW]
 simp [IY]
theorem Sa (neg sign whole:Bool) (D X:List UInt8) (hd:D.length≤100000) (he:X.length≤100000):AS C1 52 [.agg (nm neg (AI D) (AI X)),yd (.bool whole),yd (.bool sign)] (qF neg sign whole D X):=by
 have i00:Int.toNat 0=0:=rfl
 have t00:(0:Int)≤0:=by omega
 have hrs:=J1 neg (AI D) (AI X) (by rw [AD];omega) (by rw [AD];omega)
 have hint:=SA (AI X) (by rw [AD];omega)
 unfold qF
 obtain ⟨G,hG⟩:∃G,G=gT neg sign:=⟨_,rfl⟩
 have hGl:G.length≤1:=by rw [hG];cases neg<;>cases sign<;>decide
 rw [←hG]
 have a1:Cr .add (AI G) (AI [48])=some (.string (AI (G++[48]))):=Cc G [48] (by simp;omega)
 have e1:Cr .add (AI G) (AI [46,48])=some (.string (AI (G++[46,48]))):=Cc G [46,48] (by simp;omega)
 have f1:Cr .add (AI G) (AI D)=some (.string (AI (G++D))):=Cc G D (by omega)
 refine Pf (by rfl) (by rfl) nW (by rfl) ?_
 simp only [Try.f52,List.length_cons,List.length_nil,List.replicate,List.cons_append,List.nil_append]
 simp -implicitDefEqProofs only [↓yP,yT,Nat.reduceAdd]
 refine AB hrs (by rfl) fun y hy=>?_
 subst hy
 cases hrn:kK (AI D) (AI X) with
 |false=>
  simp -implicitDefEqProofs only [↓yP,yT,reduceCtorEq,c0]
  exact ⟨[],rfl,by simp,.inl rfl⟩
 |true=>
 have hok:=YR (by rw [AD];omega) (by rw [AD];omega) hrn
 simp -implicitDefEqProofs only [↓yP,yT,c0,c43]
 refine aJ (fun e st=>(∃g:Nat→YV,e=[g 0,yd (.bool whole),g 2,.c (.ptr 0 0 0 0),g 4,g 5,g 6,yd (.string (AI (gT false sign))),g 8,g 9,g 10,g 11,g 12,g 13,g 14,g 15,g 16,g 17,g 18,g 19,g 20,g 21,g 22,g 23,g 24,g 25,g 26,g 27,g 28,g 29,g 30,g 31,g 32,g 33,g 34,g 35,g 36,g 37,g 38,g 39,g 40,g 41,g 42,g 43,g 44,g 45,g 46,g 47,g 48,g 49,g 50,g 51,g 52,g 53,g 54,g 55,g 56,g 57,g 58,g 59,g 60,g 61,g 62,g 63,g 64,g 65,g 66,g 67,g 68,g 69,g 70,g 71,g 72,g 73,g 74,g 75,g 76,g 77,g 78,g 79,g 80,g 81,g 82,g 83,g 84,g 85,g 86,g 87,g 88,g 89,g 90,g 91,g 92,g 93,g 94,g 95,g 96,g 97,g 98,g 99,g 100,g 101,g 102,g 103,g 104,g 105,g 106,g 107,g 108,g 109,g 110,g 111,g 112,g 113,g 114,g 115,g 116,g 117,g 118,g 119,g 120,g 121,g 122,g 123,g 124,g 125,g 126,g 127,g 128,g 129,g 130,g 131,g 132,g 133,g 134,g 135,g 136,g 137,g 138,g 139,g 140,g 141,g 142,g 143,g 144,g 145,g 146,g 147,g 148,g 149,g 150,g 151])∧st=[.box (nm neg (AI D) (AI X))]) ?_ ?_
 ·cases sign
  ·simp -implicitDefEqProofs only [↓yP,yT,Ae]
   exact BB rfl
  ·simp -implicitDefEqProofs only [↓yP,yT,Ae]
   exact BB rfl
 rintro e st ⟨⟨g1,rfl⟩,rfl⟩
 simp -implicitDefEqProofs only [↓yP,yT,c45]
 refine aJ (fun e st=>(∃g:Nat→YV,e=[g 0,yd (.bool whole),g 2,.c (.ptr 0 0 0 0),g 4,g 5,g 6,yd (.string (AI G)),g 8,g 9,g 10,g 11,g 12,g 13,g 14,g 15,g 16,g 17,g 18,g 19,g 20,g 21,g 22,g 23,g 24,g 25,g 26,g 27,g 28,g 29,g 30,g 31,g 32,g 33,g 34,g 35,g 36,g 37,g 38,g 39,g 40,g 41,g 42,g 43,g 44,g 45,g 46,g 47,g 48,g 49,g 50,g 51,g 52,g 53,g 54,g 55,g 56,g 57,g 58,g 59,g 60,g 61,g 62,g 63,g 64,g 65,g 66,g 67,g 68,g 69,g 70,g 71,g 72,g 73,g 74,g 75,g 76,g 77,g 78,g 79,g 80,g 81,g 82,g 83,g 84,g 85,g 86,g 87,g 88,g 89,g 90,g 91,g 92,g 93,g 94,g 95,g 96,g 97,g 98,g 99,g 100,g 101,g 102,g 103,g 104,g 105,g 106,g 107,g 108,g 109,g 110,g 111,g 112,g 113,g 114,g 115,g 116,g 117,g 118,g 119,g 120,g 121,g 122,g 123,g 124,g 125,g 126,g 127,g 128,g 129,g 130,g 131,g 132,g 133,g 134,g 135,g 136,g 137,g 138,g 139,g 140,g 141,g 142,g 143,g 144,g 145,g 146,g 147,g 148,g 149,g 150,g 151])∧st=[.box (nm neg (AI D) (AI X))]) ?_ ?_
 ·rw [hG]
  cases neg
  ·simp -implicitDefEqProofs only [↓yP,yT,Ae]
   exact BB rfl
  ·simp -implicitDefEqProofs only [↓yP,yT,Ae]
   exact BB rfl
 rintro e st ⟨⟨g2,rfl⟩,rfl⟩
 simp -implicitDefEqProofs only [↓yP,yT]
 refine AB hint (by rfl) fun y hy=>?_
 obtain ⟨x,ok,rfl,hx1,hx2⟩:=hy
 by_cases hD:D=[]
 ·have hD0:(D==([]:List UInt8))=true:=by rw [hD];rfl
  cases whole with
  |true=>
   simp -implicitDefEqProofs only [↓yP,yT,reduceCtorEq,At,AD,hD0,pQ,a1]
   exact ⟨G++[48],rfl,by simp;omega,.inr ⟨hok,[48],rfl,.inl ⟨hD,rfl⟩⟩⟩
  |false=>
   simp -implicitDefEqProofs only [↓yP,yT,reduceCtorEq,At,AD,hD0,gI,e1]
   exact ⟨G++[46,48],rfl,by simp;omega,.inr ⟨hok,[46,48],rfl,.inl ⟨hD,rfl⟩⟩⟩
 ·have hD0:(D==([]:List UInt8))=false:=by rw [beq_eq_false_iff_ne];exact hD
  cases whole with
  |true=>
   by_cases hw:ok=true∧0≤x∧x≤20000
   ·obtain ⟨rfl,h0,h2⟩:=hw
    obtain ⟨n,rfl⟩:=Int.eq_ofNat_of_zero_le h0
    have q1:AN 0 ((n:Nat):Int)=true:=AH h0
    have q2:AN ((n:Nat):Int) 20000=true:=AH h2
    have bA:(G++D).length≤70368744177664:=by rw [List.length_append];omega
    simp -implicitDefEqProofs only [↓yP,yT,At,AD,hD0,q1,q2,f1,bA,Br,mC]
    refine Ah (fun d e st=>∃(i:Nat) (R:List Int),e=[Tp,Tp,Tp,Tp,Tp,Tp,Tp,Tp,Tp,yd (.int .i64 (n:Nat)),Tp,.c (.own 1 1 0 R.length),yd (.int .i64 (i:Nat)),Tp,Tp,Tp,Tp,Tp,Tp,Tp,Tp,Tp,Tp,Tp,Tp,Tp,Tp,Tp,Tp,Tp,Tp,Tp,Tp,Tp,Tp,Tp,Tp,Tp,Tp,Tp,Tp,Tp,Tp,Tp,Tp,Tp,Tp,Tp,Tp,Tp,Tp,Tp,Tp,Tp,Tp,Tp,Tp,Tp,Tp,Tp,Tp,Tp,Tp,Tp,Tp,Tp,Tp,Tp,Tp,Tp,Tp,Tp,Tp,Tp,Tp,Tp,Tp,Tp,Tp,Tp,Tp,Tp,Tp,Tp,Tp,Tp,Tp,Tp,Tp,Tp,Tp,Tp,Tp,Tp,Tp,Tp,Tp,Tp,Tp,Tp,Tp,Tp,Tp,Tp,Tp,Tp,Tp,Tp,Tp,Tp,Tp,Tp,Tp,Tp,Tp,Tp,Tp,Tp,Tp,Tp,Tp,Tp,Tp,Tp,Tp,Tp,Tp,Tp,Tp,Tp,Tp,Tp,Tp,Tp,Tp,Tp,Tp,Tp,Tp,Tp,Tp,Tp,Tp,Tp,Tp,Tp,Tp,Tp,Tp,Tp,Tp,Tp]∧st=[.box (nm neg (AI D) (AI X)),.row 1 (R.map eb)]∧i+d=n∧R=F5 (G++D++List.replicate i 48)) [false,false,false,false,false,false,false,false,false,true,false,true,true] n [0,1] (by decide) (AC _) ⟨0,F5 (G++D),by first|(simp only [yE,reduceCtorEq];done)|(simp only [yE,reduceCtorEq,Gt];rfl),by (simp only [yE];try rfl),by omega,by simp⟩ ?_
    rintro d e st ⟨i,R,rfl,rfl,hd',hR⟩
    have hlen:R.length=(G++D).length+i:=by rw [hR,Gt,List.length_append,List.length_replicate]
    by_cases hi:i<n
    ·have t1:AN (n:Nat) (i:Nat)=false:=AE (by omega)
     have w1:AG .i64 ((i:Int)+1)=((i+1:Nat):Int):=AK (by omega)
     have b1:(R.length+1)*1≤70368744177664:=by rw [hlen,List.length_append];omega
     have hnew:R++[48]=F5 (G++D++List.replicate (i+1) 48):=by rw [hR,List.replicate_succ',←List.append_assoc];simp [F5]
     simp -implicitDefEqProofs only [↓yP,yT,Nat.reduceAdd,Nat.reduceMul,Nat.reduceLeDiff,t1,w1,b1]
     refine ⟨d - 1,[0,3],by omega,by decide,AC _,i+1,R++[48],by (simp only [yE,reduceCtorEq];try rfl),?_,by omega,hnew⟩
     simp only [yE,List.map_append];rfl
    ·have t1:AN (n:Nat) (i:Nat)=true:=AH (by omega)
     obtain rfl:i=n:=by omega
     simp -implicitDefEqProofs only [↓yP,yT,reduceCtorEq,t1,A6,Ar]
     refine ⟨G++D++List.replicate i 48,?_,by simp;omega,.inr ⟨hok,D++List.replicate i 48,by simp,.inr ⟨hD,i,rfl⟩⟩⟩
     have:=RN (G++D++List.replicate i 48)
     show yd (.string (AO R))=_
     rw [hR,←Dn (AO _),this]
   ·cases ok with
    |false=>
     simp -implicitDefEqProofs only [↓yP,yT,reduceCtorEq,At,AD,hD0]
     exact ⟨[],rfl,by simp,.inl rfl⟩
    |true=>
     by_cases h0:0≤x
     ·have q1:AN 0 x=true:=AH h0
      have q2:AN x 20000=false:=AE fun h=>hw ⟨rfl,h0,h⟩
      simp -implicitDefEqProofs only [↓yP,yT,reduceCtorEq,At,AD,hD0,q1,q2]
      exact ⟨[],rfl,by simp,.inl rfl⟩
     ·have q1:AN 0 x=false:=AE h0
      simp -implicitDefEqProofs only [↓yP,yT,reduceCtorEq,At,AD,hD0,q1]
      exact ⟨[],rfl,by simp,.inl rfl⟩
  |false=>
   simp -implicitDefEqProofs only [↓yP,yT,Nat.reduceAdd,Nat.reduceLeDiff,reduceCtorEq,At,AD,hD0,c0]
   have hpl:=SY (AI D) (AI X) (by rw [AD];exact hd) (by rw [AD];exact he) (by rw [AD];exact hD) hrn
   rw [AD,AD] at hpl
   obtain ⟨hDg,hDn,_⟩:Dg D∧(∀c,D[0]?=some c→c.toNat≠48)∧If X:=by
    rcases hok with h|h
    ·exact absurd h.1 hD
    ·exact h
   refine AB hpl (by rfl) fun y hy=>?_
   obtain ⟨ls,rfl,hl10,hlE,hls⟩:=hy
   simp -implicitDefEqProofs only [↓yP,yT]
   refine Cb 15 1 (by decide) rfl ?_
   refine Ah (fun d e st=>∃(i:Nat) (out:List ByteArray),e=[Tp,Tp,Tp,Tp,Tp,Tp,Tp,yd (.string (AI G)),yd (.string (AI D)),yd (.int .i64 x),yd (.bool ok),Tp,Tp,Tp,.c (.p (rS ls)),.c (.own 2 1 0 out.length),yd (.int .i64 (i:Nat)),Tp,Tp,Tp,Tp,Tp,Tp,Tp,Tp,Tp,Tp,Tp,Tp,Tp,Tp,Tp,Tp,Tp,Tp,Tp,Tp,Tp,Tp,Tp,Tp,Tp,Tp,Tp,Tp,Tp,Tp,Tp,Tp,Tp,Tp,Tp,Tp,Tp,Tp,Tp,Tp,Tp,Tp,Tp,Tp,Tp,Tp,Tp,Tp,Tp,Tp,Tp,Tp,Tp,Tp,Tp,Tp,Tp,Tp,Tp,Tp,Tp,Tp,Tp,Tp,Tp,Tp,Tp,Tp,Tp,Tp,Tp,Tp,Tp,Tp,Tp,Tp,Tp,Tp,Tp,Tp,Tp,Tp,Tp,Tp,Tp,Tp,Tp,Tp,Tp,Tp,Tp,Tp,Tp,Tp,Tp,Tp,Tp,Tp,Tp,Tp,Tp,Tp,Tp,Tp,Tp,Tp,Tp,Tp,Tp,Tp,Tp,Tp,Tp,Tp,Tp,Tp,Tp,Tp,Tp,Tp,Tp,Tp,Tp,Tp,Tp,Tp,Tp,Tp,Tp,Tp,Tp,Tp,Tp,Tp,Tp]∧st=[.box (nm neg (AI D) (AI X)),.box (nm false (AI D) (AI X)),.row 1 (out.map es)]∧i+d=ls.length∧out.length≤i∧(∀s,s∈out→mD D X (AA s)∧(AA s).length≤300000)∧(∀s,s∈ls.take i→IY (AA s)=true→out≠[])) [false,false,false,false,false,false,false,true,true,true,true,false,false,false,true,true,true] ls.length [0,1,2] (by decide) (AC _) ⟨0,[],by (simp only [yE,Nat.reduceAdd];try rfl),by (simp only [yE];try rfl),by omega,by simp,fun s h=>by simp at h,fun s h=>by simp at h⟩ ?_
   rintro d e st ⟨i,out,rfl,rfl,hd',hol,hos,hne⟩
   by_cases hi:i<ls.length
   ·obtain ⟨zs,hzs⟩:=get_lt hi
    obtain ⟨hP,hzl⟩:=hls zs (List.mem_of_getElem? hzs)
    obtain ⟨Zl,hzm,hZl⟩:∃Zl,zs=AI Zl∧AA zs=Zl:=⟨AA zs,(Dn zs).symm,rfl⟩
    rw [hZl] at hP hzl
    obtain ⟨hz1,hz2,hz3⟩:=fH hDg hDn hP
    have hzsl:=UB Zl
    subst hzm
    have t1:AN (ls.length:Nat) (i:Nat)=false:=AE (by omega)
    have w1:AG .i64 ((i:Int)+1)=((i+1:Nat):Int):=AK (by omega)
    have htk:ls.take (i+1)=ls.take i++[AI Zl]:=by rw [List.take_add_one,hzs];rfl
    have happ:∀s,s∈ls.take (i+1)→IY (AA s)=true→out++[AI (Eu Zl)]≠[]:=fun _ _ _=>by simp
    have hskip:IY Zl=false→∀s,s∈ls.take (i+1)→IY (AA s)=true→out≠[]:=fun h0 s hs hb=>by
     rw [htk] at hs
     rcases List.mem_append.mp hs with hs|hs
     ·exact hne s hs hb
     ·rw [List.mem_singleton.mp hs,AD,h0] at hb;cases hb
    have hnewo:IY Zl=true→∀s,s∈out++[AI (Eu Zl)]→mD D X (AA s)∧(AA s).length≤300000:=fun h0 s hs=>by
     rcases List.mem_append.mp hs with hs|hs
     ·exact hos s hs
     ·rw [List.mem_singleton.mp hs,AD];exact ⟨hz2 h0,by omega⟩
    have b1:(out.length+1)*16≤70368744177664:=by omega
    simp -implicitDefEqProofs only [↓yP,yT,t1,AP hzs,es]
    refine Ah (fun d e st=>∃(k:Nat) (h:Bool),e=[Tp,Tp,Tp,Tp,Tp,Tp,Tp,yd (.string (AI G)),yd (.string (AI D)),yd (.int .i64 x),yd (.bool ok),Tp,Tp,Tp,.c (.p (rS ls)),.c (.own 2 1 0 out.length),yd (.int .i64 (i:Nat)),yd (.string (AI Zl)),yd (.bool h),yd (.int .i64 (k:Nat)),Tp,Tp,Tp,Tp,Tp,Tp,Tp,Tp,Tp,Tp,Tp,Tp,Tp,Tp,Tp,Tp,Tp,Tp,Tp,Tp,Tp,Tp,Tp,Tp,Tp,Tp,Tp,Tp,Tp,Tp,Tp,Tp,Tp,Tp,Tp,Tp,Tp,Tp,Tp,Tp,Tp,Tp,Tp,Tp,Tp,Tp,Tp,Tp,Tp,Tp,Tp,Tp,Tp,Tp,Tp,Tp,Tp,Tp,Tp,Tp,Tp,Tp,Tp,Tp,Tp,Tp,Tp,Tp,Tp,Tp,Tp,Tp,Tp,Tp,Tp,Tp,Tp,Tp,Tp,Tp,Tp,Tp,Tp,Tp,Tp,Tp,Tp,Tp,Tp,Tp,Tp,Tp,Tp,Tp,Tp,Tp,Tp,Tp,Tp,Tp,Tp,Tp,Tp,Tp,Tp,Tp,Tp,Tp,Tp,Tp,Tp,Tp,Tp,Tp,Tp,Tp,Tp,Tp,Tp,Tp,Tp,Tp,Tp,Tp,Tp,Tp,Tp,Tp,Tp,Tp,Tp,Tp]∧st=[.box (nm neg (AI D) (AI X)),.box (nm false (AI D) (AI X)),.row 1 (out.map es)]∧k+d=Zl.length∧h=IY (Zl.take k)) [false,false,false,false,false,false,false,true,true,true,true,false,false,false,true,true,true,true,true,true] Zl.length [0,1,2] (by decide) (AC _) ⟨0,false,by (simp only [yE,Nat.reduceEqDiff,Nat.reduceAdd,reduceCtorEq];try rfl),by (simp only [yE];try rfl),by omega,by simp [IY]⟩ ?_
    rintro d2 e st ⟨k,h,rfl,rfl,hd2,hh⟩
    by_cases hk:k<Zl.length
    ·obtain ⟨c,hc⟩:=get_lt hk
     have tk:AN (Zl.length:Nat) (k:Nat)=false:=AE (by omega)
     have wk:AG .i64 ((k:Int)+1)=((k+1:Nat):Int):=AK (by omega)
     have t0k:(0:Int)≤(k:Nat):=by omega
     have hta:=Yu hc
     rw [←hh] at hta
     cases h with
     |true=>
      simp -implicitDefEqProofs only [↓yP,yT,AY.eq_1,AD,tk,wk]
      refine ⟨d2 - 1,[0,1,2],by omega,by decide,AC _,k+1,true,by (simp only [yE,Nat.reduceEqDiff,Nat.reduceAdd,reduceCtorEq];try rfl),by (simp only [yE];try rfl),by omega,by rw [hta];rfl⟩
     |false=>
      cases m1:AJ (c.toNat:Nat) 46 with
      |true=>
       simp -implicitDefEqProofs only [↓yP,yT,AY.eq_1,AV.eq_1,AD,tk,wk,t0k,hc,m1]
       refine ⟨d2 - 1,[0,1,2],by omega,by decide,AC _,k+1,true,by (simp only [yE,Nat.reduceEqDiff,Nat.reduceAdd,reduceCtorEq];try rfl),by (simp only [yE];try rfl),by omega,by rw [hta,m1];rfl⟩
      |false=>
       cases m2:AJ (c.toNat:Nat) 101 with
       |true=>
        simp -implicitDefEqProofs only [↓yP,yT,AY.eq_1,AV.eq_1,AD,tk,wk,t0k,hc,m1,m2]
        refine ⟨d2 - 1,[0,1,2],by omega,by decide,AC _,k+1,true,by (simp only [yE,Nat.reduceEqDiff,Nat.reduceAdd,reduceCtorEq];try rfl),by (simp only [yE];try rfl),by omega,by rw [hta,m1,m2];rfl⟩
       |false=>
        simp -implicitDefEqProofs only [↓yP,yT,AY.eq_1,AV.eq_1,AD,tk,wk,t0k,hc,m1,m2]
        refine ⟨d2 - 1,[0,1,2],by omega,by decide,AC _,k+1,false,by (simp only [yE,Nat.reduceEqDiff,Nat.reduceAdd,reduceCtorEq];try rfl),by (simp only [yE];try rfl),by omega,by rw [hta,m1,m2];rfl⟩
    ·have tk:AN (Zl.length:Nat) (k:Nat)=true:=AH (by omega)
     rw [List.take_of_length_le (by omega)] at hh
     obtain ⟨z0,hz0⟩:=get_lt (List.length_pos_iff.mpr hz1)
     cases n1:AJ (z0.toNat:Nat) 48 with
     |true=>
      obtain ⟨t,htt⟩:=hz3 z0 hz0 (by have:=AQ n1;omega)
      have hz1':Zl[Int.toNat 1]?=some 46:=by rw [htt];rfl
      have n2:AJ (((46:UInt8).toNat:Nat):Int) 46=true:=rfl
      have d0:(0:Int)≤1:=by omega
      have d1:(1:Int)≤(Zl.length:Nat):=by rw [htt];simp;omega
      have i1:Int.toNat 1=1:=rfl
      have hst:List.take (Zl.length - 1) (List.drop 1 Zl)=Eu Zl:=by rw [htt];simp [Eu]
      cases h with
      |true=>
       simp -implicitDefEqProofs only [↓yP,yT,AY.eq_1,AV.eq_1,Aw.eq_1,AD,tk,t00,i00,hz0,n1,d0,hz1',n2]
       simp -implicitDefEqProofs only [↓yP,yT,Nat.reduceAdd,Nat.reduceMul,Nat.reduceLeDiff,reduceCtorEq,d1,i1,hst,b1,w1]
       refine ⟨d - 1,[0,1,4],by omega,by decide,AC _,i+1,out++[AI (Eu Zl)],by (simp only [yE,Nat.reduceEqDiff,Nat.reduceAdd,reduceCtorEq];try rfl),?_,by omega,by simp;omega,hnewo hh.symm,happ⟩
       simp only [yE,List.map_append];rfl
      |false=>
       simp -implicitDefEqProofs only [↓yP,yT,AY.eq_1,AV.eq_1,Aw.eq_1,AD,tk,t00,i00,hz0,n1,d0,hz1',n2]
       simp -implicitDefEqProofs only [↓yP,yT,d1,i1,hst,w1]
       refine ⟨d - 1,[0,1,2],by omega,by decide,AC _,i+1,out,by (simp only [yE,Nat.reduceEqDiff,Nat.reduceAdd,reduceCtorEq];try rfl),by (simp only [yE];try rfl),by omega,by omega,hos,hskip hh.symm⟩
     |false=>
      have hsz:Eu Zl=Zl:=by
       cases Zl with
       |nil=>rfl
       |cons a t=>
        simp at hz0;subst hz0
        unfold Eu
        split
        ·rename_i h'
         have h48:=(List.cons.inj h').1
         rw [h48] at n1;exact absurd n1 (by decide)
        ·rfl
      cases h with
      |true=>
       simp -implicitDefEqProofs only [↓yP,yT,Nat.reduceAdd,Nat.reduceMul,Nat.reduceLeDiff,reduceCtorEq,AY.eq_1,AV.eq_1,AD,tk,t00,i00,hz0,n1,b1,w1]
       refine ⟨d - 1,[0,1,4],by omega,by decide,AC _,i+1,out++[AI (Eu Zl)],by (simp only [yE,Nat.reduceEqDiff,Nat.reduceAdd,reduceCtorEq];try rfl),?_,by omega,by simp;omega,hnewo hh.symm,happ⟩
       rw [hsz]
       simp only [yE,List.map_append];rfl
      |false=>
       simp -implicitDefEqProofs only [↓yP,yT,AY.eq_1,AV.eq_1,AD,tk,t00,i00,hz0,n1,w1]
       refine ⟨d - 1,[0,1,2],by omega,by decide,AC _,i+1,out,by (simp only [yE,Nat.reduceEqDiff,Nat.reduceAdd,reduceCtorEq];try rfl),by (simp only [yE];try rfl),by omega,by omega,hos,hskip hh.symm⟩
   ·have t1:AN (ls.length:Nat) (i:Nat)=true:=AH (by omega)
    rw [List.take_of_length_le (by omega)] at hne
    have hon:out≠[]:=hne _ hlE (by rw [AD,LW,LW];simp [IY,BN])
    have hsh:=J0 out (by omega)
    by_cases hw:ok=true∧0≤x∧x≤20
    ·obtain ⟨rfl,h0,h2⟩:=hw
     obtain ⟨n,rfl⟩:=Int.eq_ofNat_of_zero_le h0
     have q1:AN 0 ((n:Nat):Int)=true:=AH h0
     have q2:AN ((n:Nat):Int) 20=true:=AH h2
     simp -implicitDefEqProofs only [↓yP,yT,t1,q1,q2]
     refine Ah (fun d e st=>∃(j:Nat) (R:List UInt8),e=[Tp,Tp,Tp,Tp,Tp,Tp,Tp,yd (.string (AI G)),Tp,yd (.int .i64 (n:Nat)),Tp,Tp,Tp,Tp,Tp,.c (.own 2 1 0 out.length),Tp,Tp,Tp,Tp,yd (.string (AI R)),yd (.int .i64 (j:Nat)),Tp,Tp,Tp,Tp,Tp,Tp,Tp,Tp,Tp,Tp,Tp,Tp,Tp,Tp,Tp,Tp,Tp,Tp,Tp,Tp,Tp,Tp,Tp,Tp,Tp,Tp,Tp,Tp,Tp,Tp,Tp,Tp,Tp,Tp,Tp,Tp,Tp,Tp,Tp,Tp,Tp,Tp,Tp,Tp,Tp,Tp,Tp,Tp,Tp,Tp,Tp,Tp,Tp,Tp,Tp,Tp,Tp,Tp,Tp,Tp,Tp,Tp,Tp,Tp,Tp,Tp,Tp,Tp,Tp,Tp,Tp,Tp,Tp,Tp,Tp,Tp,Tp,Tp,Tp,Tp,Tp,Tp,Tp,Tp,Tp,Tp,Tp,Tp,Tp,Tp,Tp,Tp,Tp,Tp,Tp,Tp,Tp,Tp,Tp,Tp,Tp,Tp,Tp,Tp,Tp,Tp,Tp,Tp,Tp,Tp,Tp,Tp,Tp,Tp,Tp,Tp,Tp,Tp,Tp,Tp,Tp,Tp,Tp,Tp,Tp,Tp,Tp,Tp,Tp,Tp]∧st=[.box (nm neg (AI D) (AI X)),.box (nm false (AI D) (AI X)),.row 1 (out.map es)]∧j+d=n∧R=D++List.replicate j 48) [false,false,false,false,false,false,false,true,false,true,false,false,false,false,false,true,false,false,false,false,true,true] n [0,1,2] (by decide) (AC _) ⟨0,D,by (simp only [yE,Nat.reduceEqDiff,Nat.reduceAdd,reduceCtorEq];try rfl),by (simp only [yE];try rfl),by omega,by simp⟩ ?_
     rintro d3 e st ⟨j,R,rfl,rfl,hd3,hR⟩
     have hRl:R.length=D.length+j:=by rw [hR];simp
     by_cases hj:j<n
     ·have tj:AN (n:Nat) (j:Nat)=false:=AE (by omega)
      have wj:AG .i64 ((j:Int)+1)=((j+1:Nat):Int):=AK (by omega)
      have sj:=Cc R [48] (by simp;omega)
      simp -implicitDefEqProofs only [↓yP,yT,tj,wj,pQ,sj]
      refine ⟨d3 - 1,[0,1,2],by omega,by decide,AC _,j+1,R++[48],by (simp only [yE,Nat.reduceEqDiff,Nat.reduceAdd,reduceCtorEq];try rfl),by (simp only [yE];try rfl),by omega,by rw [hR,List.replicate_succ'];simp⟩
     ·have tj:AN (n:Nat) (j:Nat)=true:=AH (by omega)
      have sj:=Cc R [46,48] (by simp;omega)
      have b1:(out.length+1)*16≤70368744177664:=by omega
      have hos2:∀s,s∈out++[AI (R++[46,48])]→mD D X (AA s)∧(AA s).length≤300000:=fun s hs=>by
       rcases List.mem_append.mp hs with hs|hs
       ·exact hos s hs
       ·rw [List.mem_singleton.mp hs,AD]
        exact ⟨.inr (.inr (.inr (.inr ⟨j,by rw [hR];simp⟩))),by simp;omega⟩
      have hsh2:=J0 (out++[AI (R++[46,48])]) (by simp;omega)
      simp -implicitDefEqProofs only [↓yP,yT,Nat.reduceAdd,Nat.reduceMul,Nat.reduceLeDiff,reduceCtorEq,tj,gI,sj,b1]
      refine BV (Qj (out:=out++[AI (R++[46,48])]) (by rw [List.map_append];rfl) (by simp)) hsh2 (by rfl) fun y hy=>⟨by obtain ⟨_,rfl,_⟩:=hy;rfl,?_⟩
      have hon2:out++[AI (R++[46,48])]≠[]:=by simp
      obtain ⟨z,rfl,hz⟩:=hy
      have hzin:z∈(out++[AI (R++[46,48])]):=by
       rcases hz with ⟨_,hz⟩|hz
       ·exact absurd hz hon2
       ·exact hz
      obtain ⟨hzs,hzl⟩:=hos2 z hzin
      obtain ⟨Z,hzm,hZ⟩:∃Z,z=AI Z∧AA z=Z:=⟨AA z,(Dn z).symm,rfl⟩
      rw [hZ] at hzs hzl
      subst hzm
      have sZ:Cr .add (AI G) (AI Z)=some (.string (AI (G++Z))):=Cc G Z (by omega)
      simp -implicitDefEqProofs only [↓yP,yT,reduceCtorEq,sZ]
      exact ⟨G++Z,rfl,by simp;omega,.inr ⟨hok,Z,rfl,.inr ⟨hD,hzs⟩⟩⟩
    ·cases ok with
     |false=>
      simp -implicitDefEqProofs only [↓yP,yT,t1]
      refine BV (Qj (out:=out) rfl rfl) hsh (by rfl) fun y hy=>⟨by obtain ⟨_,rfl,_⟩:=hy;rfl,?_⟩
      obtain ⟨z,rfl,hz⟩:=hy
      have hzin:z∈out:=by
       rcases hz with ⟨_,hz⟩|hz
       ·exact absurd hz hon
       ·exact hz
      obtain ⟨hzs,hzl⟩:=hos z hzin
      obtain ⟨Z,hzm,hZ⟩:∃Z,z=AI Z∧AA z=Z:=⟨AA z,(Dn z).symm,rfl⟩
      rw [hZ] at hzs hzl
      subst hzm
      have sZ:Cr .add (AI G) (AI Z)=some (.string (AI (G++Z))):=Cc G Z (by omega)
      simp -implicitDefEqProofs only [↓yP,yT,reduceCtorEq,sZ]
      exact ⟨G++Z,rfl,by simp;omega,.inr ⟨hok,Z,rfl,.inr ⟨hD,hzs⟩⟩⟩
     |true=>
      by_cases h0:0≤x
      ·have q1:AN 0 x=true:=AH h0
       have q2:AN x 20=false:=AE fun h=>hw ⟨rfl,h0,h⟩
       simp -implicitDefEqProofs only [↓yP,yT,t1,q1,q2]
       refine BV (Qj (out:=out) rfl rfl) hsh (by rfl) fun y hy=>⟨by obtain ⟨_,rfl,_⟩:=hy;rfl,?_⟩
       obtain ⟨z,rfl,hz⟩:=hy
       have hzin:z∈out:=by
        rcases hz with ⟨_,hz⟩|hz
        ·exact absurd hz hon
        ·exact hz
       obtain ⟨hzs,hzl⟩:=hos z hzin
       obtain ⟨Z,hzm,hZ⟩:∃Z,z=AI Z∧AA z=Z:=⟨AA z,(Dn z).symm,rfl⟩
       rw [hZ] at hzs hzl
       subst hzm
       have sZ:Cr .add (AI G) (AI Z)=some (.string (AI (G++Z))):=Cc G Z (by omega)
       simp -implicitDefEqProofs only [↓yP,yT,reduceCtorEq,sZ]
       exact ⟨G++Z,rfl,by simp;omega,.inr ⟨hok,Z,rfl,.inr ⟨hD,hzs⟩⟩⟩
      ·have q1:AN 0 x=false:=AE h0
       simp -implicitDefEqProofs only [↓yP,yT,t1,q1]
       refine BV (Qj (out:=out) rfl rfl) hsh (by rfl) fun y hy=>⟨by obtain ⟨_,rfl,_⟩:=hy;rfl,?_⟩
       obtain ⟨z,rfl,hz⟩:=hy
       have hzin:z∈out:=by
        rcases hz with ⟨_,hz⟩|hz
        ·exact absurd hz hon
        ·exact hz
       obtain ⟨hzs,hzl⟩:=hos z hzin
       obtain ⟨Z,hzm,hZ⟩:∃Z,z=AI Z∧AA z=Z:=⟨AA z,(Dn z).symm,rfl⟩
       rw [hZ] at hzs hzl
       subst hzm
       have sZ:Cr .add (AI G) (AI Z)=some (.string (AI (G++Z))):=Cc G Z (by omega)
       simp -implicitDefEqProofs only [↓yP,yT,reduceCtorEq,sZ]
       exact ⟨G++Z,rfl,by simp;omega,.inr ⟨hok,Z,rfl,.inr ⟨hD,hzs⟩⟩⟩
end Go.Vx.Seat
end
section
open Go Go.Vx Go.Proofs
set_option maxRecDepth 10000
set_option maxHeartbeats 16000000
namespace Go.Vx.Seat
attribute [local irreducible] Rg Rt Ro Ri Rc Ds Dt Dw Dx Rw Rl Rd Av An kf
theorem mI:By C1.P.funcs.toList 21=some Try.f21:=by kernel_rfl
def U7 (k:Int):Int:=if AJ k 16 then 58 else if AJ k 17 then 59 else if AJ k 18 then 44 else if AJ k 19 then 123 else if AJ k 20 then 125 else if AJ k 21 then 40 else if AJ k 22 then 41 else if AJ k 23 then 91 else 93
theorem Z1 (t:Tok) (hd:(AA t.digits).length≤100000) (hx:(AA t.exp).length≤100000):∃out:List UInt8,AS C1 52 [.agg (nm t.neg t.digits t.exp),yd (.bool t.flag),yd (.bool t.sign)] (fun y=>y=yd (.string (AI out)))∧out.length≤400000∧
  (out=[]∨(ZO t.digits t.exp∧∃body,out=gT t.neg t.sign++body∧m6 (AA t.digits) (AA t.exp) t.flag body)):=by
 obtain ⟨y,⟨out,rfl,h1,h2⟩,h3⟩:=(Sa t.neg t.sign t.flag (AA t.digits) (AA t.exp) hd hx).det Nh JO rfl
 exact ⟨out,h3,h1,h2⟩
noncomputable def Jt (t:Tok):List UInt8:=if h:(AA t.digits).length≤100000∧(AA t.exp).length≤100000 then Classical.choose (Z1 t h.1 h.2) else []
theorem OH (t:Tok) (hd:(AA t.digits).length≤100000) (hx:(AA t.exp).length≤100000):AS C1 52 [.agg (nm t.neg t.digits t.exp),yd (.bool t.flag),yd (.bool t.sign)] (fun y=>y=yd (.string (AI (Jt t))))∧(Jt t).length≤400000∧
  (Jt t=[]∨(ZO t.digits t.exp∧∃body,Jt t=gT t.neg t.sign++body∧m6 (AA t.digits) (AA t.exp) t.flag body)):=by
 rw [Jt,dif_pos ⟨hd,hx⟩];exact Classical.choose_spec (Z1 t hd hx)
inductive Wr (t:Tok) (l u:List Int):ByteArray→Prop where
 |ident (h:t.kind=1):Wr t l u (AO (enc (DL true l)))
 |func (h:t.kind=2):Wr t l u (AO (enc (DL true l++[40])))
 |at (h:t.kind=3):Wr t l u (AO (enc (64::DL true l)))
 |hash (h:t.kind=4):Wr t l u (AO (enc (35::DL t.flag l)))
 |str (h:t.kind=5):Wr t l u (AO (enc (O2 (Zn l) l)))
 |url (h:t.kind=7):Wr t l u (AO (enc ([117,114,108,40]++(Gg l++[41]))))
 |raw (h:t.kind=6∨t.kind=8∨t.kind=9∨t.kind=13):Wr t l u t.text
 |comm (h:t.kind=25):Wr t l u (AO (enc (47::42::(l++[42,47]))))
 |num (h:t.kind=10):Wr t l u (AI (Jt t))
 |pct (h:t.kind=11):Wr t l u (AI (Jt t++[37]))
 |dim (h:t.kind=12)  :Wr t l u (AI (Jt t++AA (AO (enc (HL u)))))
 |cdo (h:t.kind=14):Wr t l u (AO [60,33,45,45])
 |cdc (h:t.kind=15):Wr t l u (AO [45,45,62])
 |sign (h:16≤t.kind∧t.kind≤24):Wr t l u (AO [U7 t.kind])
 |none (h:t.kind<1∨25<t.kind):Wr t l u ⟨#[]⟩
theorem Vk:∀(l:List Int),IM l→(enc (Gg l)).length≤11*l.length
 |[],_=>by simp [Gg,enc]
 |r::l,h=>by
  have hr:=h r (List.mem_cons_self ..)
  rw [Gg,Ap,List.length_append,List.length_cons]
  have:=Vk l fun x hx=>h x (List.mem_cons_of_mem _ hx)
  have:(enc (WS r)).length≤11:=by
   unfold WS
   split
   ·have:=(Bx [92,r]).2;simp at this;omega
   ·split
    ·rw [BX hr,List.length_append];have:=DU hr;simp;omega
    ·have:=(Bx [r]).2;simp at this;omega
  omega
theorem Xb (t:Tok) (l:List Int) (hl:IM l) (hlen:l.length≤100000) (htx:t.text=AO (enc l)) (hk:t.kind=7):AS C1 21 [t.yv] fun y=>y=yd (.string (AO (enc ([117,114,108,40]++(Gg l++[41]))))):=by
 have hel:=(Bx l).2
 have hpt:=G3 (AO (enc l)) (by rw [AW];omega)
 rw [GY hl] at hpt
 have h1:AJ t.kind 1=false:=by rw [hk];rfl
 have h2:AJ t.kind 2=false:=by rw [hk];rfl
 have h3:AJ t.kind 3=false:=by rw [hk];rfl
 have h4:AJ t.kind 4=false:=by rw [hk];rfl
 have h5:AJ t.kind 5=false:=by rw [hk];rfl
 have h7:AJ t.kind 7=true:=by rw [hk];rfl
 have k117:(⟨#[117,114,108,40]⟩:ByteArray)=AO [117,114,108,40]:=rfl
 have k41:(⟨#[41]⟩:ByteArray)=AO [41]:=rfl
 refine Pf (by rfl) (by rfl) mI (by rfl) ?_
 simp only [Try.f21,List.length_cons,List.length_nil,List.replicate,List.cons_append,List.nil_append]
 simp only [Tok.yv,Tok.cs,Tok.pc,List.map_cons,List.map_nil]
 simp -implicitDefEqProofs only [↓yP,yT,h1,h2,h3,h4,h5,h7,htx]
 refine AB hpt (by rfl) fun y hy=>?_
 subst hy
 simp -implicitDefEqProofs only [↓yP,yT,k117]
 refine Ah (fun d e st=>∃(i:Nat) (acc:List Int),e=[Tp,Tp,Tp,.c (.p (rI l)),yd (.string (AO acc)),yd (.int .i64 (i:Nat)),Tp,Tp,Tp,Tp,Tp,Tp,Tp,Tp,Tp,Tp,Tp,Tp,Tp,Tp,Tp,Tp,Tp,Tp,Tp,Tp,Tp,Tp,Tp,Tp,Tp,Tp,Tp,Tp,Tp,Tp,Tp,Tp,Tp,Tp,Tp,Tp,Tp,Tp,Tp,Tp,Tp,Tp,Tp,Tp,Tp,Tp,Tp,Tp,Tp,Tp,Tp,Tp,Tp,Tp,Tp,Tp,Tp,Tp,Tp,Tp,Tp,Tp,Tp,Tp,Tp,Tp,Tp,Tp,Tp,Tp,Tp,Tp,Tp,Tp,Tp,Tp,Tp,Tp,Tp,Tp,Tp,Tp,Tp,Tp,Tp,Tp,Tp,Tp,Tp,Tp,Tp,Tp,Tp,Tp,Tp,Tp,Tp,Tp,Tp,Tp,Tp,Tp,Tp,Tp,Tp,Tp,Tp,Tp,Tp,Tp,Tp,Tp,Tp,Tp,Tp,Tp,Tp,Tp,Tp,Tp,Tp,Tp,Tp,Tp,Tp,Tp,Tp,Tp,Tp,Tp,Tp,Tp,Tp,Tp,Tp,Tp,Tp,Tp,Tp,Tp,Tp,Tp,Tp,Tp,Tp,Tp,Tp,Tp,Tp,Tp,Tp,Tp,Tp,Tp,Tp,Tp,Tp,Tp,Tp,Tp,Tp,Tp,Tp]∧st=[.box t.cs]∧i+d=l.length∧acc.length≤20*i+4∧[117,114,108,40]++enc (Gg l)=acc++enc (Gg (l.drop i))) [false,false,false,true,true,true] l.length [0] (by decide) (AC _) ⟨0,[117,114,108,40],by (simp only [yE];try rfl),by simp only [yE,Tok.cs,Tok.pc,htx];try rfl,by omega,by simp,by simp⟩ ?_
 rintro d e st ⟨i,acc,rfl,rfl,hd,hal,hacc⟩
 by_cases hi:i<l.length
 ·obtain ⟨r,hx⟩:=get_lt hi
  have hr:=hl r (List.mem_of_getElem? hx)
  have hnl:=DU hr
  have hpl:=Bj r
  have t1:AN (l.length:Nat) (i:Nat)=false:=AE (by omega)
  have w1:AG .i64 ((i:Int)+1)=((i+1:Nat):Int):=AK (by omega)
  rw [Am hx] at hacc
  simp -implicitDefEqProofs only [↓yP,yT,t1,AP hx,ei]
  refine Ba (els':=(Ao r).map eb) (by decide) (by rfl) (B8 r [] (by simp)) ?_
  simp -implicitDefEqProofs only [↓yP,yT,Nat.reduceAdd,A6,Ar,XI]
  cases a1:AJ r 34 with
  |true=>
   have hs:Gk r=true:=by rw [Gk,a1];rfl
   have s1:=BW acc [92] (by simp;omega)
   have s2:=BW (acc++[92]) (Ao r) (by simp;omega)
   simp -implicitDefEqProofs only [↓yP,yT,XW,s1,s2,w1]
   refine ⟨d - 1,[0],by omega,by decide,AC _,i+1,acc++[92]++Ao r,by (simp only [yE];try rfl),by (simp only [yE];try rfl),by omega,by simp;omega,?_⟩
   refine hacc.trans ?_
   rw [Gg,WS,if_pos hs,Ap,Aa,Aa,show Ao 92=[92] from by decide];simp [BD]
  |false=>
  cases a2:AJ r 39 with
  |true=>
   have hs:Gk r=true:=by rw [Gk,a1,a2];rfl
   have s1:=BW acc [92] (by simp;omega)
   have s2:=BW (acc++[92]) (Ao r) (by simp;omega)
   simp -implicitDefEqProofs only [↓yP,yT,a2,XW,s1,s2,w1]
   refine ⟨d - 1,[0],by omega,by decide,AC _,i+1,acc++[92]++Ao r,by (simp only [yE];try rfl),by (simp only [yE];try rfl),by omega,by simp;omega,?_⟩
   refine hacc.trans ?_
   rw [Gg,WS,if_pos hs,Ap,Aa,Aa,show Ao 92=[92] from by decide];simp [BD]
  |false=>
  cases a3:AJ r 40 with
  |true=>
   have hs:Gk r=true:=by rw [Gk,a1,a2,a3];rfl
   have s1:=BW acc [92] (by simp;omega)
   have s2:=BW (acc++[92]) (Ao r) (by simp;omega)
   simp -implicitDefEqProofs only [↓yP,yT,a2,a3,XW,s1,s2,w1]
   refine ⟨d - 1,[0],by omega,by decide,AC _,i+1,acc++[92]++Ao r,by (simp only [yE];try rfl),by (simp only [yE];try rfl),by omega,by simp;omega,?_⟩
   refine hacc.trans ?_
   rw [Gg,WS,if_pos hs,Ap,Aa,Aa,show Ao 92=[92] from by decide];simp [BD]
  |false=>
  cases a4:AJ r 41 with
  |true=>
   have hs:Gk r=true:=by rw [Gk,a1,a2,a3,a4];rfl
   have s1:=BW acc [92] (by simp;omega)
   have s2:=BW (acc++[92]) (Ao r) (by simp;omega)
   simp -implicitDefEqProofs only [↓yP,yT,a2,a3,a4,XW,s1,s2,w1]
   refine ⟨d - 1,[0],by omega,by decide,AC _,i+1,acc++[92]++Ao r,by (simp only [yE];try rfl),by (simp only [yE];try rfl),by omega,by simp;omega,?_⟩
   refine hacc.trans ?_
   rw [Gg,WS,if_pos hs,Ap,Aa,Aa,show Ao 92=[92] from by decide];simp [BD]
  |false=>
  cases a5:AJ r 92 with
  |true=>
   have hs:Gk r=true:=by rw [Gk,a1,a2,a3,a4,a5];rfl
   have s1:=BW acc [92] (by simp;omega)
   have s2:=BW (acc++[92]) (Ao r) (by simp;omega)
   simp -implicitDefEqProofs only [↓yP,yT,a2,a3,a4,a5,XW,s1,s2,w1]
   refine ⟨d - 1,[0],by omega,by decide,AC _,i+1,acc++[92]++Ao r,by (simp only [yE];try rfl),by (simp only [yE];try rfl),by omega,by simp;omega,?_⟩
   refine hacc.trans ?_
   rw [Gg,WS,if_pos hs,Ap,Aa,Aa,show Ao 92=[92] from by decide];simp [BD]
  |false=>
  cases a6:AJ r 32 with
  |true=>
   have hs:Gk r=true:=by rw [Gk,a1,a2,a3,a4,a5,a6];rfl
   have s1:=BW acc [92] (by simp;omega)
   have s2:=BW (acc++[92]) (Ao r) (by simp;omega)
   simp -implicitDefEqProofs only [↓yP,yT,a2,a3,a4,a5,a6,XW,s1,s2,w1]
   refine ⟨d - 1,[0],by omega,by decide,AC _,i+1,acc++[92]++Ao r,by (simp only [yE];try rfl),by (simp only [yE];try rfl),by omega,by simp;omega,?_⟩
   refine hacc.trans ?_
   rw [Gg,WS,if_pos hs,Ap,Aa,Aa,show Ao 92=[92] from by decide];simp [BD]
  |false=>
  have hs:Gk r=false:=by rw [Gk,a1,a2,a3,a4,a5,a6];rfl
  cases a7:AN 32 r with
  |false=>
   have s1:=BW acc (As r) (by omega)
   have s2:=BW (acc++As r) [32] (by simp;omega)
   simp -implicitDefEqProofs only [↓yP,yT,a2,a3,a4,a5,a6,a7]
   refine AB (EU hr) (by rfl) fun y hy=>?_
   subst hy
   simp -implicitDefEqProofs only [↓yP,yT,Mx,s1,s2,w1]
   refine ⟨d - 1,[0],by omega,by decide,AC _,i+1,acc++As r++[32],by (simp only [yE];try rfl),by (simp only [yE];try rfl),by omega,by simp;omega,?_⟩
   refine hacc.trans ?_
   rw [Gg,WS,if_neg (by rw [hs];simp),if_pos (by rw [a7];rfl),Ap,BX hr];simp
  |true=>
  cases a8:AJ r 127 with
  |true=>
   have s1:=BW acc (As r) (by omega)
   have s2:=BW (acc++As r) [32] (by simp;omega)
   simp -implicitDefEqProofs only [↓yP,yT,a2,a3,a4,a5,a6,a7,a8]
   refine AB (EU hr) (by rfl) fun y hy=>?_
   subst hy
   simp -implicitDefEqProofs only [↓yP,yT,Mx,s1,s2,w1]
   refine ⟨d - 1,[0],by omega,by decide,AC _,i+1,acc++As r++[32],by (simp only [yE];try rfl),by (simp only [yE];try rfl),by omega,by simp;omega,?_⟩
   refine hacc.trans ?_
   rw [Gg,WS,if_neg (by rw [hs];simp),if_pos (by rw [a7,a8];rfl),Ap,BX hr];simp
  |false=>
   have s1:=BW acc (Ao r) (by omega)
   simp -implicitDefEqProofs only [↓yP,yT,a2,a3,a4,a5,a6,a7,a8,s1,w1]
   refine ⟨d - 1,[0],by omega,by decide,AC _,i+1,acc++Ao r,by (simp only [yE];try rfl),by (simp only [yE];try rfl),by omega,by simp;omega,?_⟩
   refine hacc.trans ?_
   rw [Gg,WS,if_neg (by rw [hs];simp),if_neg (by rw [a7,a8];simp),Ap,Aa,BD];simp
 ·have t1:AN (l.length:Nat) (i:Nat)=true:=AH (by omega)
  rw [List.drop_eq_nil_of_le (by omega),Gg,BD,List.append_nil] at hacc
  have s1:=BW acc [41] (by simp;omega)
  have:enc ([117,114,108,40]++(Gg l++[41]))=acc++[41]:=by
   rw [Ap,Ap,show enc [117,114,108,40]=[117,114,108,40] from by decide,show enc [41]=[41] from by decide,←List.append_assoc]
   exact congrArg (·++[41]) hacc
  have this:=congrArg (fun z=>yd (.string (AO z))) this.symm
  simp -implicitDefEqProofs only [↓yP,yT,reduceCtorEq,t1,k41,s1]
  exact this
end Go.Vx.Seat
end
section
open Go Go.Vx Go.Proofs
set_option maxRecDepth 10000
set_option maxHeartbeats 16000000
namespace Go.Vx.Seat
attribute [local irreducible] Rg Rt Ro Ri Rc Ds Dt Dw Dx Rw Rl Rd Av An kf
theorem Ve (l:List Int):DS l=[]∨DS l=[32]:=by
 cases l with
 |nil=>exact .inl rfl
 |cons s l=>
  cases h:E1 s with
  |true=>exact .inr (by rw [DS,h];rfl)
  |false=>exact .inl (by rw [DS,h];rfl)
theorem V8 (q:Int):∀(l:List Int),IM l→(enc (HM q l)).length≤11*l.length
 |[],_=>by simp [HM,enc]
 |r::l,h=>by
  have hr:=h r (List.mem_cons_self ..)
  rw [HM,Ap,List.length_append,List.length_cons]
  have:=V8 q l fun x hx=>h x (List.mem_cons_of_mem _ hx)
  have:(enc (if (AJ r q||AJ r 92)=true then [92,r] else if RC r=true then As r++DS l else [r])).length≤11:=by
   split
   ·have:=(Bx [92,r]).2;simp at this;omega
   ·split
    ·rw [Ap,Eo,List.length_append]
     have:=DU hr
     have:(enc (DS l)).length≤1:=by
      rcases Ve l with e|e<;>rw [e]<;>decide
     omega
    ·have:=(Bx [r]).2;simp at this;omega
  omega
theorem cP (q:Int) (hq:q=34∨q=39) (l:List Int) (h:IM l):(enc (O2 q l)).length≤11*l.length+2:=by
 rw [O2,Aa,Ap,List.length_append,List.length_append]
 have:=V8 q l h
 have h1:(Ao q).length=1:=by rcases hq with rfl|rfl<;>decide
 have h2:(enc [q]).length=1:=by rcases hq with rfl|rfl<;>decide
 omega
theorem fA (l:List Int) (h:IM l):(enc (HL l)).length≤11*l.length+11:=by
 unfold HL
 split
 ·rename_i hb
  cases l with
  |nil=>cases hb
  |cons r l=>
   show (enc (As r++[32]++DL false l)).length≤_
   rw [Ap,BX (h r (List.mem_cons_self ..)),List.length_append,List.length_append]
   have:=DU (h r (List.mem_cons_self ..))
   have:=G2 false l fun x hx=>h x (List.mem_cons_of_mem _ hx)
   simp at*;omega
 ·have:=G2 true l h;omega
theorem fU (d:Nat) (h:d<9):AI (((AA ⟨#[58,59,44,123,125,40,41,91,93]⟩).drop d).take (d+1 - d))=AO [U7 ((16:Int)+(d:Nat))]:=by
 have:d=0∨d=1∨d=2∨d=3∨d=4∨d=5∨d=6∨d=7∨d=8:=by omega
 rcases this with rfl|rfl|rfl|rfl|rfl|rfl|rfl|rfl|rfl<;>rfl
theorem Q3 (t:Tok) (l u:List Int) (hl:IM l) (hu:IM u) (hll:l.length≤1200) (hul:u.length≤1200) (htx:t.text=AO (enc l)) (hun:t.unit=AO (enc u)) (hd:(AA t.digits).length≤100000) (hx:(AA t.exp).length≤100000) (hk:0≤t.kind∧t.kind≤100):
  AS C1 21 [t.yv] fun y=>∃w:ByteArray,y=yd (.string w)∧Wr t l u w∧(AA w).length≤500000:=by
 cases h7:AJ t.kind 7 with
 |true=>
  refine (Xb t l hl (by omega) htx (AQ h7)).mono fun y hy=>⟨_,hy,.url (AQ h7),?_⟩
  rw [AW,Ap,Ap,List.length_append,List.length_append,show (enc [117,114,108,40]).length=4 from by decide,show (enc [41]).length=1 from by decide]
  have:=Vk l hl
  omega
 |false=>
 have hel:=(Bx l).2
 have heu:=(Bx u).2
 obtain ⟨hnum,ho,_⟩:=OH t hd hx
 have k40:(⟨#[40]⟩:ByteArray)=AO [40]:=rfl
 have k64:(⟨#[64]⟩:ByteArray)=AO [64]:=rfl
 have k35:(⟨#[35]⟩:ByteArray)=AO [35]:=rfl
 have k37:(⟨#[37]⟩:ByteArray)=AI [37]:=rfl
 have k4742:(⟨#[47,42]⟩:ByteArray)=AO [47,42]:=rfl
 have k4247:(⟨#[42,47]⟩:ByteArray)=AO [42,47]:=rfl
 have hsT:=G2 true l hl
 have hsF:=G2 false l hl
 have hun':=fA u hu
 refine Pf (by rfl) (by rfl) mI (by rfl) ?_
 simp only [Try.f21,List.length_cons,List.length_nil,List.replicate,List.cons_append,List.nil_append]
 simp only [Tok.yv,Tok.cs,Tok.pc,List.map_cons,List.map_nil]
 cases h1:AJ t.kind 1 with
 |true=>
  simp -implicitDefEqProofs only [↓yP,yT,h1,htx]
  refine AB (CG l hl (by omega)) (by rfl) fun y hy=>?_
  subst hy
  simp -implicitDefEqProofs only [↓yP,yT,reduceCtorEq]
  exact ⟨_,rfl,.ident (AQ h1),by rw [AW];omega⟩
 |false=>
 cases h2:AJ t.kind 2 with
 |true=>
  have s1:=BW (enc (DL true l)) [40] (by simp;omega)
  simp -implicitDefEqProofs only [↓yP,yT,h1,h2,htx]
  refine AB (CG l hl (by omega)) (by rfl) fun y hy=>?_
  subst hy
  simp -implicitDefEqProofs only [↓yP,yT,reduceCtorEq,k40,s1]
  refine ⟨_,rfl,?_,by rw [AW];simp;omega⟩
  have:=Wr.func (t:=t) (l:=l) (u:=u) (AQ h2)
  rwa [Ap,show enc [40]=[40] from by decide] at this
 |false=>
 cases h3:AJ t.kind 3 with
 |true=>
  have s1:=BW [64] (enc (DL true l)) (by simp;omega)
  simp -implicitDefEqProofs only [↓yP,yT,h1,h2,h3,htx]
  refine AB (CG l hl (by omega)) (by rfl) fun y hy=>?_
  subst hy
  simp -implicitDefEqProofs only [↓yP,yT,reduceCtorEq,k64,s1]
  refine ⟨_,rfl,?_,by rw [AW];simp;omega⟩
  exact .at (AQ h3)
 |false=>
 cases h4:AJ t.kind 4 with
 |true=>
  cases hf:t.flag with
  |true=>
   have s1:=BW [35] (enc (DL true l)) (by simp;omega)
   simp -implicitDefEqProofs only [↓yP,yT,h1,h2,h3,h4,htx]
   refine AB (CG l hl (by omega)) (by rfl) fun y hy=>?_
   subst hy
   simp -implicitDefEqProofs only [↓yP,yT,reduceCtorEq,k35,s1]
   refine ⟨_,rfl,?_,by rw [AW];simp;omega⟩
   have:=Wr.hash (t:=t) (l:=l) (u:=u) (AQ h4)
   rw [hf] at this;exact this
  |false=>
   have s1:=BW [35] (enc (DL false l)) (by simp;omega)
   simp -implicitDefEqProofs only [↓yP,yT,h1,h2,h3,h4,htx]
   refine AB (Fa l hl (by omega)) (by rfl) fun y hy=>?_
   subst hy
   simp -implicitDefEqProofs only [↓yP,yT,reduceCtorEq,k35,s1]
   refine ⟨_,rfl,?_,by rw [AW];simp;omega⟩
   have:=Wr.hash (t:=t) (l:=l) (u:=u) (AQ h4)
   rw [hf] at this;exact this
 |false=>
 cases h5:AJ t.kind 5 with
 |true=>
  simp -implicitDefEqProofs only [↓yP,yT,h1,h2,h3,h4,h5,htx]
  refine AB (Mv l hl (by omega)) (by rfl) fun y hy=>?_
  subst hy
  simp -implicitDefEqProofs only [↓yP,yT,reduceCtorEq]
  have:=cP (Zn l) (Tq l) l hl
  exact ⟨_,rfl,.str (AQ h5),by rw [AW];omega⟩
 |false=>
 have raw:(t.kind=6∨t.kind=8∨t.kind=9∨t.kind=13)→∃w:ByteArray,yd (.string t.text)=yd (.string w)∧Wr t l u w∧(AA w).length≤500000:=fun h=>⟨_,rfl,.raw h,by rw [htx,AW];omega⟩
 cases h6:AJ t.kind 6 with
 |true=>
  simp -implicitDefEqProofs only [↓yP,yT,reduceCtorEq,h1,h2,h3,h4,h5,h7,h6]
  exact raw (.inl (AQ h6))
 |false=>
 cases h8:AJ t.kind 8 with
 |true=>
  simp -implicitDefEqProofs only [↓yP,yT,reduceCtorEq,h1,h2,h3,h4,h5,h7,h6,h8]
  exact raw (.inr (.inl (AQ h8)))
 |false=>
 cases h9:AJ t.kind 9 with
 |true=>
  simp -implicitDefEqProofs only [↓yP,yT,reduceCtorEq,h1,h2,h3,h4,h5,h7,h6,h8,h9]
  exact raw (.inr (.inr (.inl (AQ h9))))
 |false=>
 cases h13:AJ t.kind 13 with
 |true=>
  simp -implicitDefEqProofs only [↓yP,yT,reduceCtorEq,h1,h2,h3,h4,h5,h7,h6,h8,h9,h13]
  exact raw (.inr (.inr (.inr (AQ h13))))
 |false=>
 cases h25:AJ t.kind 25 with
 |true=>
  have s1:=BW [47,42] (enc l) (by simp;omega)
  have s2:=BW (47::42::enc l) [42,47] (by simp;omega)
  simp -implicitDefEqProofs only [↓yP,yT,reduceCtorEq,h1,h2,h3,h4,h5,h7,h6,h8,h9,h13,h25,htx,k4742,k4247,s1,s2]
  refine ⟨_,rfl,?_,by rw [AW];simp;omega⟩
  have:=Wr.comm (t:=t) (l:=l) (u:=u) (AQ h25)
  rwa [show enc (47::42::(l++[42,47]))=[47,42]++enc l++[42,47] from by rw [Aa,Aa,Ap];rfl] at this
 |false=>
 cases h10:AJ t.kind 10 with
 |true=>
  simp -implicitDefEqProofs only [↓yP,yT,Nat.reduceAdd,Nat.reduceLeDiff,reduceCtorEq,h1,h2,h3,h4,h5,h7,h6,h8,h9,h13,h25,h10]
  refine AB hnum (by rfl) fun y hy=>?_
  subst hy
  simp -implicitDefEqProofs only [↓yP,yT,reduceCtorEq]
  exact ⟨_,rfl,.num (AQ h10),by rw [AD];omega⟩
 |false=>
 cases h11:AJ t.kind 11 with
 |true=>
  simp -implicitDefEqProofs only [↓yP,yT,Nat.reduceAdd,Nat.reduceLeDiff,reduceCtorEq,h1,h2,h3,h4,h5,h7,h6,h8,h9,h13,h25,h10,h11]
  refine AB hnum (by rfl) fun y hy=>?_
  subst hy
  have s1:=Cc (Jt t) [37] (by simp;omega)
  simp -implicitDefEqProofs only [↓yP,yT,reduceCtorEq,k37,s1]
  exact ⟨_,rfl,.pct (AQ h11),by rw [AD];simp;omega⟩
 |false=>
 cases h12:AJ t.kind 12 with
 |true=>
  simp -implicitDefEqProofs only [↓yP,yT,h1,h2,h3,h4,h5,h7,h6,h8,h9,h13,h25,h10,h11,h12]
  refine A8 (by rw [C5];kernel_rfl) ?_
  simp -implicitDefEqProofs only [↓yP,yT,Nat.reduceAdd,Nat.reduceLeDiff,reduceCtorEq]
  refine AB hnum (by rfl) fun y hy=>?_
  subst hy
  simp -implicitDefEqProofs only [yT,hun]
  refine AB (XR u hu (by omega)) (by rfl) fun y hy=>?_
  subst hy
  have s1:=Cc (Jt t) (AA (AO (enc (HL u)))) (by rw [AW];omega)
  rw [Dn] at s1
  simp -implicitDefEqProofs only [↓yP,yT,reduceCtorEq,s1]
  exact ⟨_,rfl,.dim (AQ h12),by rw [AD,List.length_append,AW];omega⟩
 |false=>
 cases h14:AJ t.kind 14 with
 |true=>
  simp -implicitDefEqProofs only [↓yP,yT,reduceCtorEq,h1,h2,h3,h4,h5,h7,h6,h8,h9,h13,h25,h10,h11,h12,h14]
  exact ⟨_,rfl,.cdo (AQ h14),by show 4≤_;omega⟩
 |false=>
 cases h15:AJ t.kind 15 with
 |true=>
  simp -implicitDefEqProofs only [↓yP,yT,reduceCtorEq,h1,h2,h3,h4,h5,h7,h6,h8,h9,h13,h25,h10,h11,h12,h14,h15]
  exact ⟨_,rfl,.cdc (AQ h15),by show 3≤_;omega⟩
 |false=>
 have wk:AG .i64 (t.kind - 16)=t.kind - 16:=Au (by omega) (by omega)
 by_cases hs:16≤t.kind∧t.kind<25
 ·obtain ⟨d,hd9⟩:=Int.eq_ofNat_of_zero_le (show 0≤t.kind - 16 by omega)
  have t0:AN 0 ((d:Nat):Int)=true:=AH (by omega)
  have t9:AN 9 ((d:Nat):Int)=false:=AE (by omega)
  have w1:AG .i64 (((d:Nat):Int)+1)=((d+1:Nat):Int):=AK (by omega)
  have c1:(0:Int)≤((d:Nat):Int):=by omega
  have c2:((d:Nat):Int)≤((d+1:Nat):Int):=by omega
  have c3:((d+1:Nat):Int)≤((AA ⟨#[58,59,44,123,125,40,41,91,93]⟩).length:Nat):=by show _≤((9:Nat):Int);omega
  have hcut:=fU d (by omega)
  rw [hd9] at wk
  simp -implicitDefEqProofs only [↓yP,yT,reduceCtorEq,Aw.eq_1,h1,h2,h3,h4,h5,h7,h6,h8,h9,h13,h25,h10,h11,h12,h14,h15,hd9,wk,t0,t9,w1,c1,c2,c3,hcut]
  refine ⟨_,rfl,?_,by rw [AW];simp⟩
  have:=Wr.sign (t:=t) (l:=l) (u:=u) (by omega)
  rwa [show t.kind=16+((d:Nat):Int) from by omega] at this
 ·have hno:Wr t l u ⟨#[]⟩:=.none (by
   have:=A7 h1;have:=A7 h2;have:=A7 h3;have:=A7 h4;have:=A7 h5;have:=A7 h6;have:=A7 h7;have:=A7 h8;have:=A7 h9
   have:=A7 h10;have:=A7 h11;have:=A7 h12;have:=A7 h13;have:=A7 h14;have:=A7 h15;have:=A7 h25
   omega)
  by_cases h0:16≤t.kind
  ·have t0:AN 0 (t.kind - 16)=true:=AH (by omega)
   have t9:AN 9 (t.kind - 16)=true:=AH (by omega)
   simp -implicitDefEqProofs only [↓yP,yT,reduceCtorEq,h1,h2,h3,h4,h5,h7,h6,h8,h9,h13,h25,h10,h11,h12,h14,h15,wk,t0,t9]
   exact ⟨_,rfl,hno,Nat.zero_le _⟩
  ·have t0:AN 0 (t.kind - 16)=false:=AE (by omega)
   simp -implicitDefEqProofs only [↓yP,yT,reduceCtorEq,h1,h2,h3,h4,h5,h7,h6,h8,h9,h13,h25,h10,h11,h12,h14,h15,wk,t0]
   exact ⟨_,rfl,hno,Nat.zero_le _⟩
end Go.Vx.Seat
end
section
open Go Go.Vx Go.Proofs
set_option maxRecDepth 20000
set_option maxHeartbeats 4000000
namespace Go.Vx.Seat
attribute [local irreducible] Rg Rt Ro Ri Rc Ds Dt Dw Dx Rw Rl Rd Av An kf
theorem pK:By C1.P.funcs.toList 19=some Try.f19:=by kernel_rfl
theorem Lexed.text {l:List Rn} {i:Nat} {ts:List Tok} (h:Lexed l i ts):∀t,t∈ts→(AA t.text).length≤4*l.length:=by
 induction h with
 |nil=>intro t ht;simp at ht
 |@snoc i k ts x t h1 h2 h3 h4 h5 h6 ih=>
  intro u hu
  rcases List.mem_append.mp hu with hu|hu
  ·exact ih u hu
  ·rw [List.mem_singleton.mp hu]
   exact h5.text
theorem gU (bs:List Int):IT [.row 1 (bs.map eb)] (.own 0 1 0 bs.length)=some (.p (rB bs),[.dead]):=by
 have h:By [Ent.row 1 (bs.map eb)] 0=some (.row 1 (bs.map eb)):=rfl
 simp [IT,ES,h,List.take_of_length_le]
end Go.Vx.Seat
end
section
open Go Go.Vx Go.Proofs
set_option maxRecDepth 10000
set_option maxHeartbeats 4000000
namespace Go.Vx.Seat
attribute [local irreducible] Rg Rt Ro Ri Rc Ds Dt Dw Dx Rw Rl Rd Av An kf
theorem nT:By C1.P.funcs.toList 26=some Try.f26:=by kernel_rfl
def HV (o:List Int) (k:Int):Nat×Bool×Bool:=let o1:=if o.getLast?=some k then o.dropLast else o;(o1.length,Ci o1,decide (o.getLast?=some k))
def pl (ts:List Tok) (i:Nat):Nat×Bool×Bool:=HV (AX ts i) (Bv ts i)
def ep (p:Nat×Bool×Bool):List PC:=[.d (.int .i64 p.1),.d (.bool p.2.1),.d (.bool p.2.2)]
def zp:List PC:=[.d (.int .i64 0),.d (.bool false),.d (.bool false)]
def JD (ts:List Tok) (i:Nat):List (List PC):=(List.range i).map (fun j=>ep (pl ts j))++List.replicate (ts.length - i) zp
theorem Ij {ts:List Tok} {i:Nat} (h:i≤ts.length):(JD ts i).length=ts.length:=by simp [JD];omega
theorem ZS {ts:List Tok} {i:Nat} (h:i<ts.length):(JD ts i)[i]?=some zp:=by
 rw [JD,List.getElem?_append_right (by simp)]
 simp only [List.length_map,List.length_range,Nat.sub_self]
 rw [List.getElem?_replicate,if_pos (by omega)]
theorem ZR {ts:List Tok} {i:Nat} (h:i<ts.length):(JD ts i).set i (ep (pl ts i))=JD ts (i+1):=by
 rw [JD,List.set_append_right _ _ (by simp),JD,List.range_succ,List.map_append,List.append_assoc]
 congr 1
 rw [List.length_map,List.length_range,Nat.sub_self,show ts.length - i=(ts.length - (i+1))+1 by omega,List.replicate_succ]
 rfl
def TS (o:List Int):Nat:=(o.filter fun k=>decide (k≠20)).length
theorem IB (o:List Int):AJ (TS o:Nat) 0=Ci o:=by
 rw [BN,Bool.eq_iff_iff,decide_eq_true_eq,Ci,List.all_eq_true]
 have:((TS o:Nat):Int)=0↔TS o=0:=by omega
 rw [this,TS,List.length_eq_zero_iff,List.filter_eq_nil_iff]
 simp
theorem US (o:List Int):TS o≤o.length:=List.length_filter_le _ _
theorem I8 (o:List Int) (k:Int):TS (o++[k])=TS o+(if k=20 then 0 else 1):=by
 simp only [TS,List.filter_append,List.length_append]
 by_cases h:k=20<;>simp [h]
theorem Qb {o:List Int} {k:Int} (h:o.getLast?=some k):o=o.dropLast++[k]:=by
 have hne:o≠[]:=by intro hn;subst hn;cases h
 rw [List.getLast?_eq_some_getLast hne] at h
 rw [←Option.some.inj h,List.dropLast_concat_getLast hne]
theorem Ga (ts:List Tok):∀i,∀k,k∈AX ts i→k=20∨k=22∨k=24
 |0,k,h=>by simp [AX] at h
 |i+1,k,h=>by
  unfold AX at h
  split at h
  ·rename_i t _
   unfold BS at h
   split at h
   ·exact Ga ts i k (List.dropLast_subset _ h)
   ·split at h
    ·rcases List.mem_append.mp h with h|h
     ·exact Ga ts i k h
     ·rw [List.mem_singleton] at h
      subst h
      unfold BP at*
      split
      ·omega
      ·split
       ·omega
       ·split
        ·omega
        ·rename_i hc h1 h2 h3;simp [h1,h2,h3] at hc
    ·exact Ga ts i k h
  ·exact Ga ts i k h
theorem SI {k:Int} (h:k=20∨k=22∨k=24):BP k=0:=by
 unfold BP
 rw [if_neg (by omega),if_neg (by omega),if_neg (by omega)]
theorem OM (k:Int):BP k=0∨BP k>0:=by
 unfold BP
 split
 ·omega
 ·split
  ·omega
  ·split<;>omega
def kR (ts:List Tok) (j:Nat):List PC:=ep (pl ts j)
abbrev rP (ts:List Tok):PC:=.row 3 ((List.range ts.length).map (kR ts))
theorem Sb (ts:List Tok) (hl:ts.length≤200000000):AS C1 26 [.c (.p (rT ts))] fun y=>y=.c (.p (rP ts)):=by
 refine Pf (by rfl) (by rfl) nT (by rfl) ?_
 simp only [Try.f26,List.length_cons,List.length_nil,List.replicate,List.cons_append,List.nil_append]
 have b0:((16:Nat):Int)*((ts.length:Nat):Int)≤70368744177664:=by omega
 have b1:((ts.length:Nat):Int)≤70368744177664:=by omega
 simp -implicitDefEqProofs only [↓yP,yT,Nat.reduceAdd,b0,b1]
 refine Cb 4 1 (by decide) rfl ?_
 refine Ah (fun d e s=>∃(i:Nat) (E:List (List PC)),e=[Tp,Tp,Tp,.c (.own 0 3 0 ts.length),.c (.own 1 1 0 (AX ts i).length),yd (.int .i64 (TS (AX ts i))),Tp,Tp,Tp,Tp,Tp,Tp,Tp,.c (.p (rT ts)),yd (.int .i64 ts.length),yd (.int .i64 i),Tp,Tp,Tp,Tp,Tp,Tp,Tp,Tp,Tp,Tp,Tp,Tp,Tp,Tp,Tp,Tp,Tp,Tp,Tp,Tp,Tp,Tp,Tp,Tp,Tp,Tp,Tp,Tp,Tp,Tp,Tp,Tp,Tp,Tp,Tp,Tp,Tp,Tp,Tp,Tp,Tp,Tp,Tp,Tp,Tp,Tp,Tp,Tp,Tp,Tp,Tp,Tp,Tp,Tp,Tp,Tp,Tp,Tp]∧s=[.row 3 (JD ts i),.row 1 E]∧i+d=ts.length∧(AX ts i).length≤E.length∧E.take (AX ts i).length=(AX ts i).map ei)
  [false,false,false,true,true,true,false,false,false,false,false,false,false,true,true,true] ts.length [0,1] (by decide) (AC _) ⟨0,[],by simp only [yE];rfl,by simp only [yE];rfl,by omega,by simp [AX],by simp [AX]⟩ ?_
 rintro d e s ⟨i,E,rfl,rfl,hd,hE1,hE2⟩
 have hol:=HD ts i
 have hcn:=US (AX ts i)
 by_cases hi:i<ts.length
 ·obtain ⟨t,ht⟩:=get_lt hi
  have hk:=B6 ht
  have hsucc:=Fj ht
  have t1:AN (ts.length:Nat) (i:Nat)=false:=AE (by omega)
  have w1:AG .i64 ((i:Int)+1)=((i+1:Nat):Int):=AK (by omega)
  have hg:=ZS hi
  have hll:=Ij (ts:=ts) (i:=i) (by omega)
  have hsg:∀x,((JD ts i).set i x)[i]?=some x:=fun x=>by rw [List.getElem?_set,if_pos rfl,if_pos (by omega)]
  simp -implicitDefEqProofs only [↓yP,yT,Nat.reduceAdd,reduceCtorEq,t1,AP ht,Tok.pc]
  refine A8 (by rw [C5];kernel_rfl) ?_
  have ilt:((i:Nat):Int)<((ts.length:Nat):Int):=by omega
  have hset:(JD ts i).set i (ep (pl ts i))=JD ts (i+1):=ZR hi
  rcases hol0:(AX ts i).getLast? with _|c
  ·have ho:AX ts i=[]:=by simpa using hol0
   have t2:AN ((AX ts i).length:Nat) 0=true:=by rw [ho];rfl
   have hck:True:=trivial
   have hpl:ep (pl ts i)=[.d (.int .i64 ((AX ts i).length:Nat)),.d (.bool (Ci (AX ts i))),.d (.bool false)]:=by
    simp [pl,HV,ep,hol0]
   rw [hpl] at hset
   simp -implicitDefEqProofs only [↓yP,yT,Nat.reduceAdd,Nat.reduceLeDiff,reduceCtorEq,t2,hg,hsg,zp,IB,ilt]
   refine AB (Gs t.kind) (by rfl) fun y hy=>?_
   subst hy
   rcases OM t.kind with hc|hc
   ·have t3:AJ (BP t.kind) 0=true:=by rw [hc];rfl
    have hs2:AX ts (i+1)=AX ts i:=by rw [hsucc,BS,if_neg (by rw [hol0];simp []),if_neg (by omega)]
    simp -implicitDefEqProofs only [↓yP,yT,t3,w1]
    refine ⟨d - 1,[0,1],by omega,by decide,AC _,i+1,E,?_,?_,by omega,by rw [hs2];exact hE1,by rw [hs2];exact hE2⟩
    ·simp only [yE,reduceCtorEq,hs2]
    ·simp only [yE,hset]
   ·have t3:AJ (BP t.kind) 0=false:=AF (by omega)
    have hs2:AX ts (i+1)=AX ts i++[BP t.kind]:=by rw [hsucc,BS,if_neg (by rw [hol0];simp []),if_pos hc]
    have b4:((AX ts i).length+1)*8≤70368744177664:=by omega
    have hE3:(List.map ei (AX ts i)++[[PC.d (.int .i64 (BP t.kind))]])=(AX ts (i+1)).map ei:=by rw [hs2,List.map_append];rfl
    by_cases c20:BP t.kind=20
    ·have t4:AJ (BP t.kind) 20=true:=by rw [c20];rfl
     simp -implicitDefEqProofs only [↓yP,yT,Nat.reduceAdd,Nat.reduceMul,Nat.reduceLeDiff,reduceCtorEq,t3,t4,w1,hE1,hE2,b4]
     refine ⟨d - 1,[0,4],by omega,by decide,AC _,i+1,List.map ei (AX ts i)++[[PC.d (.int .i64 (BP t.kind))]],?_,?_,by omega,?_,?_⟩
     ·simp only [yE,reduceCtorEq,hs2,I8,if_pos c20]
     ·simp only [yE,hset]
     ·rw [hE3];simp
     ·rw [hE3,Ch]
    ·have t4:AJ (BP t.kind) 20=false:=AF c20
     have w4:AG .i64 ((TS (AX ts i):Int)+1)=((TS (AX ts i)+1:Nat):Int):=AK (by omega)
     simp -implicitDefEqProofs only [↓yP,yT,Nat.reduceAdd,Nat.reduceMul,Nat.reduceLeDiff,reduceCtorEq,t3,t4,w1,w4,hE1,hE2,b4]
     refine ⟨d - 1,[0,4],by omega,by decide,AC _,i+1,List.map ei (AX ts i)++[[PC.d (.int .i64 (BP t.kind))]],?_,?_,by omega,?_,?_⟩
     ·simp only [yE,reduceCtorEq,hs2,I8,if_neg c20]
     ·simp only [yE,hset]
     ·rw [hE3];simp
     ·rw [hE3,Ch]
  ·have ho:(AX ts i).length≠0:=by intro h0;rw [List.length_eq_zero_iff.mp h0] at hol0;cases hol0
   have t2:AN ((AX ts i).length:Nat) 0=false:=AE (by omega)
   have w2:AG .i64 (((AX ts i).length:Int) - 1)=(((AX ts i).length - 1:Nat):Int):=Bq (by omega) (by omega)
   have hlast:(AX ts i)[(AX ts i).length - 1]?=some c:=by rw [←List.getLast?_eq_getElem?];exact hol0
   have hlE:E[(AX ts i).length - 1]?=some (ei c):=by
    have h1:=AP (f:=ei) hlast
    rw [←hE2,List.getElem?_take,if_pos (by omega)] at h1;exact h1
   have ilt2:(((AX ts i).length - 1:Nat):Int)<((AX ts i).length:Nat):=by omega
   by_cases hck:c=t.kind
   ·subst hck
    have hsn:=Qb hol0
    have hkc:=Ga ts i t.kind (List.mem_of_getElem? hlast)
    have hl1:(AX ts i).dropLast.length=(AX ts i).length - 1:=by simp
    have l6:(((AX ts i).length - 1:Nat):Int)≤((AX ts i).length:Nat):=by omega
    have hs2:AX ts (i+1)=(AX ts i).dropLast:=by rw [hsucc,BS,hol0,if_pos rfl]
    have hpl:ep (pl ts i)=[.d (.int .i64 ((AX ts i).length - 1:Nat)),.d (.bool (Ci (AX ts i).dropLast)),.d (.bool true)]:=by
     simp [pl,HV,ep,hol0,hk]
    rw [hpl] at hset
    have hcl:BP t.kind=0:=SI hkc
    have hE3:E.take ((AX ts i).length - 1)=(AX ts i).dropLast.map ei:=by
     rw [List.dropLast_eq_take,List.map_take,←hE2,List.take_take,Nat.min_eq_left (by omega)]
    have hcn2:TS (AX ts i)=TS (AX ts i).dropLast+(if t.kind=20 then 0 else 1):=by
     rw [←I8,←hsn]
    by_cases c20:t.kind=20
    ·have t4:AJ t.kind 20=true:=by rw [c20];rfl
     rw [if_pos c20,Nat.add_zero] at hcn2
     simp -implicitDefEqProofs only [↓yP,yT,Nat.reduceAdd,Nat.reduceLeDiff,reduceCtorEq,t2,hg,hsg,zp,ilt,w2,ilt2,hlE,ei,CV,t4,l6,hcn2,IB]
     refine AB (Gs t.kind) (by rfl) fun y hy=>?_
     subst hy
     have t3:AJ (BP t.kind) 0=true:=by rw [hcl];rfl
     simp -implicitDefEqProofs only [↓yP,yT,t3,w1]
     refine ⟨d - 1,[0,1],by omega,by decide,AC _,i+1,E,?_,?_,by omega,by rw [hs2,hl1];omega,by rw [hs2,hl1];exact hE3⟩
     ·simp only [yE,reduceCtorEq,hs2,hl1]
     ·simp only [yE,hset]
    ·have t4:AJ t.kind 20=false:=AF c20
     rw [if_neg c20] at hcn2
     have w4:AG .i64 ((((TS (AX ts i).dropLast+1:Nat)):Int) - 1)=((TS (AX ts i).dropLast:Nat):Int):=Bq (by omega) (by omega)
     simp -implicitDefEqProofs only [↓yP,yT,Nat.reduceAdd,Nat.reduceLeDiff,reduceCtorEq,t2,hg,hsg,zp,ilt,w2,ilt2,hlE,ei,CV,t4,l6,hcn2,w4,IB]
     refine AB (Gs t.kind) (by rfl) fun y hy=>?_
     subst hy
     have t3:AJ (BP t.kind) 0=true:=by rw [hcl];rfl
     simp -implicitDefEqProofs only [↓yP,yT,t3,w1]
     refine ⟨d - 1,[0,1],by omega,by decide,AC _,i+1,E,?_,?_,by omega,by rw [hs2,hl1];omega,by rw [hs2,hl1];exact hE3⟩
     ·simp only [yE,reduceCtorEq,hs2,hl1]
     ·simp only [yE,hset]
   ·have e1:AJ c t.kind=false:=AF hck
    have hpl:ep (pl ts i)=[.d (.int .i64 ((AX ts i).length:Nat)),.d (.bool (Ci (AX ts i))),.d (.bool false)]:=by
     simp [pl,HV,ep,hol0,hk,hck]
    rw [hpl] at hset
    simp -implicitDefEqProofs only [↓yP,yT,Nat.reduceAdd,Nat.reduceLeDiff,reduceCtorEq,t2,hg,hsg,zp,IB,ilt,w2,ilt2,hlE,ei,e1]
    refine AB (Gs t.kind) (by rfl) fun y hy=>?_
    subst hy
    rcases OM t.kind with hc|hc
    ·have t3:AJ (BP t.kind) 0=true:=by rw [hc];rfl
     have hs2:AX ts (i+1)=AX ts i:=by rw [hsucc,BS,if_neg (by rw [hol0];simp [hck]),if_neg (by omega)]
     simp -implicitDefEqProofs only [↓yP,yT,t3,w1]
     refine ⟨d - 1,[0,1],by omega,by decide,AC _,i+1,E,?_,?_,by omega,by rw [hs2];exact hE1,by rw [hs2];exact hE2⟩
     ·simp only [yE,reduceCtorEq,hs2]
     ·simp only [yE,hset]
    ·have t3:AJ (BP t.kind) 0=false:=AF (by omega)
     have hs2:AX ts (i+1)=AX ts i++[BP t.kind]:=by rw [hsucc,BS,if_neg (by rw [hol0];simp [hck]),if_pos hc]
     have b4:((AX ts i).length+1)*8≤70368744177664:=by omega
     have hE3:(List.map ei (AX ts i)++[[PC.d (.int .i64 (BP t.kind))]])=(AX ts (i+1)).map ei:=by rw [hs2,List.map_append];rfl
     by_cases c20:BP t.kind=20
     ·have t4:AJ (BP t.kind) 20=true:=by rw [c20];rfl
      simp -implicitDefEqProofs only [↓yP,yT,Nat.reduceAdd,Nat.reduceMul,Nat.reduceLeDiff,reduceCtorEq,t3,t4,w1,hE1,hE2,b4]
      refine ⟨d - 1,[0,4],by omega,by decide,AC _,i+1,List.map ei (AX ts i)++[[PC.d (.int .i64 (BP t.kind))]],?_,?_,by omega,?_,?_⟩
      ·simp only [yE,reduceCtorEq,hs2,I8,if_pos c20]
      ·simp only [yE,hset]
      ·rw [hE3];simp
      ·rw [hE3,Ch]
     ·have t4:AJ (BP t.kind) 20=false:=AF c20
      have w4:AG .i64 ((TS (AX ts i):Int)+1)=((TS (AX ts i)+1:Nat):Int):=AK (by omega)
      simp -implicitDefEqProofs only [↓yP,yT,Nat.reduceAdd,Nat.reduceMul,Nat.reduceLeDiff,reduceCtorEq,t3,t4,w1,w4,hE1,hE2,b4]
      refine ⟨d - 1,[0,4],by omega,by decide,AC _,i+1,List.map ei (AX ts i)++[[PC.d (.int .i64 (BP t.kind))]],?_,?_,by omega,?_,?_⟩
      ·simp only [yE,reduceCtorEq,hs2,I8,if_neg c20]
      ·simp only [yE,hset]
      ·rw [hE3];simp
      ·rw [hE3,Ch]
 ·have t1:AN (ts.length:Nat) (i:Nat)=true:=AH (by omega)
  have:i=ts.length:=by omega
  subst this
  have hf:JD ts ts.length=(List.range ts.length).map (kR ts):=by simp [JD,kR]
  have hl2:ts.length≤(JD ts ts.length).length:=by rw [Ij (Nat.le_refl _)];omega
  have hl3:(JD ts ts.length).take ts.length=JD ts ts.length:=List.take_of_length_le (by rw [Ij (Nat.le_refl _)];omega)
  simp -implicitDefEqProofs only [↓yP,yT,reduceCtorEq,t1,hl2,hl3]
  rw [hf]
end Go.Vx.Seat
end
section
open Go Go.Vx Go.Proofs
set_option maxRecDepth 10000
set_option maxHeartbeats 4000000
namespace Go.Vx.Seat
attribute [local irreducible] Rg Rt Ro Ri Rc Ds Dt Dw Dx Rw Rl Rd Av An kf
theorem oD:By C1.P.funcs.toList 29=some Try.f29:=by kernel_rfl
theorem oI:By C1.P.funcs.toList 10=some Try.f10:=by kernel_rfl
theorem GQ {ts:List Tok} {i:Nat} (h:i<ts.length):((List.range ts.length).map (kR ts))[i]?=some [.d (.int .i64 ((pl ts i).1:Nat)),.d (.bool (pl ts i).2.1),.d (.bool (pl ts i).2.2)]:=by simp [h,kR,ep]
def Cz (ts:List Tok) (i:Nat):Nat→Nat→Bool
 |0,_=>true
 |d+1,k=>if (pl ts k).1<(pl ts i).1 then true else if (pl ts k).1=(pl ts i).1∧Fk (Bv ts k)=true then !decide (Bv ts k=19) else Cz ts i d (k+1)
def Ky (ts:List Tok) (i:Nat):Bool:=Cz ts i (ts.length - (i+1)) (i+1)
theorem aE (ts:List Tok) (i:Nat):(pl ts i).1≤i:=by
 have:=HD ts i
 unfold pl HV
 simp only
 split
 ·simp;omega
 ·exact this
theorem T0 (ts:List Tok) (i:Nat) (hl:ts.length≤200000000) (hi:i<ts.length):AS C1 29 [.c (.p (rT ts)),.c (.p (rP ts)),yd (.int .i64 i)] fun y=>y=yd (.bool (Ky ts i)):=by
 refine Pf (by rfl) (by rfl) oD (by rfl) ?_
 simp only [Try.f29,List.length_cons,List.length_nil,List.replicate,List.cons_append,List.nil_append]
 have w1:AG .i64 ((i:Int)+1)=((i+1:Nat):Int):=AK (by omega)
 simp -implicitDefEqProofs only [↓yP,yT,w1]
 refine Ah (fun d e s=>∃k:Nat,e=[.c (.p (rT ts)),.c (.p (rP ts)),yd (.int .i64 i),Tp,Tp,Tp,Tp,yd (.int .i64 k),Tp,Tp,Tp,Tp,Tp,Tp,Tp,Tp,Tp,Tp,Tp,Tp,Tp,Tp,Tp,Tp,Tp,Tp,Tp,Tp,Tp,Tp,Tp,Tp,Tp,Tp,Tp,Tp,Tp,Tp,Tp,Tp,Tp,Tp,Tp,Tp,Tp,Tp,Tp,Tp,Tp,Tp,Tp,Tp,Tp]∧s=[]∧k+d=ts.length∧Cz ts i d k=Ky ts i) [true,true,true,false,false,false,false,true] (ts.length - (i+1)) [] (by decide) (AC _)
  ⟨i+1,by simp only [yE],rfl,by omega,rfl⟩ ?_
 rintro d e s ⟨k,rfl,rfl,hd,hp⟩
 have hli:=aE ts i
 by_cases hk:k<ts.length
 ·obtain ⟨t,ht⟩:=get_lt hk
  have hkk:=B6 ht
  have hlk:=aE ts k
  have t1:AN (ts.length:Nat) (k:Nat)=false:=AE (by omega)
  have w2:AG .i64 ((k:Int)+1)=((k+1:Nat):Int):=AK (by omega)
  have hd1:d=(d - 1)+1:=by omega
  simp -implicitDefEqProofs only [↓yP,yT,t1]
  refine A8 (by rw [C5];kernel_rfl) ?_
  by_cases c1:(pl ts k).1<(pl ts i).1
  ·have t2:AN ((pl ts i).1:Nat) ((pl ts k).1:Nat)=false:=AE (by omega)
   simp -implicitDefEqProofs only [↓yP,yT,Nat.reduceAdd,reduceCtorEq,GQ hk,GQ hi,t2]
   rw [←hp,hd1,Cz,if_pos c1]
  have t2:AN ((pl ts i).1:Nat) ((pl ts k).1:Nat)=true:=AH (by omega)
  simp -implicitDefEqProofs only [↓yP,yT,Nat.reduceAdd,reduceCtorEq,GQ hk,GQ hi,t2]
  refine A8 (by rw [C5];kernel_rfl) ?_
  by_cases c2:(pl ts k).1=(pl ts i).1
  ·have t3:AJ ((pl ts k).1:Nat) ((pl ts i).1:Nat)=true:=by rw [c2];exact CV _
   simp -implicitDefEqProofs only [↓yP,yT,Nat.reduceAdd,reduceCtorEq,GQ hk,GQ hi,t3,AP ht,Tok.pc]
   refine AB (Nv t) (by rfl) fun y hy=>?_
   subst hy
   cases hpk:Fk t.kind with
   |true=>
    by_cases q1:t.kind=19
    ·have f1:AJ t.kind 19=true:=by rw [q1];rfl
     simp -implicitDefEqProofs only [↓yP,yT,Nat.reduceAdd,reduceCtorEq,AP ht,Tok.pc,f1]
     rw [←hp,hd1,Cz,if_neg c1,if_pos ⟨c2,by rw [hkk];exact hpk⟩,hkk]
     simp [q1]
    ·have f1:AJ t.kind 19=false:=AF q1
     simp -implicitDefEqProofs only [↓yP,yT,Nat.reduceAdd,reduceCtorEq,AP ht,Tok.pc,f1]
     rw [←hp,hd1,Cz,if_neg c1,if_pos ⟨c2,by rw [hkk];exact hpk⟩,hkk]
     simp [q1]
   |false=>
    simp -implicitDefEqProofs only [↓yP,yT,w2]
    refine ⟨d - 1,[],by omega,by decide,AC _,k+1,?_,rfl,by omega,?_⟩
    ·simp only [yE]
    ·rw [←hp,hd1,Cz,if_neg c1,if_neg (by rw [hkk,hpk];simp)];rfl
  ·have t3:AJ ((pl ts k).1:Nat) ((pl ts i).1:Nat)=false:=AF (by omega)
   simp -implicitDefEqProofs only [↓yP,yT,Nat.reduceAdd,reduceCtorEq,GQ hk,GQ hi,t3,w2]
   refine ⟨d - 1,[],by omega,by decide,AC _,k+1,?_,rfl,by omega,?_⟩
   ·simp only [yE]
   ·rw [←hp,hd1,Cz,if_neg c1,if_neg (by simp [c2])];rfl
 ·have t1:AN (ts.length:Nat) (k:Nat)=true:=AH (by omega)
  have hd0:d=0:=by omega
  simp -implicitDefEqProofs only [↓yP,yT,reduceCtorEq,t1]
  rw [←hp,hd0,Cz]
def DM (ts:List Tok):Nat→Nat×Bool
 |0=>(0,false)
 |i+1=>if BK (Bv ts i)=true then DM ts i else if Fk (Bv ts i)=true∧(pl ts i).2.1=true then (0,(DM ts i).2) else ((DM ts i).1+1,decide (Bv ts i=1))
theorem SK (ts:List Tok):∀i,(DM ts i).1≤i
 |0=>by simp [DM]
 |i+1=>by
  have:=SK ts i
  unfold DM
  split
  ·omega
  ·split
   ·simp
   ·simp;omega
def Bs (ts:List Tok) (i:Nat):Bool:=decide (Bv ts i=16)&&(pl ts i).2.1&&decide (0<(pl ts i).1)&&decide ((DM ts i).1=1)&&(DM ts i).2&&Ky ts i
def CS (ts:List Tok) (n:Nat):List Int:=((List.range n).filter (Bs ts)).map fun i:Nat=>(i:Int)
theorem MP {ts:List Tok} {n:Nat} (h:Bs ts n=true):CS ts (n+1)=CS ts n++[(n:Int)]:=by simp [CS,List.range_succ,h]
theorem Bf {ts:List Tok} {n:Nat} (h:Bs ts n=false):CS ts (n+1)=CS ts n:=by simp [CS,List.range_succ,h]
theorem JA (ts:List Tok) (n:Nat):(CS ts n).length≤n:=by
 have:=List.length_filter_le (Bs ts) (List.range n)
 simpa [CS] using this
theorem RE (ts:List Tok) (hl:ts.length≤200000000):AS C1 10 [.c (.p (rT ts))] fun y=>y=.c (.p (rI (CS ts ts.length))):=by
 refine Pf (by rfl) (by rfl) oI (by rfl) ?_
 simp only [Try.f10,List.length_cons,List.length_nil,List.replicate,List.cons_append,List.nil_append]
 simp -implicitDefEqProofs only [↓yP,yT]
 refine AB (Sb ts hl) (by rfl) fun y hy=>?_
 subst hy
 simp -implicitDefEqProofs only [↓yP,yT]
 refine Cb 4 1 (by decide) rfl ?_
 refine Ah (fun d e s=>∃i:Nat,e=[.c (.p (rT ts)),Tp,Tp,.c (.p (rP ts)),.c (.own 0 1 0 (CS ts i).length),yd (.int .i64 (DM ts i).1),yd (.bool (DM ts i).2),Tp,Tp,Tp,Tp,.c (.p (rT ts)),yd (.int .i64 ts.length),yd (.int .i64 i),Tp,Tp,Tp,Tp,Tp,Tp,Tp,Tp,Tp,Tp,Tp,Tp,Tp,Tp,Tp,Tp,Tp,Tp,Tp,Tp,Tp,Tp,Tp,Tp,Tp,Tp,Tp,Tp,Tp,Tp,Tp,Tp,Tp,Tp,Tp,Tp,Tp,Tp,Tp,Tp,Tp,Tp,Tp,Tp,Tp,Tp,Tp,Tp,Tp,Tp,Tp,Tp,Tp,Tp,Tp,Tp,Tp,Tp,Tp,Tp]∧s=[.row 1 ((CS ts i).map ei)]∧i+d=ts.length)
  [true,false,false,true,true,true,true,false,false,false,false,true,true,true] ts.length [0] (by decide) (AC _) ⟨0,by simp only [yE];rfl,by simp only [yE];rfl,by omega⟩ ?_
 rintro d e s ⟨i,rfl,rfl,hd⟩
 by_cases hi:i<ts.length
 ·obtain ⟨t,ht⟩:=get_lt hi
  have hk:=B6 ht
  have hli:=aE ts i
  have hsl:=SK ts i
  have hcl:=JA ts i
  have bcol:((CS ts i).length+1)*8≤70368744177664:=by omega
  have t1:AN (ts.length:Nat) (i:Nat)=false:=AE (by omega)
  have w1:AG .i64 ((i:Int)+1)=((i+1:Nat):Int):=AK (by omega)
  have w3:AG .i64 (((DM ts i).1:Int)+1)=(((DM ts i).1+1:Nat):Int):=AK (by omega)
  simp -implicitDefEqProofs only [↓yP,yT,Nat.reduceAdd,reduceCtorEq,t1,AP ht,Tok.pc]
  refine AB (NX t) (by rfl) fun y hy=>?_
  subst hy
  cases hq:BK t.kind with
  |true=>
   have hno:Bs ts i=false:=by
    simp only [BK,Bool.or_eq_true,decide_eq_true_eq] at hq
    have:t.kind≠16:=by omega
    simp [Bs,hk,this]
   have hsin:DM ts (i+1)=DM ts i:=by rw [DM,hk,if_pos hq]
   simp -implicitDefEqProofs only [↓yP,yT,Nat.reduceEqDiff,w1]
   refine ⟨d - 1,[0],by omega,by decide,AC _,i+1,?_,?_,by omega⟩
   ·simp only [yE,Bf hno,hsin]
   ·simp only [yE,Bf hno]
  |false=>
   have hq':¬BK (Bv ts i)=true:=by rw [hk,hq];simp
   simp -implicitDefEqProofs only [↓yP,yT,Nat.reduceAdd]
   refine AB (Nv t) (by rfl) fun y hy=>?_
   subst hy
   by_cases hpb:Fk t.kind=true∧(pl ts i).2.1=true
   ·obtain ⟨hp1,hp2⟩:=hpb
    have hno:Bs ts i=false:=by
     simp only [Fk,Bool.or_eq_true,decide_eq_true_eq] at hp1
     have:t.kind≠16:=by omega
     simp [Bs,hk,this]
    have hsin:DM ts (i+1)=(0,(DM ts i).2):=by rw [DM,if_neg hq',hk,if_pos ⟨hp1,hp2⟩]
    simp -implicitDefEqProofs only [↓yP,yT,Nat.reduceAdd,Nat.reduceLeDiff,Nat.reduceEqDiff,reduceCtorEq,hp1,GQ hi,hp2,w1]
    refine ⟨d - 1,[0],by omega,by decide,AC _,i+1,?_,?_,by omega⟩
    ·simp only [yE,Bf hno,hsin]
     rfl
    ·simp only [yE,Bf hno]
   ·have hsin:DM ts (i+1)=((DM ts i).1+1,decide (t.kind=1)):=by rw [DM,if_neg hq',hk,if_neg hpb]
    cases hp1:Fk t.kind with
    |true=>
     have hp2:(pl ts i).2.1=false:=by
      cases hb:(pl ts i).2.1 with
      |false=>rfl
      |true=>exact absurd ⟨hp1,hb⟩ hpb
     have k16:t.kind≠16:=by
      simp only [Fk,Bool.or_eq_true,decide_eq_true_eq] at hp1
      omega
     have f1:AJ t.kind 16=false:=AF k16
     have hno:Bs ts i=false:=by simp [Bs,hk,k16]
     simp -implicitDefEqProofs only [↓yP,yT,Nat.reduceAdd,Nat.reduceLeDiff,reduceCtorEq,GQ hi,hp2,f1]
     refine A8 (by rw [C5];kernel_rfl) ?_
     simp -implicitDefEqProofs only [↓yP,yT,w1,w3]
     refine ⟨d - 1,[0],by omega,by decide,AC _,i+1,?_,?_,by omega⟩
     ·simp only [yE,Bf hno,hsin,BN]
     ·simp only [yE,Bf hno]
    |false=>
     by_cases k16:t.kind=16
     ·have f1:AJ t.kind 16=true:=by rw [k16];rfl
      cases hb:(pl ts i).2.1 with
      |false=>
       have hno:Bs ts i=false:=by simp [Bs,hb]
       simp -implicitDefEqProofs only [↓yP,yT,Nat.reduceAdd,Nat.reduceLeDiff,reduceCtorEq,GQ hi,hb,f1]
       refine A8 (by rw [C5];kernel_rfl) ?_
       simp -implicitDefEqProofs only [↓yP,yT,w1,w3]
       refine ⟨d - 1,[0],by omega,by decide,AC _,i+1,?_,?_,by omega⟩
       ·simp only [yE,Bf hno,hsin,BN]
       ·simp only [yE,Bf hno]
      |true=>
       by_cases hd0:0<(pl ts i).1
       ·have f2:AN ((pl ts i).1:Nat) 0=false:=AE (by omega)
        by_cases hn1:(DM ts i).1=1
        ·have f3:AJ ((DM ts i).1:Nat) 1=true:=by rw [hn1];rfl
         cases hid:(DM ts i).2 with
         |false=>
          have hno:Bs ts i=false:=by simp [Bs,hid]
          simp -implicitDefEqProofs only [↓yP,yT,Nat.reduceAdd,Nat.reduceLeDiff,reduceCtorEq,GQ hi,hb,f1,f2,f3]
          refine A8 (by rw [C5];kernel_rfl) ?_
          simp -implicitDefEqProofs only [↓yP,yT,w1,w3]
          refine ⟨d - 1,[0],by omega,by decide,AC _,i+1,?_,?_,by omega⟩
          ·simp only [yE,Bf hno,hsin,BN]
          ·simp only [yE,Bf hno]
         |true=>
          simp -implicitDefEqProofs only [↓yP,yT,Nat.reduceAdd,Nat.reduceLeDiff,reduceCtorEq,GQ hi,hb,f1,f2,f3]
          refine AB (T0 ts i hl hi) (by rfl) fun y hy=>?_
          subst hy
          cases hpl:Ky ts i with
          |false=>
           have hno:Bs ts i=false:=by simp [Bs,hpl]
           simp -implicitDefEqProofs only [↓yP,yT]
           refine A8 (by rw [C5];kernel_rfl) ?_
           simp -implicitDefEqProofs only [↓yP,yT,w1,w3]
           refine ⟨d - 1,[0],by omega,by decide,AC _,i+1,?_,?_,by omega⟩
           ·simp only [yE,Bf hno,hsin,BN]
           ·simp only [yE,Bf hno]
          |true=>
           have hyes:Bs ts i=true:=by simp [Bs,hk,k16,hb,hd0,hn1,hid,hpl]
           simp -implicitDefEqProofs only [↓yP,yT,Nat.reduceAdd,Nat.reduceMul,Nat.reduceLeDiff,reduceCtorEq,bcol]
           refine A8 (by rw [C5];kernel_rfl) ?_
           simp -implicitDefEqProofs only [↓yP,yT,w1,w3]
           refine ⟨d - 1,[3],by omega,by decide,AC _,i+1,?_,?_,by omega⟩
           ·simp only [yE,MP hyes,hsin,BN]
           ·simp only [yE,MP hyes,List.map_append,ei]
        ·have f3:AJ ((DM ts i).1:Nat) 1=false:=AF (by omega)
         have hno:Bs ts i=false:=by simp [Bs,hn1]
         simp -implicitDefEqProofs only [↓yP,yT,Nat.reduceAdd,Nat.reduceLeDiff,reduceCtorEq,GQ hi,hb,f1,f2,f3]
         refine A8 (by rw [C5];kernel_rfl) ?_
         simp -implicitDefEqProofs only [↓yP,yT,w1,w3]
         refine ⟨d - 1,[0],by omega,by decide,AC _,i+1,?_,?_,by omega⟩
         ·simp only [yE,Bf hno,hsin,BN]
         ·simp only [yE,Bf hno]
       ·have f2:AN ((pl ts i).1:Nat) 0=true:=AH (by omega)
        have hno:Bs ts i=false:=by simp [Bs,hd0]
        simp -implicitDefEqProofs only [↓yP,yT,Nat.reduceAdd,Nat.reduceLeDiff,reduceCtorEq,GQ hi,hb,f1,f2]
        refine A8 (by rw [C5];kernel_rfl) ?_
        simp -implicitDefEqProofs only [↓yP,yT,w1,w3]
        refine ⟨d - 1,[0],by omega,by decide,AC _,i+1,?_,?_,by omega⟩
        ·simp only [yE,Bf hno,hsin,BN]
        ·simp only [yE,Bf hno]
     ·have f1:AJ t.kind 16=false:=AF k16
      have hno:Bs ts i=false:=by simp [Bs,hk,k16]
      simp -implicitDefEqProofs only [↓yP,yT,f1]
      refine A8 (by rw [C5];kernel_rfl) ?_
      simp -implicitDefEqProofs only [↓yP,yT,w1,w3]
      refine ⟨d - 1,[0],by omega,by decide,AC _,i+1,?_,?_,by omega⟩
      ·simp only [yE,Bf hno,hsin,BN]
      ·simp only [yE,Bf hno]
 ·have t1:AN (ts.length:Nat) (i:Nat)=true:=AH (by omega)
  have:i=ts.length:=by omega
  subst this
  simp -implicitDefEqProofs only [↓yP,yT,reduceCtorEq,t1]
end Go.Vx.Seat
end
section
open Go Go.Vx Go.Proofs
set_option maxRecDepth 10000
set_option maxHeartbeats 4000000
namespace Go.Vx.Seat
attribute [local irreducible] Rg Rt Ro Ri Rc Ds Dt Dw Dx Rw Rl Rd Av An kf
theorem nH:By C1.P.funcs.toList 89=some Try.f89:=by kernel_rfl
theorem kQ:By C1.P.funcs.toList 110=some Try.f110:=by kernel_rfl
theorem mN:By C1.P.funcs.toList 111=some Try.f111:=by kernel_rfl
theorem lK:By C1.P.funcs.toList 121=some Try.f121:=by kernel_rfl
theorem jM (n:Int):AS C1 111 [yd (.int .i64 n)] fun y=>y=yd (.bool false):=by
 refine Pf (by rfl) (by rfl) mN (by rfl) ?_
 simp only [Try.f111,List.length_cons,List.length_nil,List.replicate,List.cons_append,List.nil_append]
 simp -implicitDefEqProofs only [↓yP,yT,reduceCtorEq,CV]
theorem kI (n:Int):AS C1 121 [yd (.int .i64 n)] fun y=>y=yd (.bool false):=by
 refine Pf (by rfl) (by rfl) lK (by rfl) ?_
 simp only [Try.f121,List.length_cons,List.length_nil,List.replicate,List.cons_append,List.nil_append]
 simp -implicitDefEqProofs only [↓yP,yT,reduceCtorEq,CV]
theorem Xa (a b:Int):AS C1 110 [yd (.int .i64 a),yd (.int .i64 b)] fun y=>y=yd (.bool (!AN b a)):=by
 refine Pf (by rfl) (by rfl) kQ (by rfl) ?_
 simp only [Try.f110,List.length_cons,List.length_nil,List.replicate,List.cons_append,List.nil_append]
 simp -implicitDefEqProofs only [↓yP,yT]
 refine AB (kI a) (by rfl) fun y hy=>?_
 subst hy
 simp -implicitDefEqProofs only [↓yP,yT,reduceCtorEq]
theorem ZD {i:Nat} (h:i<9000000000000000000):AG .u64 ((i:Nat):Int)=(i:Nat):=by
 rw [D0]
 simp only [IntKind.wrap,IntKind.bits,IntKind.signed]
 have:(2 ^ 64:Int)=18446744073709551616:=by decide
 simp only [*,Bool.false_and,Bool.false_eq_true,if_false]
 omega
theorem cI (i:Nat):D8 .shr .u64 ((i:Nat):Int) 1=some (.int .u64 ((i / 2:Nat):Int)):=by
 simp only [D8,IntKind.bits]
 rw [if_neg (by omega)]
 congr 2
 show Int.fdiv (i:Int) (2 ^ (min 1 64))=_
 rw [show (2:Int) ^ (min 1 64)=2 by decide,Int.fdiv_eq_ediv_of_nonneg _ (by omega)]
 omega
def iC (l:List Int) (n:Int) (k:Nat):Prop:=k≤l.length∧(∀(j:Nat) (a:Int),j<k→l[j]?=some a→a<n)∧∀(j:Nat) (a:Int),k≤j→l[j]?=some a→n≤a
def Om (l:List Int):Prop:=∀(i j:Nat) (a b:Int),i<j→l[i]?=some a→l[j]?=some b→a<b
theorem TJ (l:List Int) (n:Int) (hl:l.length≤200000000) (hr:Om l):AS C1 89 [.c (.p (rI l)),yd (.int .i64 n)] fun y=>∃(k:Nat) (b:Bool),y=.tup [yd (.int .i64 k),yd (.bool b)]∧iC l n k∧(b=true↔l[k]?=some n):=by
 refine Pf (by rfl) (by rfl) nH (by rfl) ?_
 simp only [Try.f89,List.length_cons,List.length_nil,List.replicate,List.cons_append,List.nil_append]
 simp -implicitDefEqProofs only [↓yP,yT]
 refine Ah (fun d e s=>∃i j:Nat,e=[.c (.p (rI l)),yd (.int .i64 n),Tp,Tp,Tp,Tp,yd (.int .i64 l.length),yd (.int .i64 i),yd (.int .i64 j),Tp,Tp,Tp,Tp,Tp,Tp,Tp,Tp,Tp,Tp,Tp,Tp,Tp,Tp,Tp,Tp,Tp,Tp,Tp,Tp,Tp,Tp,Tp,Tp,Tp,Tp,Tp,Tp,Tp,Tp,Tp,Tp,Tp,Tp,Tp,Tp,Tp,Tp,Tp,Tp,Tp,Tp,Tp,Tp,Tp]∧s=[]∧i≤j∧j≤l.length∧j - i=d∧(∀(k:Nat) (a:Int),k<i→l[k]?=some a→a<n)∧∀(k:Nat) (a:Int),j≤k→l[k]?=some a→n≤a)
  [true,true,false,false,false,false,true,true,true] l.length [] (by decide) (AC _) ⟨0,l.length,by simp only [yE];rfl,rfl,by omega,by omega,by omega,fun k a hk=>by omega,fun k a hk ha=>by have:=Az ha;omega⟩ ?_
 rintro d e s ⟨i,j,rfl,rfl,hij,hjl,hd,hlo,hhi⟩
 by_cases hlt:i<j
 ·have t1:AN (j:Nat) (i:Nat)=false:=AE (by omega)
  have wa:AG .i64 ((i:Int)+(j:Int))=((i+j:Nat):Int):=by rw [show (i:Int)+(j:Int)=((i+j:Nat):Int) by omega];exact A1 (by omega)
  have wb:AG .u64 ((i+j:Nat):Int)=((i+j:Nat):Int):=ZD (by omega)
  have wc:AG .i64 (((i+j) / 2:Nat):Int)=(((i+j) / 2:Nat):Int):=A1 (by omega)
  have wd:AG .i64 ((((i+j) / 2:Nat):Int)+1)=(((i+j) / 2+1:Nat):Int):=AK (by omega)
  obtain ⟨a,ha⟩:=get_lt (show (i+j) / 2<l.length by omega)
  simp -implicitDefEqProofs only [↓yP,yT,t1,wa,wb,wc,cI,AP ha,ei]
  refine AB (Xa a n) (by rfl) fun y hy=>?_
  subst hy
  by_cases hn:n≤a
  ·have t2:AN n a=true:=AH hn
   simp -implicitDefEqProofs only [↓yP,yT,t2]
   refine ⟨j - i - 1 - ((j - i - 1) - ((i+j) / 2 - i)),[],by omega,by decide,AC _,i,(i+j) / 2,?_,rfl,by omega,by omega,by omega,hlo,fun k b hk hb=>?_⟩
   ·simp only [yE]
   ·by_cases e:k=(i+j) / 2
    ·subst e;rw [ha] at hb;cases hb;exact hn
    ·have:=hr _ _ _ _ (show (i+j) / 2<k by omega) ha hb;omega
  ·have t2:AN n a=false:=AE hn
   simp -implicitDefEqProofs only [↓yP,yT,t2,wd]
   refine ⟨j - ((i+j) / 2+1),[],by omega,by decide,AC _,(i+j) / 2+1,j,?_,rfl,by omega,by omega,by omega,fun k b hk hb=>?_,hhi⟩
   ·simp only [yE]
   ·by_cases e:k=(i+j) / 2
    ·subst e;rw [ha] at hb;cases hb;omega
    ·have:=hr _ _ _ _ (show k<(i+j) / 2 by omega) hb ha;omega
 ·have t1:AN (j:Nat) (i:Nat)=true:=AH (by omega)
  have:i=j:=by omega
  subst this
  by_cases hil:i<l.length
  ·obtain ⟨a,ha⟩:=get_lt hil
   have t2:AN (l.length:Nat) (i:Nat)=false:=AE (by omega)
   by_cases hn:a=n
   ·subst hn
    simp -implicitDefEqProofs only [↓yP,yT,reduceCtorEq,t1,t2,AP ha,ei,CV]
    exact ⟨i,true,rfl,⟨by omega,hlo,hhi⟩,by simp [ha]⟩
   ·have e1:AJ a n=false:=AF hn
    simp -implicitDefEqProofs only [↓yP,yT,t1,t2,AP ha,ei,e1]
    refine AB (jM a) (by rfl) fun y hy=>?_
    subst hy
    simp -implicitDefEqProofs only [↓yP,yT,reduceCtorEq]
    exact ⟨i,false,rfl,⟨by omega,hlo,hhi⟩,by simp [ha,hn]⟩
  ·have t2:AN (l.length:Nat) (i:Nat)=true:=AH (by omega)
   simp -implicitDefEqProofs only [↓yP,yT,reduceCtorEq,t1,t2]
   exact ⟨i,false,rfl,⟨by omega,hlo,hhi⟩,by rw [List.getElem?_eq_none (by omega)];simp⟩
end Go.Vx.Seat
end
section
open Go Go.Vx Go.Proofs
set_option maxRecDepth 10000
set_option maxHeartbeats 4000000
namespace Go.Vx.Seat
attribute [local irreducible] Rg Rt Ro Ri Rc Ds Dt Dw Dx Rw Rl Rd Av An kf
theorem oV:By C1.P.funcs.toList 16=some Try.f16:=by kernel_rfl
def Tok.vals (t:Tok):List Value:=
 [.int .i64 t.kind,.string t.text,.string t.unit,.bool t.neg,.string t.digits,.string t.exp,.bool t.flag,.bool t.sign,.int .i64 t.c0,.int .i64 t.c1,.int .i64 t.c2,.int .i64 t.c3,.int .i64 t.start]
noncomputable def II (t u:Tok):Bool:=match EK t.vals u.vals with|some b=>b|none=>false
theorem Yd (a b:ByteArray):AA a=AA b↔a=b:=by
 constructor
 ·intro h
  cases a;cases b
  simp only [AA] at h
  congr 1
  exact Array.toList_inj.mp h
 ·intro h;rw [h]
theorem Jd (t u:Tok):II t u=true↔t=u:=by
 cases t;cases u
 simp only [II,Tok.vals,EK,JG,if_true,Bool.and_true,Bool.and_eq_true,decide_eq_true_eq,beq_iff_eq,Yd,Tok.mk.injEq]
theorem SU (t u:Tok):EK t.vals u.vals=some (II t u):=by
 simp only [II,Tok.vals,EK,JG,if_true]
theorem Wf:Cv Try.prog 38=some (.agg #[.int .i64 0,.string ⟨#[]⟩,.string ⟨#[]⟩,.bool false,.string ⟨#[]⟩,.string ⟨#[]⟩,.bool false,.bool false,.int .i64 0,.int .i64 0,.int .i64 0,.int .i64 0,.int .i64 0]):=by kernel_rfl
theorem aO:C1.eqs.contains 38=true:=by kernel_rfl
theorem Vi (t u:Tok):EH Try.prog C1.eqs .neq 38 (.agg ⟨t.vals⟩) (.agg ⟨u.vals⟩)=some (.bool (!II t u)):=by
 have h1:CO (clist (.agg #[.int .i64 0,.string ⟨#[]⟩,.string ⟨#[]⟩,.bool false,.string ⟨#[]⟩,.string ⟨#[]⟩,.bool false,.bool false,.int .i64 0,.int .i64 0,.int .i64 0,.int .i64 0,.int .i64 0])) t.vals=true:=rfl
 have h2:CO (clist (.agg #[.int .i64 0,.string ⟨#[]⟩,.string ⟨#[]⟩,.bool false,.string ⟨#[]⟩,.string ⟨#[]⟩,.bool false,.bool false,.int .i64 0,.int .i64 0,.int .i64 0,.int .i64 0,.int .i64 0])) u.vals=true:=rfl
 simp only [EH,Og,aO,if_true,HU,Wf]
 rw [h1,h2]
 simp only [Bool.and_self,if_true,SU]
theorem E2 (l m:List Tok) (hl:l.length≤200000000):AS C1 16 [.c (.p (rT l)),.c (.p (rT m))] fun y=>∃b:Bool,y=yd (.bool b)∧(b=true↔l=m):=by
 refine Pf (by rfl) (by rfl) oV (by rfl) ?_
 simp only [Try.f16,List.length_cons,List.length_nil,List.replicate,List.cons_append,List.nil_append]
 by_cases hlen:l.length=m.length
 ·have f1:AJ (l.length:Nat) (m.length:Nat)=true:=by rw [hlen];exact CV _
  simp -implicitDefEqProofs only [↓yP,yT,f1]
  refine Ah (fun d e s=>∃i:Nat,e=[.c (.p (rT l)),.c (.p (rT m)),Tp,Tp,Tp,yd (.int .i64 i),Tp,Tp,Tp,Tp,Tp,Tp,Tp,Tp,Tp,Tp,Tp,Tp,Tp,Tp,Tp,Tp,Tp,Tp,Tp,Tp]∧s=[]∧i+d=l.length∧∀j,j<i→l[j]?=m[j]?) [true,true,false,false,false,true] l.length [] (by decide) (AC _) ⟨0,by simp only [yE];rfl,rfl,by omega,fun j hj=>by omega⟩ ?_
  rintro d e s ⟨i,rfl,rfl,hd,hsame⟩
  by_cases hi:i<l.length
  ·obtain ⟨t,ht⟩:=get_lt hi
   obtain ⟨u,hu⟩:=get_lt (show i<m.length by omega)
   have t1:AN (l.length:Nat) (i:Nat)=false:=AE (by omega)
   have w1:AG .i64 ((i:Int)+1)=((i+1:Nat):Int):=AK (by omega)
   have hneq:=Vi t u
   simp only [Tok.vals] at hneq
   simp -implicitDefEqProofs only [↓yP,yT,t1]
   refine A8 (by rw [C5];kernel_rfl) ?_
   cases hq:II t u with
   |true=>
    rw [hq] at hneq
    have he:=(Jd t u).mp hq
    simp -implicitDefEqProofs only [↓yP,yT,Nat.reduceAdd,reduceCtorEq,AP ht,AP hu,Tok.pc,hneq,w1]
    refine ⟨d - 1,[],by omega,by decide,AC _,i+1,?_,rfl,by omega,fun j hj=>?_⟩
    ·simp only [yE]
    ·by_cases e:j=i
     ·subst e;rw [ht,hu,he]
     ·exact hsame j (by omega)
   |false=>
    rw [hq] at hneq
    simp -implicitDefEqProofs only [↓yP,yT,Nat.reduceAdd,reduceCtorEq,AP ht,AP hu,Tok.pc,hneq]
    refine ⟨false,rfl,by simp;intro h;subst h;rw [ht] at hu;cases hu;rw [(Jd t t).mpr rfl] at hq;cases hq⟩
  ·have t1:AN (l.length:Nat) (i:Nat)=true:=AH (by omega)
   simp -implicitDefEqProofs only [↓yP,yT,reduceCtorEq,t1]
   refine ⟨true,rfl,by simp;apply List.ext_getElem?;intro j;by_cases hj:j<i;exact hsame j hj;rw [List.getElem?_eq_none (by omega),List.getElem?_eq_none (by omega)]⟩
 ·have f1:AJ (l.length:Nat) (m.length:Nat)=false:=AF (by omega)
  simp -implicitDefEqProofs only [↓yP,yT,reduceCtorEq,f1]
  refine ⟨false,rfl,by simp;intro h;subst h;exact hlen rfl⟩
end Go.Vx.Seat
end
section
open Go Go.Vx Go.Proofs
set_option maxRecDepth 10000
set_option maxHeartbeats 4000000
namespace Go.Vx.Seat
attribute [local irreducible] Rg Rt Ro Ri Rc Ds Dt Dw Dx Rw Rl Rd Av An kf
theorem pU:By C1.P.funcs.toList 37=some Try.f37:=by kernel_rfl
theorem nD:By C1.P.funcs.toList 38=some Try.f38:=by kernel_rfl
noncomputable def QH (t u:Tok):Bool:=II {t with start:=u.start} u
theorem JK (t u:Tok):EH Try.prog C1.eqs .eql 38 (.agg ⟨t.vals⟩) (.agg ⟨u.vals⟩)=some (.bool (II t u)):=by
 have h:=Vi t u
 simp only [EH,Og,aO,if_true,HU,Wf] at h ⊢
 split at h<;>simp_all
theorem Ut (t u:Tok):AS C1 38 [t.yv,u.yv] fun y=>y=yd (.bool (QH t u)):=by
 have he:=JK {t with start:=u.start} u
 simp only [Tok.vals] at he
 refine Pf (by rfl) (by rfl) nD (by rfl) ?_
 simp only [Try.f38,List.length_cons,List.length_nil,List.replicate,List.cons_append,List.nil_append]
 simp only [Tok.yv,Tok.cs,Tok.pc,List.map_cons,List.map_nil]
 simp -implicitDefEqProofs only [↓yP,yT,Nat.reduceAdd,reduceCtorEq,he]
 rfl
end Go.Vx.Seat
end
section
open Go Go.Vx Go.Proofs
set_option maxRecDepth 10000
set_option maxHeartbeats 4000000
namespace Go.Vx.Seat
attribute [local irreducible] Rg Rt Ro Ri Rc Ds Dt Dw Dx Rw Rl Rd Av An kf
theorem pT:By C1.P.funcs.toList 14=some Try.f14:=by kernel_rfl
abbrev qH (f:FuncId):YV:=yd (.func (.func f) #[] #[])
def M0 (l m:List Tok):Prop:=l.length=m.length∧∀(i:Nat) (t u:Tok),l[i]?=some t→m[i]?=some u→QH t u=true
theorem TN (l m:List Tok) (hl:l.length≤200000000) (hm:m.length≤200000000):AS C1 37 [.c (.p (rT l)),.c (.p (rT m)),qH 38] fun y=>∃b:Bool,y=yd (.bool b)∧(b=true↔M0 l m):=by
 refine Pf (by rfl) (by rfl) pU (by rfl) ?_
 simp only [Try.f37,List.length_cons,List.length_nil,List.replicate,List.cons_append,List.nil_append]
 by_cases hlen:l.length=m.length
 ·have f1:AJ (l.length:Nat) (m.length:Nat)=true:=by rw [hlen];exact CV _
  simp -implicitDefEqProofs only [↓yP,yT,f1]
  refine Ah (fun d e s=>∃i:Nat,e=[Tp,.c (.p (rT m)),qH 38,Tp,Tp,Tp,Tp,Tp,Tp,Tp,Tp,Tp,Tp,Tp,Tp,.c (.p (rT l)),yd (.int .i64 (l.length:Nat)),yd (.int .i64 i),Tp,Tp,Tp,Tp,Tp,Tp,Tp,Tp,Tp,Tp,Tp,Tp,Tp,Tp]∧s=[]∧i+d=l.length∧∀j t u,j<i→l[j]?=some t→m[j]?=some u→QH t u=true) [false,true,true,false,false,false,false,false,false,false,false,false,false,false,false,true,true,true] l.length [] (by decide) (AC _) ⟨0,by simp only [yE];rfl,rfl,by omega,fun j t u hj=>absurd hj (Nat.not_lt_zero j)⟩ ?_
  rintro d e s ⟨i,rfl,rfl,hd,hsame⟩
  by_cases hi:i<l.length
  ·obtain ⟨t,ht⟩:=get_lt hi
   obtain ⟨u,hu⟩:=get_lt (show i<m.length by omega)
   have t1:AN (l.length:Nat) (i:Nat)=false:=AE (by omega)
   have w1:AG .i64 ((i:Int)+1)=((i+1:Nat):Int):=AK (by omega)
   simp -implicitDefEqProofs only [↓yP,yT,Nat.reduceAdd,reduceCtorEq,t1,AP ht,AP hu,Tok.pc]
   refine AB (Ut t u) (by rfl) fun y hy=>?_
   subst hy
   cases hq:QH t u with
   |true=>
    simp -implicitDefEqProofs only [↓yP,yT,w1]
    refine ⟨d - 1,[],by omega,by decide,AC _,i+1,by (simp only [yE];try rfl),by (simp only [yE];try rfl),by omega,fun j t' u' hj h1 h2=>?_⟩
    by_cases e:j=i
    ·subst e;rw [ht] at h1;rw [hu] at h2;cases h1;cases h2;exact hq
    ·exact hsame j t' u' (by omega) h1 h2
   |false=>
    simp -implicitDefEqProofs only [↓yP,yT,reduceCtorEq]
    refine ⟨false,rfl,by simp;intro h;have:=h.2 i t u ht hu;rw [hq] at this;cases this⟩
  ·have t1:AN (l.length:Nat) (i:Nat)=true:=AH (by omega)
   simp -implicitDefEqProofs only [↓yP,yT,reduceCtorEq,t1]
   refine ⟨true,rfl,by simp;exact ⟨hlen,fun j t u h1 h2=>hsame j t u (by have:=(List.getElem?_eq_some_iff.mp h1).1;omega) h1 h2⟩⟩
 ·have f1:AJ (l.length:Nat) (m.length:Nat)=false:=AF (by omega)
  simp -implicitDefEqProofs only [↓yP,yT,reduceCtorEq,f1]
  refine ⟨false,rfl,by simp;intro h;exact absurd h.1 hlen⟩
theorem Xk (l m:List Tok) (hl:l.length≤200000000) (hm:m.length≤200000000):AS C1 14 [.c (.p (rT l)),.c (.p (rT m))] fun y=>∃b:Bool,y=yd (.bool b)∧(b=true↔M0 l m):=by
 refine Pf (by rfl) (by rfl) pT (by rfl) ?_
 simp only [Try.f14,List.length_cons,List.length_nil,List.replicate,List.cons_append,List.nil_append]
 simp -implicitDefEqProofs only [↓yP,yT]
 refine AB (TN l m hl hm) (by rfl) fun y hy=>?_
 obtain ⟨b,rfl,hb⟩:=hy
 simp -implicitDefEqProofs only [↓yP,yT,reduceCtorEq]
 exact ⟨b,rfl,hb⟩
end Go.Vx.Seat
end
section
open Go Go.Vx Go.Proofs
set_option maxRecDepth 10000
set_option maxHeartbeats 4000000
namespace Go.Vx.Seat
attribute [local irreducible] Rg Rt Ro Ri Rc Ds Dt Dw Dx Rw Rl Rd Av An kf
theorem mE:By C1.P.funcs.toList 39=some Try.f39:=by kernel_rfl
def bare (t:Tok):Tok:={t with start:=0}
theorem Ep (l:List Tok) (hl:l.length≤200000000):AS C1 39 [.c (.p (rT l))] fun y=>y=.c (.p (rT (l.map bare))):=by
 refine Pf (by rfl) (by rfl) mE (by rfl) ?_
 simp only [Try.f39,List.length_cons,List.length_nil,List.replicate,List.cons_append,List.nil_append]
 simp -implicitDefEqProofs only [↓yP,yT]
 refine Cb 3 13 (by decide) rfl ?_
 refine Ah (fun d e s=>∃(i:Nat) (out:List Tok),e=([.c (.p (rT l)),Tp,Tp,.c (.own 0 13 0 out.length),yd (.int .i64 (i:Nat)),Tp,Tp,Tp,Tp,Tp,Tp,Tp,Tp,Tp,Tp,Tp,Tp,Tp,Tp,Tp,Tp,Tp])∧s=[.row 13 (out.map Tok.pc)]∧i+d=l.length∧out=(l.take i).map bare)
  [true,false,false,true,true] l.length [0] (by decide) (AC _) ⟨0,[],by (simp only [yE];try rfl),by (simp only [yE];try rfl),by omega,by simp⟩ ?_
 rintro d e s ⟨i,out,rfl,rfl,hd,hout⟩
 by_cases hi:i<l.length
 ·obtain ⟨t,ht⟩:=get_lt hi
  have t1:AN (l.length:Nat) (i:Nat)=false:=AE (by omega)
  have w1:AG .i64 ((i:Int)+1)=((i+1:Nat):Int):=AK (by omega)
  have hlen:out.length=i:=by rw [hout];simp;omega
  have b1:(out.length+1)*128≤70368744177664:=by rw [hlen];omega
  simp -implicitDefEqProofs only [↓yP,yT,Nat.reduceAdd,Nat.reduceMul,Nat.reduceLeDiff,reduceCtorEq,t1,AP ht,Tok.pc,b1,w1]
  refine ⟨d - 1,[3],by omega,by decide,AC _,i+1,out++[bare t],by (simp only [yE];try rfl),?_,by omega,by rw [hout,List.take_add_one,ht];simp⟩
  simp only [yE,List.map_append];rfl
 ·have t1:AN (l.length:Nat) (i:Nat)=true:=AH (by omega)
  have hlen:l.take i=l:=List.take_of_length_le (by omega)
  rw [hlen] at hout
  subst hout
  simp -implicitDefEqProofs only [↓yP,yT,reduceCtorEq,t1]
  rw [List.take_of_length_le (by simp)]
theorem aG (l m:List Tok):l.map bare=m.map bare↔M0 l m:=by
 have key:∀t u:Tok,QH t u=true↔bare t=bare u:=fun t u=>by
  rw [QH,Jd]
  cases t;cases u
  simp only [bare,Tok.mk.injEq]
  try simp
 constructor
 ·intro h
  have hlen:l.length=m.length:=by simpa using congrArg List.length h
  refine ⟨hlen,fun i t u ht hu=>(key t u).mpr ?_⟩
  have h1:=congrArg (fun x=>x[i]?) h
  simp only [List.getElem?_map,ht,hu,Option.map_some,Option.some.injEq] at h1
  exact h1
 ·rintro ⟨hlen,h⟩
  apply List.ext_getElem?
  intro i
  rw [List.getElem?_map,List.getElem?_map]
  by_cases hi:i<l.length
  ·obtain ⟨t,ht⟩:=get_lt hi
   obtain ⟨u,hu⟩:=get_lt (show i<m.length by omega)
   rw [ht,hu]
   simp only [Option.map_some,Option.some.injEq]
   exact (key t u).mp (h i t u ht hu)
  ·rw [List.getElem?_eq_none (by omega),List.getElem?_eq_none (by omega)]
end Go.Vx.Seat
end
section
open Go Go.Vx Go.Proofs
set_option maxRecDepth 10000
set_option maxHeartbeats 8000000
namespace Go.Vx.Seat
attribute [local irreducible] Rg Rt Ro Ri Rc Ds Dt Dw Dx Rw Rl Rd Av An kf
theorem nP:By C1.P.funcs.toList 91=some Try.f91:=by kernel_rfl
theorem oO:By C1.P.funcs.toList 64=some Try.f64:=by kernel_rfl
theorem pH:By C1.P.funcs.toList 65=some Try.f65:=by kernel_rfl
theorem Rf (bs:List Int) (hl:bs.length≤100000000):AS C1 91 [.c (.p (rB bs))] fun y=>∃(a:Int) (b:Bool),y=.tup [yd (.int .i64 a),yd (.bool b)]:=by
 refine Pf (by rfl) (by rfl) nP (by rfl) ?_
 simp only [Try.f91,List.length_cons,List.length_nil,List.replicate,List.cons_append,List.nil_append]
 simp -implicitDefEqProofs only [↓yP,yT]
 refine Ah (fun d e st=>∃i:Nat,e=[.c (.p (rB bs)),Tp,Tp,Tp,yd (.int .i64 (i:Nat)),Tp,Tp,Tp,Tp,Tp,Tp,Tp,Tp,Tp,Tp,Tp,Tp,Tp,Tp,Tp,Tp,Tp,Tp,Tp,Tp,Tp]∧st=[]∧i+d=bs.length) [true,false,false,false,true] bs.length [] (by decide) (AC _) ⟨0,by (simp only [yE];try rfl),by (simp only [yE];try rfl),by omega⟩ ?_
 rintro d e st ⟨i,rfl,rfl,hd⟩
 by_cases hi:i<bs.length
 ·obtain ⟨c,hc⟩:=get_lt hi
  have t1:AN (bs.length:Nat) (i:Nat)=false:=AE (by omega)
  simp -implicitDefEqProofs only [↓yP,yT,t1]
  refine AB (KF bs i c (by omega) hc) (by rfl) fun y hy=>?_
  obtain ⟨r,n,ok,rfl,hn1,hn2,_⟩:=hy
  have w2:AG .i64 ((i:Int)+(n:Nat))=((i+n:Nat):Int):=A1 (i:=i+n) (by omega)
  cases ok with
  |false=>
   simp -implicitDefEqProofs only [↓yP,yT,reduceCtorEq]
   exact ⟨_,_,rfl⟩
  |true=>
   simp -implicitDefEqProofs only [↓yP,yT,w2]
   exact ⟨bs.length - (i+n),[],by omega,by decide,AC _,i+n,by (simp only [yE];try rfl),by (simp only [yE];try rfl),by omega⟩
 ·have t1:AN (bs.length:Nat) (i:Nat)=true:=AH (by omega)
  simp -implicitDefEqProofs only [↓yP,yT,reduceCtorEq,t1]
  exact ⟨_,_,rfl⟩
theorem F1 (s:ByteArray) (hs:(AA s).length≤100000000):AS C1 64 [yd (.string s)] fun y=>∃b:Bool,y=yd (.bool b):=by
 have b0:(AA s).length≤70368744177664:=by omega
 have hbl:(Aj s).length=(AA s).length:=B4 s
 refine Pf (by rfl) (by rfl) oO (by rfl) ?_
 simp only [Try.f64,List.length_cons,List.length_nil,List.replicate,List.cons_append,List.nil_append]
 simp -implicitDefEqProofs only [↓yP,yT,b0,Br]
 rw [←hbl]
 refine DC (gU (Aj s)) (Rf (Aj s) (by omega)) (by rfl) fun y hy=>?_
 obtain ⟨a,ok,rfl⟩:=hy
 simp -implicitDefEqProofs only [↓yP,yT]
 refine Ah (fun d e st=>∃(i:Nat) (ok:Bool),e=[yd (.string s),Tp,Tp,Tp,yd (.bool ok),yd (.int .i64 (i:Nat)),Tp,Tp,Tp,Tp,Tp,Tp,Tp,Tp,Tp,Tp,Tp,Tp,Tp,Tp,Tp,Tp,Tp,Tp,Tp,Tp]∧st=[.dead]∧i+d=(AA s).length) [true,false,false,false,true,true] (AA s).length [0] (by decide) (AC _) ⟨0,ok,by (simp only [yE];try rfl),by (simp only [yE];try rfl),by omega⟩ ?_
 rintro d e st ⟨i,ok,rfl,rfl,hd⟩
 by_cases hi:i<(AA s).length
 ·obtain ⟨c,hc⟩:=get_lt hi
  have t1:AN ((AA s).length:Nat) (i:Nat)=false:=AE (by omega)
  have c0:(0:Int)≤((i:Nat):Int):=by omega
  have w1:AG .i64 ((i:Int)+1)=((i+1:Nat):Int):=AK (by omega)
  cases ok with
  |false=>
   simp -implicitDefEqProofs only [↓yP,yT,AY.eq_1,t1,w1]
   exact ⟨d - 1,[0],by omega,by decide,AC _,i+1,false,by (simp only [yE];try rfl),by (simp only [yE];try rfl),by omega⟩
  |true=>
   cases k:AJ (c.toNat:Nat) 0 with
   |true=>
    simp -implicitDefEqProofs only [↓yP,yT,AY.eq_1,AV.eq_1,t1,w1,c0,hc,k]
    exact ⟨d - 1,[0],by omega,by decide,AC _,i+1,_,by (simp only [yE];try rfl),by (simp only [yE];try rfl),by omega⟩
   |false=>
    simp -implicitDefEqProofs only [↓yP,yT,AY.eq_1,AV.eq_1,t1,w1,c0,hc,k]
    exact ⟨d - 1,[0],by omega,by decide,AC _,i+1,_,by (simp only [yE];try rfl),by (simp only [yE];try rfl),by omega⟩
 ·have t1:AN ((AA s).length:Nat) (i:Nat)=true:=AH (by omega)
  simp -implicitDefEqProofs only [↓yP,yT,reduceCtorEq,AY.eq_1,t1]
  exact ⟨_,rfl⟩
theorem MR (s:ByteArray) (hs:(AA s).length≤200000000):AS C1 19 [yd (.string s)] fun y=>y=.c (.p (rT (BO (BI 0 (Aj s))))):=by
 have hb:(AA s).length≤70368744177664:=by omega
 have hsl:(Aj s).length=(AA s).length:=B4 s
 have hrl:=CN _ (Aj s) (Nat.le_refl _) 0
 refine Pf (by rfl) (by rfl) pK (by rfl) ?_
 simp only [Try.f19,List.length_cons,List.length_nil,List.replicate,List.cons_append,List.nil_append]
 simp -implicitDefEqProofs only [↓yP,yT,hb,Br]
 rw [←hsl]
 refine DC (gU (Aj s)) (C7 (Aj s) (by omega)) (by rfl) fun y hy=>?_
 subst hy
 simp -implicitDefEqProofs only [yT]
 refine AB (DY _ (by omega)) (by rfl) fun y hy=>?_
 subst hy
 simp -implicitDefEqProofs only [↓yP,yT,reduceCtorEq]
theorem Ts (e:Ent) (bs:List Int):IT [e,.row 1 (bs.map eb)] (.own 1 1 0 bs.length)=some (.p (rB bs),[e,.dead]):=by
 have h:By [e,Ent.row 1 (bs.map eb)] 1=some (.row 1 (bs.map eb)):=rfl
 simp [IT,ES,h,List.take_of_length_le]
theorem DD (s:ByteArray) (t:Tok) (hs:(AA s).length≤200000000):AS C1 65 [yd (.string s),t.yv] fun y=>∃b:Bool,y=yd (.bool b)∧(b=true→(BO (BI 0 (Aj s))).map bare=[bare t]):=by
 have hb:(AA s).length≤70368744177664:=by omega
 have hsl:(Aj s).length=(AA s).length:=B4 s
 have hrl:=CN _ (Aj s) (Nat.le_refl _) 0
 have hll:=(Di _ (BI 0 (Aj s)) (Nat.le_refl _)).1
 have t00:(0:Int)≤0:=by omega
 have i00:Int.toNat 0=0:=rfl
 refine Pf (by rfl) (by rfl) pH (by rfl) ?_
 simp only [Try.f65,List.length_cons,List.length_nil,List.replicate,List.cons_append,List.nil_append]
 simp only [Tok.yv,Tok.cs,Tok.pc,List.map_cons,List.map_nil]
 simp -implicitDefEqProofs only [↓yP,yT,hb,Br]
 rw [←hsl]
 refine DC (Ts _ (Aj s)) (C7 (Aj s) (by omega)) (by rfl) fun y hy=>?_
 subst hy
 simp -implicitDefEqProofs only [yT]
 refine AB (DY _ (by omega)) (by rfl) fun y hy=>?_
 subst hy
 simp -implicitDefEqProofs only [↓yP,yT,Nat.reduceAdd]
 refine A8 (by rw [C5];kernel_rfl) ?_
 generalize BO (BI 0 (Aj s))=L at*
 cases L with
 |nil=>
  have t1:AJ ((0:Nat):Int) 1=false:=rfl
  simp -implicitDefEqProofs only [↓yP,yT,reduceCtorEq,t1]
  exact ⟨_,rfl,fun h=>by cases h⟩
 |cons x L=>
  cases L with
  |cons y L=>
   have t1:AJ ((L.length+1+1:Nat):Int) 1=false:=AF (by omega)
   simp -implicitDefEqProofs only [↓yP,yT,reduceCtorEq,t1]
   exact ⟨_,rfl,fun h=>by cases h⟩
  |nil=>
   have t1:AJ ((1:Nat):Int) 1=true:=rfl
   have he:=JK (bare x) (bare t)
   simp only [Tok.vals,bare] at he
   simp -implicitDefEqProofs only [↓yP,yT,t1]
   refine AB (Ep [x] (by omega)) (by rfl) fun y hy=>?_
   subst hy
   obtain ⟨M,hM⟩:∃M,M=List.map bare [x]:=⟨_,rfl⟩
   rw [←hM]
   have hg:M[0]?=some (bare x):=by rw [hM];rfl
   simp -implicitDefEqProofs only [↓yP,yT,Nat.reduceAdd,reduceCtorEq,t00,i00,AP hg,Tok.pc,bare,he]
   refine ⟨_,rfl,fun h=>?_⟩
   have:=(Jd (bare x) (bare t)).mp h
   exact congrArg (fun z=>[z]) this
end Go.Vx.Seat
end
section
open Go Go.Vx Go.Proofs
set_option maxRecDepth 10000
set_option maxHeartbeats 16000000
namespace Go.Vx.Seat
attribute [local irreducible] Rg Rt Ro Ri Rc Ds Dt Dw Dx Rw Rl Rd Av An kf
theorem mH:By C1.P.funcs.toList 44=some Try.f44:=by kernel_rfl
def My (t:Tok):List Int:=Js (Aj t.text)
def Tm (t:Tok):List Int:=Js (Aj t.unit)
structure Good (t:Tok):Prop where
 hl:IM (My t)
 hu:IM (Tm t)
 hll:(My t).length≤1200
 hul:(Tm t).length≤1200
 htx:t.text=AO (enc (My t))
 hun:t.unit=AO (enc (Tm t))
 hd:(AA t.digits).length≤100000
 hx:(AA t.exp).length≤100000
 hk:0≤t.kind∧t.kind≤100
theorem Yl (t:Tok) (g:Good t):∃w:ByteArray,AS C1 21 [t.yv] (fun y=>y=yd (.string w))∧Wr t (My t) (Tm t) w∧(AA w).length≤500000:=by
 obtain ⟨y,⟨w,rfl,h1,h2⟩,h3⟩:=(Q3 t (My t) (Tm t) g.hl g.hu g.hll g.hul g.htx g.hun g.hd g.hx g.hk).det Nh JO rfl
 exact ⟨w,h3,h1,h2⟩
open Classical in
noncomputable def Lg (t:Tok):ByteArray:=if h:Good t then Classical.choose (Yl t h) else ⟨#[]⟩
theorem FZ (t:Tok) (g:Good t):AS C1 21 [t.yv] (fun y=>y=yd (.string (Lg t)))∧Wr t (My t) (Tm t) (Lg t)∧(AA (Lg t)).length≤500000:=by
 rw [Lg,dif_pos g];exact Classical.choose_spec (Yl t g)
theorem mR:C1.eqs.contains 35=true:=by kernel_rfl
theorem kS:C1.eqs.contains 36=true:=by kernel_rfl
theorem jW:Cv Try.prog 35=some (.agg #[.bool false,.string ⟨#[]⟩,.string ⟨#[]⟩]):=by kernel_rfl
theorem iW:Cv Try.prog 36=some (.agg #[.int .i64 0,.int .i64 0,.int .i64 0,.int .i64 0]):=by kernel_rfl
noncomputable def pY (a:Bool) (d x:ByteArray):Bool:= !(match EK [.bool a,.string d,.string x] [.bool false,.string ⟨#[]⟩,.string ⟨#[]⟩] with|some b=>b|none=>false)
noncomputable def mX (a b c d:Int):Bool:= !(match EK [.int .i64 a,.int .i64 b,.int .i64 c,.int .i64 d] [.int .i64 0,.int .i64 0,.int .i64 0,.int .i64 0] with|some b=>b|none=>false)
theorem d8 (a:Bool) (d x:ByteArray):EH Try.prog C1.eqs .neq 35 (.agg ⟨[.bool a,.string d,.string x]⟩) (.agg ⟨[.bool false,.string ⟨#[]⟩,.string ⟨#[]⟩]⟩)=some (.bool (pY a d x)):=by
 have h1:CO (clist (.agg #[.bool false,.string ⟨#[]⟩,.string ⟨#[]⟩])) [.bool a,.string d,.string x]=true:=rfl
 have h2:CO (clist (.agg #[.bool false,.string ⟨#[]⟩,.string ⟨#[]⟩])) [.bool false,.string ⟨#[]⟩,.string ⟨#[]⟩]=true:=rfl
 simp only [EH,Og,mR,if_true,HU,jW]
 rw [h1,h2]
 simp only [Bool.and_self,if_true,pY,EK,JG]
theorem Vc (a b c d:Int):EH Try.prog C1.eqs .neq 36 (.agg ⟨[.int .i64 a,.int .i64 b,.int .i64 c,.int .i64 d]⟩) (.agg ⟨[.int .i64 0,.int .i64 0,.int .i64 0,.int .i64 0]⟩)=some (.bool (mX a b c d)):=by
 have h1:CO (clist (.agg #[.int .i64 0,.int .i64 0,.int .i64 0,.int .i64 0])) [.int .i64 a,.int .i64 b,.int .i64 c,.int .i64 d]=true:=rfl
 have h2:CO (clist (.agg #[.int .i64 0,.int .i64 0,.int .i64 0,.int .i64 0])) [.int .i64 0,.int .i64 0,.int .i64 0,.int .i64 0]=true:=rfl
 simp only [EH,Og,kS,if_true,HU,iW]
 rw [h1,h2]
 simp only [Bool.and_self,if_true,mX,EK,JG]
theorem Oa (t:Tok) (g:Good t) (hk:t.kind=10∨t.kind=11∨t.kind=12):AS C1 44 [t.yv] fun y=>∃b:Bool,y=yd (.bool b)∧(b=true→Jt t≠[]∧(t.sign&&t.neg)=false∧(BO (BI 0 (Aj (Lg t)))).map bare=[bare t]):=by
 obtain ⟨hwr,_,hwl⟩:=FZ t g
 obtain ⟨hnum,_,_⟩:=OH t g.hd g.hx
 have hks:AJ t.kind 1=false∧AJ t.kind 2=false∧AJ t.kind 3=false∧AJ t.kind 4=false∧AJ t.kind 5=false∧AJ t.kind 6=false∧AJ t.kind 7=false∧AJ t.kind 8=false∧AJ t.kind 9=false∧AJ t.kind 13=false∧AJ t.kind 25=false:=by
  rcases hk with e|e|e<;>(rw [e];exact ⟨rfl,rfl,rfl,rfl,rfl,rfl,rfl,rfl,rfl,rfl,rfl⟩)
 refine Pf (by rfl) (by rfl) mH (by rfl) ?_
 simp only [Try.f44,List.length_cons,List.length_nil,List.replicate,List.cons_append,List.nil_append]
 simp only [Tok.yv,Tok.cs,Tok.pc,List.map_cons,List.map_nil]
 have e6:=Vc t.c0 t.c1 t.c2 t.c3
 generalize mX t.c0 t.c1 t.c2 t.c3=z6 at e6
 have hlt:(AA t.text).length≤4800:=by rw [g.htx,AW];have:=(Bx (My t)).2;have:=g.hll;omega
 have hlu:(AA t.unit).length≤4800:=by rw [g.hun,AW];have:=(Bx (Tm t)).2;have:=g.hul;omega
 cases s0:AN 0 t.start with
 |false=>
  simp -implicitDefEqProofs only [↓yP,yT,reduceCtorEq,s0]
  exact ⟨false,rfl,fun h=>by cases h⟩
 |true=>
 simp -implicitDefEqProofs only [↓yP,yT,s0]
 refine AB (F1 t.text (by omega)) (by rfl) fun y hy=>?_
 obtain ⟨b1,rfl⟩:=hy
 cases b1 with
 |false=>
  simp -implicitDefEqProofs only [↓yP,yT,reduceCtorEq]
  exact ⟨false,rfl,fun h=>by cases h⟩
 |true=>
 simp -implicitDefEqProofs only [yT]
 refine AB (F1 t.unit (by omega)) (by rfl) fun y hy=>?_
 obtain ⟨b2,rfl⟩:=hy
 cases b2 with
 |false=>
  simp -implicitDefEqProofs only [↓yP,yT,reduceCtorEq]
  exact ⟨false,rfl,fun h=>by cases h⟩
 |true=>
 cases z6 with
 |true=>
  simp -implicitDefEqProofs only [↓yP,yT,Nat.reduceAdd,Nat.reduceLeDiff,reduceCtorEq,e6]
  exact ⟨false,rfl,fun h=>by cases h⟩
 |false=>
 rcases hk with e|e|e
 ·have n10:AJ t.kind 10=true:=by rw [e];rfl
  have n12:AJ t.kind 12=false:=by rw [e];rfl
  cases u0:(AA t.unit==AA ⟨#[]⟩) with
  |false=>
   simp -implicitDefEqProofs only [↓yP,yT,Nat.reduceAdd,Nat.reduceLeDiff,reduceCtorEq,AU,e6,n10,n12,u0]
   exact ⟨false,rfl,fun h=>by cases h⟩
  |true=>
  cases x0:(AA t.text==AA ⟨#[]⟩) with
  |false=>
   simp -implicitDefEqProofs only [↓yP,yT,Nat.reduceAdd,Nat.reduceLeDiff,reduceCtorEq,AU,e6,n10,n12,u0,x0]
   exact ⟨false,rfl,fun h=>by cases h⟩
  |true=>
  simp -implicitDefEqProofs only [↓yP,yT,Nat.reduceAdd,Nat.reduceLeDiff,reduceCtorEq,AU,e6,n10,n12,u0,x0,hks]
  refine A8 (by rw [C5];kernel_rfl) ?_
  simp -implicitDefEqProofs only [↓yP,yT,Nat.reduceAdd,Nat.reduceLeDiff,reduceCtorEq]
  refine AB hnum (by rfl) fun y hy=>?_
  subst hy
  cases o0:(AA (AI (Jt t))==AA ⟨#[]⟩) with
  |true=>
   simp -implicitDefEqProofs only [↓yP,yT,reduceCtorEq,AU,o0]
   exact ⟨false,rfl,fun h=>by cases h⟩
  |false=>
  have hne:Jt t≠[]:=by intro e;rw [e] at o0;exact absurd o0 (by decide)
  rcases Bool.eq_false_or_eq_true t.sign with g1|g1
  ·rcases Bool.eq_false_or_eq_true t.neg with g2|g2
   ·simp -implicitDefEqProofs only [↓yP,yT,reduceCtorEq,AU,o0,g1,g2]
    exact ⟨false,rfl,fun h=>by cases h⟩
   ·skip
    have hwr':=hwr
    have htl:=DD (Lg t) t (by omega)
    simp only [Tok.yv,Tok.cs,Tok.pc,List.map_cons,List.map_nil,g1,g2] at hwr' htl
    simp -implicitDefEqProofs only [yT,Nat.reduceAdd,reduceCtorEq,AU,o0,g1,g2]
    refine AB hwr' (by rfl) fun y hy=>?_
    subst hy
    simp -implicitDefEqProofs only [yT,Nat.reduceAdd]
    refine AB htl (by rfl) fun y hy=>?_
    obtain ⟨b,rfl,hb⟩:=hy
    simp -implicitDefEqProofs only [↓yP,yT,reduceCtorEq]
    exact ⟨b,rfl,fun h=>⟨hne,by simp,hb h⟩⟩
  ·skip
   have hwr':=hwr
   have htl:=DD (Lg t) t (by omega)
   simp only [Tok.yv,Tok.cs,Tok.pc,List.map_cons,List.map_nil,g1] at hwr' htl
   simp -implicitDefEqProofs only [yT,Nat.reduceAdd,AU,o0,g1]
   refine AB hwr' (by rfl) fun y hy=>?_
   subst hy
   simp -implicitDefEqProofs only [yT,Nat.reduceAdd]
   refine AB htl (by rfl) fun y hy=>?_
   obtain ⟨b,rfl,hb⟩:=hy
   simp -implicitDefEqProofs only [↓yP,yT,reduceCtorEq]
   exact ⟨b,rfl,fun h=>⟨hne,by simp,hb h⟩⟩
 ·have n10:AJ t.kind 10=false:=by rw [e];rfl
  have n11:AJ t.kind 11=true:=by rw [e];rfl
  have n12:AJ t.kind 12=false:=by rw [e];rfl
  cases u0:(AA t.unit==AA ⟨#[]⟩) with
  |false=>
   simp -implicitDefEqProofs only [↓yP,yT,Nat.reduceAdd,Nat.reduceLeDiff,reduceCtorEq,AU,e6,n10,n11,n12,u0]
   exact ⟨false,rfl,fun h=>by cases h⟩
  |true=>
  cases x0:(AA t.text==AA ⟨#[]⟩) with
  |false=>
   simp -implicitDefEqProofs only [↓yP,yT,Nat.reduceAdd,Nat.reduceLeDiff,reduceCtorEq,AU,e6,n10,n11,n12,u0,x0]
   exact ⟨false,rfl,fun h=>by cases h⟩
  |true=>
  simp -implicitDefEqProofs only [↓yP,yT,Nat.reduceAdd,Nat.reduceLeDiff,reduceCtorEq,AU,e6,n10,n11,n12,u0,x0,hks]
  refine A8 (by rw [C5];kernel_rfl) ?_
  simp -implicitDefEqProofs only [↓yP,yT,Nat.reduceAdd,Nat.reduceLeDiff,reduceCtorEq]
  refine AB hnum (by rfl) fun y hy=>?_
  subst hy
  cases o0:(AA (AI (Jt t))==AA ⟨#[]⟩) with
  |true=>
   simp -implicitDefEqProofs only [↓yP,yT,reduceCtorEq,AU,o0]
   exact ⟨false,rfl,fun h=>by cases h⟩
  |false=>
  have hne:Jt t≠[]:=by intro e;rw [e] at o0;exact absurd o0 (by decide)
  rcases Bool.eq_false_or_eq_true t.sign with g1|g1
  ·rcases Bool.eq_false_or_eq_true t.neg with g2|g2
   ·simp -implicitDefEqProofs only [↓yP,yT,reduceCtorEq,AU,o0,g1,g2]
    exact ⟨false,rfl,fun h=>by cases h⟩
   ·skip
    have hwr':=hwr
    have htl:=DD (Lg t) t (by omega)
    simp only [Tok.yv,Tok.cs,Tok.pc,List.map_cons,List.map_nil,g1,g2] at hwr' htl
    simp -implicitDefEqProofs only [yT,Nat.reduceAdd,reduceCtorEq,AU,o0,g1,g2]
    refine AB hwr' (by rfl) fun y hy=>?_
    subst hy
    simp -implicitDefEqProofs only [yT,Nat.reduceAdd]
    refine AB htl (by rfl) fun y hy=>?_
    obtain ⟨b,rfl,hb⟩:=hy
    simp -implicitDefEqProofs only [↓yP,yT,reduceCtorEq]
    exact ⟨b,rfl,fun h=>⟨hne,by simp,hb h⟩⟩
  ·skip
   have hwr':=hwr
   have htl:=DD (Lg t) t (by omega)
   simp only [Tok.yv,Tok.cs,Tok.pc,List.map_cons,List.map_nil,g1] at hwr' htl
   simp -implicitDefEqProofs only [yT,Nat.reduceAdd,AU,o0,g1]
   refine AB hwr' (by rfl) fun y hy=>?_
   subst hy
   simp -implicitDefEqProofs only [yT,Nat.reduceAdd]
   refine AB htl (by rfl) fun y hy=>?_
   obtain ⟨b,rfl,hb⟩:=hy
   simp -implicitDefEqProofs only [↓yP,yT,reduceCtorEq]
   exact ⟨b,rfl,fun h=>⟨hne,by simp,hb h⟩⟩
 ·have n10:AJ t.kind 10=false:=by rw [e];rfl
  have n11:AJ t.kind 11=false:=by rw [e];rfl
  have n12:AJ t.kind 12=true:=by rw [e];rfl
  cases x0:(AA t.text==AA ⟨#[]⟩) with
  |false=>
   simp -implicitDefEqProofs only [↓yP,yT,Nat.reduceAdd,Nat.reduceLeDiff,reduceCtorEq,AU,e6,n10,n11,n12,x0]
   exact ⟨false,rfl,fun h=>by cases h⟩
  |true=>
  simp -implicitDefEqProofs only [↓yP,yT,Nat.reduceAdd,Nat.reduceLeDiff,reduceCtorEq,AU,e6,n10,n11,n12,x0,hks]
  refine A8 (by rw [C5];kernel_rfl) ?_
  simp -implicitDefEqProofs only [↓yP,yT,Nat.reduceAdd,Nat.reduceLeDiff,reduceCtorEq]
  refine AB hnum (by rfl) fun y hy=>?_
  subst hy
  cases o0:(AA (AI (Jt t))==AA ⟨#[]⟩) with
  |true=>
   simp -implicitDefEqProofs only [↓yP,yT,reduceCtorEq,AU,o0]
   exact ⟨false,rfl,fun h=>by cases h⟩
  |false=>
  have hne:Jt t≠[]:=by intro e;rw [e] at o0;exact absurd o0 (by decide)
  rcases Bool.eq_false_or_eq_true t.sign with g1|g1
  ·rcases Bool.eq_false_or_eq_true t.neg with g2|g2
   ·simp -implicitDefEqProofs only [↓yP,yT,reduceCtorEq,AU,o0,g1,g2]
    exact ⟨false,rfl,fun h=>by cases h⟩
   ·skip
    have hwr':=hwr
    have htl:=DD (Lg t) t (by omega)
    simp only [Tok.yv,Tok.cs,Tok.pc,List.map_cons,List.map_nil,g1,g2] at hwr' htl
    simp -implicitDefEqProofs only [yT,Nat.reduceAdd,reduceCtorEq,AU,o0,g1,g2]
    refine AB hwr' (by rfl) fun y hy=>?_
    subst hy
    simp -implicitDefEqProofs only [yT,Nat.reduceAdd]
    refine AB htl (by rfl) fun y hy=>?_
    obtain ⟨b,rfl,hb⟩:=hy
    simp -implicitDefEqProofs only [↓yP,yT,reduceCtorEq]
    exact ⟨b,rfl,fun h=>⟨hne,by simp,hb h⟩⟩
  ·skip
   have hwr':=hwr
   have htl:=DD (Lg t) t (by omega)
   simp only [Tok.yv,Tok.cs,Tok.pc,List.map_cons,List.map_nil,g1] at hwr' htl
   simp -implicitDefEqProofs only [yT,Nat.reduceAdd,AU,o0,g1]
   refine AB hwr' (by rfl) fun y hy=>?_
   subst hy
   simp -implicitDefEqProofs only [yT,Nat.reduceAdd]
   refine AB htl (by rfl) fun y hy=>?_
   obtain ⟨b,rfl,hb⟩:=hy
   simp -implicitDefEqProofs only [↓yP,yT,reduceCtorEq]
   exact ⟨b,rfl,fun h=>⟨hne,by simp,hb h⟩⟩
end Go.Vx.Seat
end
