/- Texts joined: VyM4 VyN1 VyN2 VzT1 VzK1 VzK2 VzK3 VyC2 VzK4 VyC3. -/
import Derived.Test.YtmbonddknackiaaVm40
import Derived.Test.YtmbonddknackiaaVm37
import Derived.Test.YtmbonddknackiaaVyGive
import Derived.Test.YtmbonddknackiaaVyOwn
import Derived.Lib.IndexLaws
import Derived.Lib.IndexMore
set_option linter.unusedSimpArgs false
set_option linter.unusedVariables false
section
open Go Go.Vx Go.Proofs
set_option maxRecDepth 10000
set_option maxHeartbeats 8000000
namespace Go.Vx.Seat
attribute [local irreducible] Rg Rt Ro Ri Rc Ds Dt Dw Dx Rw Rl Rd Av An kf
def Bp (x:Int):Int:=if AJ x 58 then 16 else if AJ x 59 then 17 else if AJ x 44 then 18 else if AJ x 123 then 19 else if AJ x 125 then 20 else if AJ x 40 then 21 else if AJ x 41 then 22 else if AJ x 91 then 23 else if AJ x 93 then 24 else 9
noncomputable def Ak (l:List Rn):Tok×List Rn:=
 if Ay l (AA ⟨#[47,42]⟩) then (AM 25 (AO (A9 (Bc (l.drop 2)).1)),(Bc (l.drop 2)).2)
 else if Ad (hd l) then (AM 13 (if AJ (hd l) 10 then ⟨#[10]⟩ else ⟨#[32]⟩),Aq l)
 else if AJ (hd l) 34 then CH l
 else if AJ (hd l) 39 then CH l
 else if AJ (hd l) 35&&(DB (hd (l.drop 1))||esc0 (l.drop 1)) then (⟨4,AO (AT (l.drop 1)).1,⟨#[]⟩,false,⟨#[]⟩,⟨#[]⟩,Ag (l.drop 1),false,0,0,0,0,0⟩,(AT (l.drop 1)).2)
 else if BT l then E8 l
 else if Ay l (AA ⟨#[45,45,62]⟩) then (AM 15 ⟨#[]⟩,l.drop 3)
 else if Ay l (AA ⟨#[60,33,45,45]⟩) then (AM 14 ⟨#[]⟩,l.drop 4)
 else if Ag l then BG l
 else if AJ (hd l) 64&&Ag (l.drop 1) then (AM 3 (AO (AT (l.drop 1)).1),(AT (l.drop 1)).2)
 else if AJ (Bp (hd l)) 9 then (AM 9 (AO (A9 (l.take 1))),l.drop 1) else (AM (Bp (hd l)) ⟨#[]⟩,l.drop 1)
theorem Wn (l:List Rn) (i:Nat) (hl:l.length≤200000000) (hi:i<l.length):AS C1 54 [.c (.p (rR l)),yd (.int .i64 (i:Nat))] (bI l i (Ak (l.drop i))):=by
 obtain ⟨x,hx⟩:=get_lt hi
 have hat:=CU hx
 have hL:Seat.hd (l.drop i)=x.r:=by rw [Ax,hat]
 have hL1:(l.drop i).drop 1=l.drop (i+1):=List.drop_drop ..
 have w1:AG .i64 ((i:Int)+1)=((i+1:Nat):Int):=AK (by omega)
 have w2:AG .i64 ((i:Int)+2)=((i+2:Nat):Int):=A1 (i:=i+2) (by omega)
 have w3:AG .i64 ((i:Int)+3)=((i+3:Nat):Int):=A1 (i:=i+3) (by omega)
 have w4:AG .i64 ((i:Int)+4)=((i+4:Nat):Int):=A1 (i:=i+4) (by omega)
 refine Pf (by rfl) (by rfl) o5 (by rfl) ?_
 simp only [Try.f54,List.length_cons,List.length_nil,List.replicate,List.cons_append,List.nil_append]
 simp -implicitDefEqProofs only [↓yP,yT,Nat.reduceAdd,Nat.reduceLeDiff,reduceCtorEq,El hx]
 refine AB (EI l i ⟨#[47,42]⟩ (by omega) (by decide)) (by rfl) fun y hy=>?_
 subst hy
 cases h1:CW l i (AA ⟨#[47,42]⟩) with
 |true=>
  obtain ⟨a1,a2⟩:=Bh (c:=47) (cs:=[42]) h1
  obtain ⟨a2,_⟩:=Bh (c:=42) (cs:=[]) a2
  have hi1:=N7 (l:=l) (i:=i+1) (by rw [a2];decide)
  rw [Bu] at h1
  have hO:Ak (l.drop i)=(AM 25 (AO (A9 (Bc (l.drop (i+2))).1)),(Bc (l.drop (i+2))).2):=by simp only [Ak,h1,if_true,List.drop_drop]
  rw [hO]
  simp -implicitDefEqProofs only [↓yP,yT,w2]
  refine Ah (fun d e st=>∃(k:Nat),e=([.c (.p (rR l)),yd (.int .i64 (i:Nat)),Tp,Tp,.c (.ptr 0 0 0 0),Tp,Tp,Tp,yd (.int .i64 (k:Nat)),Tp,Tp,Tp,Tp,Tp,Tp,Tp,Tp,Tp,Tp,Tp,Tp,Tp,Tp,Tp,Tp,Tp,Tp,Tp,Tp,Tp,Tp,Tp,Tp,Tp,Tp,Tp,Tp,Tp,Tp,Tp,Tp,Tp,Tp,Tp,Tp,Tp,Tp,Tp,Tp,Tp,Tp,Tp,Tp,Tp,Tp,Tp,Tp,Tp,Tp,Tp,Tp,Tp,Tp,Tp,Tp,Tp,Tp,Tp,Tp,Tp,Tp,Tp,Tp,Tp,Tp,Tp,Tp,Tp,Tp,Tp,Tp,Tp,Tp,Tp,Tp,Tp,Tp,Tp,Tp,Tp,Tp,Tp,Tp,Tp,Tp,Tp,Tp,Tp,Tp,Tp,Tp,Tp,Tp,Tp,Tp,Tp,Tp,Tp,Tp,Tp,Tp,Tp,Tp,Tp,Tp,Tp,Tp,Tp,Tp,Tp,Tp,Tp,Tp,Tp,Tp,Tp,Tp,Tp,Tp,Tp,Tp,Tp,Tp,Tp,Tp,Tp,Tp,Tp,Tp,Tp,Tp,Tp,Tp,Tp,Tp,Tp,Tp,Tp,Tp,Tp,Tp,Tp,Tp,Tp,Tp,Tp,Tp,Tp,Tp,Tp,Tp,Tp,Tp,Tp,Tp,Tp,Tp,Tp,Tp,Tp,Tp,Tp,Tp,Tp,Tp,Tp,Tp,Tp,Tp,Tp,Tp,Tp,Tp,Tp,Tp,Tp,Tp,Tp,Tp,Tp])∧st=[.box zt]∧k+d=l.length∧i+2≤k∧Bc (l.drop (i+2))=((l.drop (i+2)).take (k - (i+2))++(Bc (l.drop k)).1,(Bc (l.drop k)).2)) [true,true,false,false,true,false,false,false,true] (l.length - (i+2)) [0] (by decide) (AC _) ⟨i+2,by (simp only [yE];try rfl),by (simp only [yE];try rfl),by omega,by omega,by simp⟩ ?_
  rintro d e st ⟨k,rfl,rfl,hd,hk,hcm⟩
  have v1:AG .i64 ((k:Int)+1)=((k+1:Nat):Int):=AK (by omega)
  have v2:AG .i64 ((k:Int)+2)=((k+2:Nat):Int):=A1 (i:=k+2) (by omega)
  by_cases hkl:k<l.length
  ·obtain ⟨z,hz⟩:=get_lt hkl
   have hdz:=Am hz
   have hf0:Ay (l.drop k) (AA ⟨#[42,47]⟩)=(AJ z.r 42&&AJ (Seat.hd (l.drop (k+1))) 47):=by
    rw [hdz]
    show (AJ z.r 42&&(AJ (Seat.hd ((z::l.drop (k+1)).drop 1)) 47&&true))=_
    rw [Bool.and_true];rfl
   have t1:AN (l.length:Nat) (k:Nat)=false:=AE (by omega)
   simp -implicitDefEqProofs only [↓yP,yT,t1]
   refine AB (EI l k ⟨#[42,47]⟩ (by omega) (by decide)) (by rfl) fun y hy=>?_
   subst hy
   cases h2:CW l k (AA ⟨#[42,47]⟩) with
   |false=>
    rw [Bu,hf0] at h2
    simp -implicitDefEqProofs only [↓yP,yT,v1]
    refine ⟨d - 1,[0],by omega,by decide,AC _,k+1,by (simp only [yE];try rfl),by (simp only [yE];try rfl),by omega,by omega,?_⟩
    rw [hcm,hdz,Bc,if_neg (by rw [h2];simp),show k+1 - (i+2)=(k - (i+2))+1 by omega,List.take_add_one,List.getElem?_drop,show i+2+(k - (i+2))=k by omega,hz]
    simp
   |true=>
    obtain ⟨_,b2⟩:=Bh (c:=42) (cs:=[47]) h2
    obtain ⟨b2,_⟩:=Bh (c:=47) (cs:=[]) b2
    have hk1:=N7 (l:=l) (i:=k+1) (by rw [b2];decide)
    rw [Bu,hf0] at h2
    rw [hdz,Bc,if_pos h2,List.append_nil,List.drop_drop] at hcm
    simp -implicitDefEqProofs only [↓yP,yT,v2,t1,w2]
    refine AB (B7 l (i+2) k hl hk (by omega)) (by rfl) fun y hy=>?_
    subst hy
    simp -implicitDefEqProofs only [↓yP,yT,Nat.reduceAdd,Nat.reduceLeDiff,reduceCtorEq,EN,Jm]
    exact ⟨AM 25 (AO (A9 ((l.drop (i+2)).take (k - (i+2))))),k+2,rfl,by omega,by omega,by rw [hcm]⟩
  ·have t1:AN (l.length:Nat) (k:Nat)=true:=AH (by omega)
   have hkl':k=l.length:=by omega
   subst hkl'
   have hdn:l.drop l.length=[]:=List.drop_eq_nil_of_le (by omega)
   rw [hdn,Bc,List.append_nil] at hcm
   simp -implicitDefEqProofs only [↓yP,yT,t1,v2,w2]
   refine AB (B7 l (i+2) l.length hl (by omega) (by omega)) (by rfl) fun y hy=>?_
   subst hy
   simp -implicitDefEqProofs only [↓yP,yT,Nat.reduceAdd,Nat.reduceLeDiff,reduceCtorEq,EN,Jm]
   exact ⟨AM 25 (AO (A9 ((l.drop (i+2)).take (l.length - (i+2))))),l.length,rfl,by omega,by omega,by rw [hcm,hdn]⟩
 |false=>
 rw [Bu] at h1
 simp -implicitDefEqProofs only [↓yP,yT]
 refine AB (CY _) (by rfl) fun y hy=>?_
 subst hy
 cases h2:Ad x.r with
 |true=>
  have hO:Ak (l.drop i)=(AM 13 (if AJ x.r 10 then ⟨#[10]⟩ else ⟨#[32]⟩),Aq (l.drop i)):=by simp only [Ak,hL,h1,h2,if_true,Bool.false_eq_true,if_false]
  rw [hO]
  simp -implicitDefEqProofs only [↓yP,yT]
  refine Ah (fun d e st=>∃(k:Nat),e=([.c (.p (rR l)),Tp,Tp,Tp,.c (.ptr 0 0 0 0),Tp,yd (.int .i64 x.r),Tp,Tp,Tp,yd (.int .i64 (k:Nat)),Tp,Tp,Tp,Tp,Tp,Tp,Tp,Tp,Tp,Tp,Tp,Tp,Tp,Tp,Tp,Tp,Tp,Tp,Tp,Tp,Tp,Tp,Tp,Tp,Tp,Tp,Tp,Tp,Tp,Tp,Tp,Tp,Tp,Tp,Tp,Tp,Tp,Tp,Tp,Tp,Tp,Tp,Tp,Tp,Tp,Tp,Tp,Tp,Tp,Tp,Tp,Tp,Tp,Tp,Tp,Tp,Tp,Tp,Tp,Tp,Tp,Tp,Tp,Tp,Tp,Tp,Tp,Tp,Tp,Tp,Tp,Tp,Tp,Tp,Tp,Tp,Tp,Tp,Tp,Tp,Tp,Tp,Tp,Tp,Tp,Tp,Tp,Tp,Tp,Tp,Tp,Tp,Tp,Tp,Tp,Tp,Tp,Tp,Tp,Tp,Tp,Tp,Tp,Tp,Tp,Tp,Tp,Tp,Tp,Tp,Tp,Tp,Tp,Tp,Tp,Tp,Tp,Tp,Tp,Tp,Tp,Tp,Tp,Tp,Tp,Tp,Tp,Tp,Tp,Tp,Tp,Tp,Tp,Tp,Tp,Tp,Tp,Tp,Tp,Tp,Tp,Tp,Tp,Tp,Tp,Tp,Tp,Tp,Tp,Tp,Tp,Tp,Tp,Tp,Tp,Tp,Tp,Tp,Tp,Tp,Tp,Tp,Tp,Tp,Tp,Tp,Tp,Tp,Tp,Tp,Tp,Tp,Tp,Tp,Tp,Tp,Tp,Tp,Tp])∧st=[.box zt]∧k+d=l.length∧i≤k∧(k=i→Ad (DV l (k:Nat))=true)∧Aq (l.drop i)=Aq (l.drop k)) [true,false,false,false,true,false,true,false,false,false,true] (l.length - i) [0] (by decide) (AC _) ⟨i,by (simp only [yE];try rfl),by (simp only [yE];try rfl),by omega,by omega,fun _=>by rw [hat];exact h2,rfl⟩ ?_
  rintro d e st ⟨k,rfl,rfl,hd,hk,hkb,hbk⟩
  have v1:AG .i64 ((k:Int)+1)=((k+1:Nat):Int):=AK (by omega)
  simp -implicitDefEqProofs only [↓yP,yT]
  refine AB (BC l _) (by rfl) fun y hy=>?_
  subst hy
  simp -implicitDefEqProofs only [yT]
  refine AB (CY _) (by rfl) fun y hy=>?_
  subst hy
  cases h3:Ad (DV l (k:Nat)) with
  |true=>
   have hkl:=N7 (l:=l) (i:=k) (fun e=>by rw [e] at h3;exact absurd h3 (by decide))
   simp -implicitDefEqProofs only [↓yP,yT,v1]
   refine ⟨d - 1,[0],by omega,by decide,AC _,k+1,by (simp only [yE];try rfl),by (simp only [yE];try rfl),by omega,by omega,fun h=>by omega,by rw [hbk,Ji h3]⟩
  |false=>
   rw [Gz h3] at hbk
   have hik:=oS hk (fun h=>by rw [hkb h] at h3;cases h3)
   cases h4:AJ x.r 10 with
   |true=>
    simp -implicitDefEqProofs only [↓yP,yT,Nat.reduceAdd,Nat.reduceLeDiff,reduceCtorEq,h4,EN,Jm]
    exact ⟨AM 13 ⟨#[10]⟩,k,rfl,by omega,by omega,by rw [hbk]⟩
   |false=>
    simp -implicitDefEqProofs only [↓yP,yT,Nat.reduceAdd,Nat.reduceLeDiff,reduceCtorEq,h4,EN,Jm]
    exact ⟨AM 13 ⟨#[32]⟩,k,rfl,by omega,by omega,by rw [hbk]⟩
 |false=>
 cases h3:AJ x.r 34 with
 |true=>
  simp -implicitDefEqProofs only [↓yP,yT,h3]
  refine AB (Ld l i hl hi) (by rfl) fun y hy=>?_
  obtain ⟨t,k,rfl,k1,k2,ht⟩:=hy
  simp only [Tok.yv,Tok.cs,Tok.pc,List.map_cons,List.map_nil]
  simp -implicitDefEqProofs only [↓yP,yT,Nat.reduceAdd,reduceCtorEq]
  exact ⟨t,k,rfl,k1,k2,by simp only [Ak,hL,h1,h2,h3,if_true,Bool.false_eq_true,if_false];exact ht⟩
 |false=>
 cases h4:AJ x.r 39 with
 |true=>
  simp -implicitDefEqProofs only [↓yP,yT,h3,h4]
  refine AB (Ld l i hl hi) (by rfl) fun y hy=>?_
  obtain ⟨t,k,rfl,k1,k2,ht⟩:=hy
  simp only [Tok.yv,Tok.cs,Tok.pc,List.map_cons,List.map_nil]
  simp -implicitDefEqProofs only [↓yP,yT,Nat.reduceAdd,reduceCtorEq]
  exact ⟨t,k,rfl,k1,k2,by simp only [Ak,hL,h1,h2,h3,h4,if_true,Bool.false_eq_true,if_false];exact ht⟩
 |false=>
 cases h5:AJ x.r 35 with
 |true=>
  simp -implicitDefEqProofs only [↓yP,yT,h3,h4,h5,w1]
  refine AB (BC l _) (by rfl) fun y hy=>?_
  subst hy
  simp -implicitDefEqProofs only [yT]
  refine AB (Dd _) (by rfl) fun y hy=>?_
  subst hy
  rw [←Ax]
  cases h6:DB (Seat.hd (l.drop (i+1))) with
  |true=>
   simp -implicitDefEqProofs only [↓yP,yT,w1]
   refine AB (FB l (i+1) hl (by omega)) (by rfl) fun y hy=>?_
   obtain ⟨k,rfl,hk1,hk2,_,hk3⟩:=hy
   simp -implicitDefEqProofs only [↓yP,yT,w1]
   refine AB (Dz l (i+1) (by omega)) (by rfl) fun y hy=>?_
   subst hy
   rw [DA]
   simp -implicitDefEqProofs only [↓yP,yT,Nat.reduceAdd,Nat.reduceLeDiff,reduceCtorEq]
   exact ⟨⟨4,AO (AT (l.drop (i+1))).1,⟨#[]⟩,false,⟨#[]⟩,⟨#[]⟩,Ag (l.drop (i+1)),false,0,0,0,0,0⟩,k,rfl,by omega,by omega,by simp only [Ak,hL,h1,h2,h3,h4,h5,hL1,h6,Bool.true_or,Bool.and_self,if_true,Bool.false_eq_true,if_false,hk3]⟩
  |false=>
   simp -implicitDefEqProofs only [yT,w1]
   refine AB (Eh l (i+1) (by omega)) (by rfl) fun y hy=>?_
   subst hy
   rw [GJ]
   cases h7:esc0 (l.drop (i+1)) with
   |true=>
    simp -implicitDefEqProofs only [↓yP,yT,w1]
    refine AB (FB l (i+1) hl (by omega)) (by rfl) fun y hy=>?_
    obtain ⟨k,rfl,hk1,hk2,_,hk3⟩:=hy
    simp -implicitDefEqProofs only [↓yP,yT,w1]
    refine AB (Dz l (i+1) (by omega)) (by rfl) fun y hy=>?_
    subst hy
    rw [DA]
    simp -implicitDefEqProofs only [↓yP,yT,Nat.reduceAdd,Nat.reduceLeDiff,reduceCtorEq]
    exact ⟨⟨4,AO (AT (l.drop (i+1))).1,⟨#[]⟩,false,⟨#[]⟩,⟨#[]⟩,Ag (l.drop (i+1)),false,0,0,0,0,0⟩,k,rfl,by omega,by omega,by simp only [Ak,hL,h1,h2,h3,h4,h5,hL1,h6,h7,Bool.or_true,Bool.and_self,if_true,Bool.false_eq_true,if_false,hk3]⟩
   |false=>
    have hH:(AJ x.r 35&&(DB (Seat.hd (l.drop (i+1)))||esc0 (l.drop (i+1))))=false:=by rw [h6,h7,Bool.or_self,Bool.and_false]
    simp -implicitDefEqProofs only [↓yP,yT]
    refine AB (Kr l i (by omega)) (by rfl) fun y hy=>?_
    subst hy
    cases n1:Cm l i with
    |true=>
     have n1':=n1
     rw [F6] at n1'
     simp -implicitDefEqProofs only [↓yP,yT]
     refine AB (Jv l i hl hi n1) (by rfl) fun y hy=>?_
     obtain ⟨t,k,rfl,k1,k2,ht⟩:=hy
     simp only [Tok.yv,Tok.cs,Tok.pc,List.map_cons,List.map_nil]
     simp -implicitDefEqProofs only [↓yP,yT,Nat.reduceAdd,reduceCtorEq]
     exact ⟨t,k,rfl,k1,k2,by simp only [Ak,hL,hL1,h1,h2,h3,h4,hH,n1',if_true,Bool.false_eq_true,if_false];exact ht⟩
    |false=>
    rw [F6] at n1
    simp -implicitDefEqProofs only [↓yP,yT]
    refine AB (EI l i ⟨#[45,45,62]⟩ (by omega) (by decide)) (by rfl) fun y hy=>?_
    subst hy
    cases n2:CW l i (AA ⟨#[45,45,62]⟩) with
    |true=>
     obtain ⟨a1,a2⟩:=Bh (c:=45) (cs:=[45,62]) n2
     obtain ⟨_,a2⟩:=Bh (c:=45) (cs:=[62]) a2
     obtain ⟨a2,_⟩:=Bh (c:=62) (cs:=[]) a2
     have hi1:=N7 (l:=l) (i:=i+1+1) (by rw [a2];decide)
     rw [Bu] at n2
     simp -implicitDefEqProofs only [↓yP,yT,Nat.reduceAdd,Nat.reduceLeDiff,reduceCtorEq,w3]
     exact ⟨AM 15 ⟨#[]⟩,i+3,rfl,by omega,by omega,by simp only [Ak,hL,hL1,h1,h2,h3,h4,hH,n1,n2,if_true,Bool.false_eq_true,if_false,List.drop_drop]⟩
    |false=>
    rw [Bu] at n2
    simp -implicitDefEqProofs only [↓yP,yT]
    refine AB (EI l i ⟨#[60,33,45,45]⟩ (by omega) (by decide)) (by rfl) fun y hy=>?_
    subst hy
    cases n3:CW l i (AA ⟨#[60,33,45,45]⟩) with
    |true=>
     obtain ⟨a1,a2⟩:=Bh (c:=60) (cs:=[33,45,45]) n3
     obtain ⟨_,a2⟩:=Bh (c:=33) (cs:=[45,45]) a2
     obtain ⟨_,a2⟩:=Bh (c:=45) (cs:=[45]) a2
     obtain ⟨a2,_⟩:=Bh (c:=45) (cs:=[]) a2
     have hi1:=N7 (l:=l) (i:=i+1+1+1) (by rw [a2];decide)
     rw [Bu] at n3
     simp -implicitDefEqProofs only [↓yP,yT,Nat.reduceAdd,Nat.reduceLeDiff,reduceCtorEq,w4]
     exact ⟨AM 14 ⟨#[]⟩,i+4,rfl,by omega,by omega,by simp only [Ak,hL,hL1,h1,h2,h3,h4,hH,n1,n2,n3,if_true,Bool.false_eq_true,if_false,List.drop_drop]⟩
    |false=>
    rw [Bu] at n3
    simp -implicitDefEqProofs only [↓yP,yT]
    refine AB (Dz l i (by omega)) (by rfl) fun y hy=>?_
    subst hy
    cases n4:ED l i with
    |true=>
     have n4':=n4
     rw [DA] at n4'
     simp -implicitDefEqProofs only [↓yP,yT]
     refine AB (MY l i hl hi (PM n4)) (by rfl) fun y hy=>?_
     obtain ⟨t,k,rfl,k1,k2,ht⟩:=hy
     simp only [Tok.yv,Tok.cs,Tok.pc,List.map_cons,List.map_nil]
     simp -implicitDefEqProofs only [↓yP,yT,Nat.reduceAdd,reduceCtorEq]
     exact ⟨t,k,rfl,k1,k2,by simp only [Ak,hL,hL1,h1,h2,h3,h4,hH,n1,n2,n3,n4',if_true,Bool.false_eq_true,if_false];exact ht⟩
    |false=>
    rw [DA] at n4
    cases n5:AJ x.r 64 with
    |true=>
     simp -implicitDefEqProofs only [↓yP,yT,n5,w1]
     refine AB (Dz l (i+1) (by omega)) (by rfl) fun y hy=>?_
     subst hy
     rw [DA]
     cases n6:Ag (l.drop (i+1)) with
     |true=>
      simp -implicitDefEqProofs only [↓yP,yT,w1]
      refine AB (FB l (i+1) hl (by omega)) (by rfl) fun y hy=>?_
      obtain ⟨k,rfl,hk1,hk2,_,hk3⟩:=hy
      simp -implicitDefEqProofs only [↓yP,yT,Nat.reduceAdd,Nat.reduceLeDiff,reduceCtorEq]
      exact ⟨AM 3 (AO (AT (l.drop (i+1))).1),k,rfl,by omega,by omega,by simp only [Ak,hL,hL1,h1,h2,h3,h4,hH,n1,n2,n3,n4,n5,n6,Bool.and_self,if_true,Bool.false_eq_true,if_false,hk3,List.drop_drop]⟩
     |false=>
      have hO:Ak (l.drop i)=if AJ (Bp x.r) 9 then (AM 9 (AO (A9 ((l.drop i).take 1))),l.drop (i+1)) else (AM (Bp x.r) ⟨#[]⟩,l.drop (i+1)):=by
       simp only [Ak,hL,hL1,h1,h2,h3,h4,hH,n1,n2,n3,n4,n5,n6,Bool.and_false,Bool.false_eq_true,if_false,List.drop_drop]
      simp -implicitDefEqProofs only [↓yP,yT]
      rw [hO]
      refine Ah (fun d e st=>∃(j:Nat),e=([.c (.p (rR l)),yd (.int .i64 (i:Nat)),Tp,Tp,.c (.ptr 0 0 0 0),Tp,yd (.int .i64 x.r),yd (.string ⟨#[58,59,44,123,125,40,41,91,93]⟩),Tp,Tp,Tp,Tp,Tp,Tp,Tp,Tp,yd (.int .i64 (j:Nat)),Tp,Tp,Tp,Tp,Tp,Tp,Tp,Tp,Tp,Tp,Tp,Tp,Tp,Tp,Tp,Tp,Tp,Tp,Tp,Tp,Tp,Tp,Tp,Tp,Tp,Tp,Tp,Tp,Tp,Tp,Tp,Tp,Tp,Tp,Tp,Tp,Tp,Tp,Tp,Tp,Tp,Tp,Tp,Tp,Tp,Tp,Tp,Tp,Tp,Tp,Tp,Tp,Tp,Tp,Tp,Tp,Tp,Tp,Tp,Tp,Tp,Tp,Tp,Tp,Tp,Tp,Tp,Tp,Tp,Tp,Tp,Tp,Tp,Tp,Tp,Tp,Tp,Tp,Tp,Tp,Tp,Tp,Tp,Tp,Tp,Tp,Tp,Tp,Tp,Tp,Tp,Tp,Tp,Tp,Tp,Tp,Tp,Tp,Tp,Tp,Tp,Tp,Tp,Tp,Tp,Tp,Tp,Tp,Tp,Tp,Tp,Tp,Tp,Tp,Tp,Tp,Tp,Tp,Tp,Tp,Tp,Tp,Tp,Tp,Tp,Tp,Tp,Tp,Tp,Tp,Tp,Tp,Tp,Tp,Tp,Tp,Tp,Tp,Tp,Tp,Tp,Tp,Tp,Tp,Tp,Tp,Tp,Tp,Tp,Tp,Tp,Tp,Tp,Tp,Tp,Tp,Tp,Tp,Tp,Tp,Tp,Tp,Tp,Tp,Tp,Tp,Tp,Tp,Tp,Tp,Tp,Tp,Tp])∧st=[.box zt]∧j+d=9∧∀m c,m<j→[58,59,44,123,125,40,41,91,93][m]?=some c→c≠x.r) [true,true,false,false,true,false,true,true,false,false,false,false,false,false,false,false,true] 9 [0] (by decide) (AC _) ⟨0,by (simp only [yE];try rfl),by (simp only [yE];try rfl),by omega,fun m c h=>absurd h (Nat.not_lt_zero m)⟩ ?_
      rintro d e st ⟨j,rfl,rfl,hd,hj⟩
      have hlen:(AA ⟨#[58,59,44,123,125,40,41,91,93]⟩).length=9:=rfl
      by_cases hj9:j<9
      ·obtain ⟨c,hc⟩:=get_lt (l:=AA ⟨#[58,59,44,123,125,40,41,91,93]⟩) (i:=j) (by rw [hlen];exact hj9)
       have t1:AN ((9:Nat):Int) (j:Nat)=false:=AE (by omega)
       have c0:(0:Int)≤(j:Nat):=by omega
       have v1:AG .i64 ((j:Int)+1)=((j+1:Nat):Int):=AK (by omega)
       have v2:AG .i64 (16+(j:Int))=((16+j:Nat):Int):=A1 (i:=16+j) (by omega)
       cases m1:AJ ((c.toNat:Nat):Int) x.r with
       |true=>
        have m1':=AQ m1
        simp -implicitDefEqProofs only [↓yP,yT,Nat.reduceAdd,Nat.reduceLeDiff,reduceCtorEq,AY.eq_1,AV.eq_1,hlen,t1,c0,hc,G9,m1,v2,w1,EN,Jm]
        refine ⟨AM ((16+j:Nat):Int) ⟨#[]⟩,i+1,rfl,by omega,by omega,?_⟩
        have hjj:j=0∨j=1∨j=2∨j=3∨j=4∨j=5∨j=6∨j=7∨j=8:=by omega
        rcases hjj with rfl|rfl|rfl|rfl|rfl|rfl|rfl|rfl|rfl
        all_goals
         cases hc
         rw [←m1']
         rfl
       |false=>
        simp -implicitDefEqProofs only [↓yP,yT,AY.eq_1,AV.eq_1,hlen,t1,c0,hc,G9,m1,v1]
        refine ⟨d - 1,[0],by omega,by decide,AC _,j+1,by (simp only [yE];try rfl),by (simp only [yE];try rfl),by omega,fun m c' hm hc'=>?_⟩
        rcases Nat.lt_or_ge m j with g|g
        ·exact hj m c' g hc'
        ·obtain rfl:m=j:=by omega
         have hcc:((c.toNat:Nat):Int)=c':=by
          have hjj:m=0∨m=1∨m=2∨m=3∨m=4∨m=5∨m=6∨m=7∨m=8:=by omega
          rcases hjj with rfl|rfl|rfl|rfl|rfl|rfl|rfl|rfl|rfl<;>(cases hc;cases hc';rfl)
         rw [←hcc];exact A7 m1
      ·have t1:AN ((9:Nat):Int) (j:Nat)=true:=AH (by omega)
       have hS:Bp x.r=9:=by
        unfold Bp
        rw [AF (fun e=>hj 0 58 (by omega) rfl e.symm),AF (fun e=>hj 1 59 (by omega) rfl e.symm),AF (fun e=>hj 2 44 (by omega) rfl e.symm),AF (fun e=>hj 3 123 (by omega) rfl e.symm),AF (fun e=>hj 4 125 (by omega) rfl e.symm),AF (fun e=>hj 5 40 (by omega) rfl e.symm),AF (fun e=>hj 6 41 (by omega) rfl e.symm),AF (fun e=>hj 7 91 (by omega) rfl e.symm),AF (fun e=>hj 8 93 (by omega) rfl e.symm)]
        rfl
       rw [hS]
       simp -implicitDefEqProofs only [↓yP,yT,AY.eq_1,hlen,t1,w1]
       refine AB (B7 l i (i+1) hl (by omega) (by omega)) (by rfl) fun y hy=>?_
       subst hy
       rw [Nat.add_sub_cancel_left]
       simp -implicitDefEqProofs only [↓yP,yT,Nat.reduceAdd,Nat.reduceLeDiff,reduceCtorEq,w1,EN,Jm]
       exact ⟨AM 9 (AO (A9 ((l.drop i).take 1))),i+1,rfl,by omega,by omega,rfl⟩
    |false=>
     have hO:Ak (l.drop i)=if AJ (Bp x.r) 9 then (AM 9 (AO (A9 ((l.drop i).take 1))),l.drop (i+1)) else (AM (Bp x.r) ⟨#[]⟩,l.drop (i+1)):=by
      simp only [Ak,hL,hL1,h1,h2,h3,h4,hH,n1,n2,n3,n4,n5,Bool.false_and,Bool.false_eq_true,if_false,List.drop_drop]
     simp -implicitDefEqProofs only [↓yP,yT,n5]
     rw [hO]
     refine Ah (fun d e st=>∃(j:Nat),e=([.c (.p (rR l)),yd (.int .i64 (i:Nat)),Tp,Tp,.c (.ptr 0 0 0 0),Tp,yd (.int .i64 x.r),yd (.string ⟨#[58,59,44,123,125,40,41,91,93]⟩),Tp,Tp,Tp,Tp,Tp,Tp,Tp,Tp,yd (.int .i64 (j:Nat)),Tp,Tp,Tp,Tp,Tp,Tp,Tp,Tp,Tp,Tp,Tp,Tp,Tp,Tp,Tp,Tp,Tp,Tp,Tp,Tp,Tp,Tp,Tp,Tp,Tp,Tp,Tp,Tp,Tp,Tp,Tp,Tp,Tp,Tp,Tp,Tp,Tp,Tp,Tp,Tp,Tp,Tp,Tp,Tp,Tp,Tp,Tp,Tp,Tp,Tp,Tp,Tp,Tp,Tp,Tp,Tp,Tp,Tp,Tp,Tp,Tp,Tp,Tp,Tp,Tp,Tp,Tp,Tp,Tp,Tp,Tp,Tp,Tp,Tp,Tp,Tp,Tp,Tp,Tp,Tp,Tp,Tp,Tp,Tp,Tp,Tp,Tp,Tp,Tp,Tp,Tp,Tp,Tp,Tp,Tp,Tp,Tp,Tp,Tp,Tp,Tp,Tp,Tp,Tp,Tp,Tp,Tp,Tp,Tp,Tp,Tp,Tp,Tp,Tp,Tp,Tp,Tp,Tp,Tp,Tp,Tp,Tp,Tp,Tp,Tp,Tp,Tp,Tp,Tp,Tp,Tp,Tp,Tp,Tp,Tp,Tp,Tp,Tp,Tp,Tp,Tp,Tp,Tp,Tp,Tp,Tp,Tp,Tp,Tp,Tp,Tp,Tp,Tp,Tp,Tp,Tp,Tp,Tp,Tp,Tp,Tp,Tp,Tp,Tp,Tp,Tp,Tp,Tp,Tp,Tp,Tp,Tp,Tp])∧st=[.box zt]∧j+d=9∧∀m c,m<j→[58,59,44,123,125,40,41,91,93][m]?=some c→c≠x.r) [true,true,false,false,true,false,true,true,false,false,false,false,false,false,false,false,true] 9 [0] (by decide) (AC _) ⟨0,by (simp only [yE];try rfl),by (simp only [yE];try rfl),by omega,fun m c h=>absurd h (Nat.not_lt_zero m)⟩ ?_
     rintro d e st ⟨j,rfl,rfl,hd,hj⟩
     have hlen:(AA ⟨#[58,59,44,123,125,40,41,91,93]⟩).length=9:=rfl
     by_cases hj9:j<9
     ·obtain ⟨c,hc⟩:=get_lt (l:=AA ⟨#[58,59,44,123,125,40,41,91,93]⟩) (i:=j) (by rw [hlen];exact hj9)
      have t1:AN ((9:Nat):Int) (j:Nat)=false:=AE (by omega)
      have c0:(0:Int)≤(j:Nat):=by omega
      have v1:AG .i64 ((j:Int)+1)=((j+1:Nat):Int):=AK (by omega)
      have v2:AG .i64 (16+(j:Int))=((16+j:Nat):Int):=A1 (i:=16+j) (by omega)
      cases m1:AJ ((c.toNat:Nat):Int) x.r with
      |true=>
       have m1':=AQ m1
       simp -implicitDefEqProofs only [↓yP,yT,Nat.reduceAdd,Nat.reduceLeDiff,reduceCtorEq,AY.eq_1,AV.eq_1,hlen,t1,c0,hc,G9,m1,v2,w1,EN,Jm]
       refine ⟨AM ((16+j:Nat):Int) ⟨#[]⟩,i+1,rfl,by omega,by omega,?_⟩
       have hjj:j=0∨j=1∨j=2∨j=3∨j=4∨j=5∨j=6∨j=7∨j=8:=by omega
       rcases hjj with rfl|rfl|rfl|rfl|rfl|rfl|rfl|rfl|rfl
       all_goals
        cases hc
        rw [←m1']
        rfl
      |false=>
       simp -implicitDefEqProofs only [↓yP,yT,AY.eq_1,AV.eq_1,hlen,t1,c0,hc,G9,m1,v1]
       refine ⟨d - 1,[0],by omega,by decide,AC _,j+1,by (simp only [yE];try rfl),by (simp only [yE];try rfl),by omega,fun m c' hm hc'=>?_⟩
       rcases Nat.lt_or_ge m j with g|g
       ·exact hj m c' g hc'
       ·obtain rfl:m=j:=by omega
        have hcc:((c.toNat:Nat):Int)=c':=by
         have hjj:m=0∨m=1∨m=2∨m=3∨m=4∨m=5∨m=6∨m=7∨m=8:=by omega
         rcases hjj with rfl|rfl|rfl|rfl|rfl|rfl|rfl|rfl|rfl<;>(cases hc;cases hc';rfl)
        rw [←hcc];exact A7 m1
     ·have t1:AN ((9:Nat):Int) (j:Nat)=true:=AH (by omega)
      have hS:Bp x.r=9:=by
       unfold Bp
       rw [AF (fun e=>hj 0 58 (by omega) rfl e.symm),AF (fun e=>hj 1 59 (by omega) rfl e.symm),AF (fun e=>hj 2 44 (by omega) rfl e.symm),AF (fun e=>hj 3 123 (by omega) rfl e.symm),AF (fun e=>hj 4 125 (by omega) rfl e.symm),AF (fun e=>hj 5 40 (by omega) rfl e.symm),AF (fun e=>hj 6 41 (by omega) rfl e.symm),AF (fun e=>hj 7 91 (by omega) rfl e.symm),AF (fun e=>hj 8 93 (by omega) rfl e.symm)]
       rfl
      rw [hS]
      simp -implicitDefEqProofs only [↓yP,yT,AY.eq_1,hlen,t1,w1]
      refine AB (B7 l i (i+1) hl (by omega) (by omega)) (by rfl) fun y hy=>?_
      subst hy
      rw [Nat.add_sub_cancel_left]
      simp -implicitDefEqProofs only [↓yP,yT,Nat.reduceAdd,Nat.reduceLeDiff,reduceCtorEq,w1,EN,Jm]
      exact ⟨AM 9 (AO (A9 ((l.drop i).take 1))),i+1,rfl,by omega,by omega,rfl⟩
 |false=>
  have hH:(AJ x.r 35&&(DB (Seat.hd (l.drop (i+1)))||esc0 (l.drop (i+1))))=false:=by rw [h5];rfl
  simp -implicitDefEqProofs only [↓yP,yT,h3,h4,h5]
  refine AB (Kr l i (by omega)) (by rfl) fun y hy=>?_
  subst hy
  cases n1:Cm l i with
  |true=>
   have n1':=n1
   rw [F6] at n1'
   simp -implicitDefEqProofs only [↓yP,yT]
   refine AB (Jv l i hl hi n1) (by rfl) fun y hy=>?_
   obtain ⟨t,k,rfl,k1,k2,ht⟩:=hy
   simp only [Tok.yv,Tok.cs,Tok.pc,List.map_cons,List.map_nil]
   simp -implicitDefEqProofs only [↓yP,yT,Nat.reduceAdd,reduceCtorEq]
   exact ⟨t,k,rfl,k1,k2,by simp only [Ak,hL,hL1,h1,h2,h3,h4,hH,n1',if_true,Bool.false_eq_true,if_false];exact ht⟩
  |false=>
  rw [F6] at n1
  simp -implicitDefEqProofs only [↓yP,yT]
  refine AB (EI l i ⟨#[45,45,62]⟩ (by omega) (by decide)) (by rfl) fun y hy=>?_
  subst hy
  cases n2:CW l i (AA ⟨#[45,45,62]⟩) with
  |true=>
   obtain ⟨a1,a2⟩:=Bh (c:=45) (cs:=[45,62]) n2
   obtain ⟨_,a2⟩:=Bh (c:=45) (cs:=[62]) a2
   obtain ⟨a2,_⟩:=Bh (c:=62) (cs:=[]) a2
   have hi1:=N7 (l:=l) (i:=i+1+1) (by rw [a2];decide)
   rw [Bu] at n2
   simp -implicitDefEqProofs only [↓yP,yT,Nat.reduceAdd,Nat.reduceLeDiff,reduceCtorEq,w3]
   exact ⟨AM 15 ⟨#[]⟩,i+3,rfl,by omega,by omega,by simp only [Ak,hL,hL1,h1,h2,h3,h4,hH,n1,n2,if_true,Bool.false_eq_true,if_false,List.drop_drop]⟩
  |false=>
  rw [Bu] at n2
  simp -implicitDefEqProofs only [↓yP,yT]
  refine AB (EI l i ⟨#[60,33,45,45]⟩ (by omega) (by decide)) (by rfl) fun y hy=>?_
  subst hy
  cases n3:CW l i (AA ⟨#[60,33,45,45]⟩) with
  |true=>
   obtain ⟨a1,a2⟩:=Bh (c:=60) (cs:=[33,45,45]) n3
   obtain ⟨_,a2⟩:=Bh (c:=33) (cs:=[45,45]) a2
   obtain ⟨_,a2⟩:=Bh (c:=45) (cs:=[45]) a2
   obtain ⟨a2,_⟩:=Bh (c:=45) (cs:=[]) a2
   have hi1:=N7 (l:=l) (i:=i+1+1+1) (by rw [a2];decide)
   rw [Bu] at n3
   simp -implicitDefEqProofs only [↓yP,yT,Nat.reduceAdd,Nat.reduceLeDiff,reduceCtorEq,w4]
   exact ⟨AM 14 ⟨#[]⟩,i+4,rfl,by omega,by omega,by simp only [Ak,hL,hL1,h1,h2,h3,h4,hH,n1,n2,n3,if_true,Bool.false_eq_true,if_false,List.drop_drop]⟩
  |false=>
  rw [Bu] at n3
  simp -implicitDefEqProofs only [↓yP,yT]
  refine AB (Dz l i (by omega)) (by rfl) fun y hy=>?_
  subst hy
  cases n4:ED l i with
  |true=>
   have n4':=n4
   rw [DA] at n4'
   simp -implicitDefEqProofs only [↓yP,yT]
   refine AB (MY l i hl hi (PM n4)) (by rfl) fun y hy=>?_
   obtain ⟨t,k,rfl,k1,k2,ht⟩:=hy
   simp only [Tok.yv,Tok.cs,Tok.pc,List.map_cons,List.map_nil]
   simp -implicitDefEqProofs only [↓yP,yT,Nat.reduceAdd,reduceCtorEq]
   exact ⟨t,k,rfl,k1,k2,by simp only [Ak,hL,hL1,h1,h2,h3,h4,hH,n1,n2,n3,n4',if_true,Bool.false_eq_true,if_false];exact ht⟩
  |false=>
  rw [DA] at n4
  cases n5:AJ x.r 64 with
  |true=>
   simp -implicitDefEqProofs only [↓yP,yT,n5,w1]
   refine AB (Dz l (i+1) (by omega)) (by rfl) fun y hy=>?_
   subst hy
   rw [DA]
   cases n6:Ag (l.drop (i+1)) with
   |true=>
    simp -implicitDefEqProofs only [↓yP,yT,w1]
    refine AB (FB l (i+1) hl (by omega)) (by rfl) fun y hy=>?_
    obtain ⟨k,rfl,hk1,hk2,_,hk3⟩:=hy
    simp -implicitDefEqProofs only [↓yP,yT,Nat.reduceAdd,Nat.reduceLeDiff,reduceCtorEq]
    exact ⟨AM 3 (AO (AT (l.drop (i+1))).1),k,rfl,by omega,by omega,by simp only [Ak,hL,hL1,h1,h2,h3,h4,hH,n1,n2,n3,n4,n5,n6,Bool.and_self,if_true,Bool.false_eq_true,if_false,hk3,List.drop_drop]⟩
   |false=>
    have hO:Ak (l.drop i)=if AJ (Bp x.r) 9 then (AM 9 (AO (A9 ((l.drop i).take 1))),l.drop (i+1)) else (AM (Bp x.r) ⟨#[]⟩,l.drop (i+1)):=by
     simp only [Ak,hL,hL1,h1,h2,h3,h4,hH,n1,n2,n3,n4,n5,n6,Bool.and_false,Bool.false_eq_true,if_false,List.drop_drop]
    simp -implicitDefEqProofs only [↓yP,yT]
    rw [hO]
    refine Ah (fun d e st=>∃(j:Nat),e=([.c (.p (rR l)),yd (.int .i64 (i:Nat)),Tp,Tp,.c (.ptr 0 0 0 0),Tp,yd (.int .i64 x.r),yd (.string ⟨#[58,59,44,123,125,40,41,91,93]⟩),Tp,Tp,Tp,Tp,Tp,Tp,Tp,Tp,yd (.int .i64 (j:Nat)),Tp,Tp,Tp,Tp,Tp,Tp,Tp,Tp,Tp,Tp,Tp,Tp,Tp,Tp,Tp,Tp,Tp,Tp,Tp,Tp,Tp,Tp,Tp,Tp,Tp,Tp,Tp,Tp,Tp,Tp,Tp,Tp,Tp,Tp,Tp,Tp,Tp,Tp,Tp,Tp,Tp,Tp,Tp,Tp,Tp,Tp,Tp,Tp,Tp,Tp,Tp,Tp,Tp,Tp,Tp,Tp,Tp,Tp,Tp,Tp,Tp,Tp,Tp,Tp,Tp,Tp,Tp,Tp,Tp,Tp,Tp,Tp,Tp,Tp,Tp,Tp,Tp,Tp,Tp,Tp,Tp,Tp,Tp,Tp,Tp,Tp,Tp,Tp,Tp,Tp,Tp,Tp,Tp,Tp,Tp,Tp,Tp,Tp,Tp,Tp,Tp,Tp,Tp,Tp,Tp,Tp,Tp,Tp,Tp,Tp,Tp,Tp,Tp,Tp,Tp,Tp,Tp,Tp,Tp,Tp,Tp,Tp,Tp,Tp,Tp,Tp,Tp,Tp,Tp,Tp,Tp,Tp,Tp,Tp,Tp,Tp,Tp,Tp,Tp,Tp,Tp,Tp,Tp,Tp,Tp,Tp,Tp,Tp,Tp,Tp,Tp,Tp,Tp,Tp,Tp,Tp,Tp,Tp,Tp,Tp,Tp,Tp,Tp,Tp,Tp,Tp,Tp,Tp,Tp,Tp,Tp,Tp,Tp])∧st=[.box zt]∧j+d=9∧∀m c,m<j→[58,59,44,123,125,40,41,91,93][m]?=some c→c≠x.r) [true,true,false,false,true,false,true,true,false,false,false,false,false,false,false,false,true] 9 [0] (by decide) (AC _) ⟨0,by (simp only [yE];try rfl),by (simp only [yE];try rfl),by omega,fun m c h=>absurd h (Nat.not_lt_zero m)⟩ ?_
    rintro d e st ⟨j,rfl,rfl,hd,hj⟩
    have hlen:(AA ⟨#[58,59,44,123,125,40,41,91,93]⟩).length=9:=rfl
    by_cases hj9:j<9
    ·obtain ⟨c,hc⟩:=get_lt (l:=AA ⟨#[58,59,44,123,125,40,41,91,93]⟩) (i:=j) (by rw [hlen];exact hj9)
     have t1:AN ((9:Nat):Int) (j:Nat)=false:=AE (by omega)
     have c0:(0:Int)≤(j:Nat):=by omega
     have v1:AG .i64 ((j:Int)+1)=((j+1:Nat):Int):=AK (by omega)
     have v2:AG .i64 (16+(j:Int))=((16+j:Nat):Int):=A1 (i:=16+j) (by omega)
     cases m1:AJ ((c.toNat:Nat):Int) x.r with
     |true=>
      have m1':=AQ m1
      simp -implicitDefEqProofs only [↓yP,yT,Nat.reduceAdd,Nat.reduceLeDiff,reduceCtorEq,AY.eq_1,AV.eq_1,hlen,t1,c0,hc,G9,m1,v2,w1,EN,Jm]
      refine ⟨AM ((16+j:Nat):Int) ⟨#[]⟩,i+1,rfl,by omega,by omega,?_⟩
      have hjj:j=0∨j=1∨j=2∨j=3∨j=4∨j=5∨j=6∨j=7∨j=8:=by omega
      rcases hjj with rfl|rfl|rfl|rfl|rfl|rfl|rfl|rfl|rfl
      all_goals
       cases hc
       rw [←m1']
       rfl
     |false=>
      simp -implicitDefEqProofs only [↓yP,yT,AY.eq_1,AV.eq_1,hlen,t1,c0,hc,G9,m1,v1]
      refine ⟨d - 1,[0],by omega,by decide,AC _,j+1,by (simp only [yE];try rfl),by (simp only [yE];try rfl),by omega,fun m c' hm hc'=>?_⟩
      rcases Nat.lt_or_ge m j with g|g
      ·exact hj m c' g hc'
      ·obtain rfl:m=j:=by omega
       have hcc:((c.toNat:Nat):Int)=c':=by
        have hjj:m=0∨m=1∨m=2∨m=3∨m=4∨m=5∨m=6∨m=7∨m=8:=by omega
        rcases hjj with rfl|rfl|rfl|rfl|rfl|rfl|rfl|rfl|rfl<;>(cases hc;cases hc';rfl)
       rw [←hcc];exact A7 m1
    ·have t1:AN ((9:Nat):Int) (j:Nat)=true:=AH (by omega)
     have hS:Bp x.r=9:=by
      unfold Bp
      rw [AF (fun e=>hj 0 58 (by omega) rfl e.symm),AF (fun e=>hj 1 59 (by omega) rfl e.symm),AF (fun e=>hj 2 44 (by omega) rfl e.symm),AF (fun e=>hj 3 123 (by omega) rfl e.symm),AF (fun e=>hj 4 125 (by omega) rfl e.symm),AF (fun e=>hj 5 40 (by omega) rfl e.symm),AF (fun e=>hj 6 41 (by omega) rfl e.symm),AF (fun e=>hj 7 91 (by omega) rfl e.symm),AF (fun e=>hj 8 93 (by omega) rfl e.symm)]
      rfl
     rw [hS]
     simp -implicitDefEqProofs only [↓yP,yT,AY.eq_1,hlen,t1,w1]
     refine AB (B7 l i (i+1) hl (by omega) (by omega)) (by rfl) fun y hy=>?_
     subst hy
     rw [Nat.add_sub_cancel_left]
     simp -implicitDefEqProofs only [↓yP,yT,Nat.reduceAdd,Nat.reduceLeDiff,reduceCtorEq,w1,EN,Jm]
     exact ⟨AM 9 (AO (A9 ((l.drop i).take 1))),i+1,rfl,by omega,by omega,rfl⟩
  |false=>
   have hO:Ak (l.drop i)=if AJ (Bp x.r) 9 then (AM 9 (AO (A9 ((l.drop i).take 1))),l.drop (i+1)) else (AM (Bp x.r) ⟨#[]⟩,l.drop (i+1)):=by
    simp only [Ak,hL,hL1,h1,h2,h3,h4,hH,n1,n2,n3,n4,n5,Bool.false_and,Bool.false_eq_true,if_false,List.drop_drop]
   simp -implicitDefEqProofs only [↓yP,yT,n5]
   rw [hO]
   refine Ah (fun d e st=>∃(j:Nat),e=([.c (.p (rR l)),yd (.int .i64 (i:Nat)),Tp,Tp,.c (.ptr 0 0 0 0),Tp,yd (.int .i64 x.r),yd (.string ⟨#[58,59,44,123,125,40,41,91,93]⟩),Tp,Tp,Tp,Tp,Tp,Tp,Tp,Tp,yd (.int .i64 (j:Nat)),Tp,Tp,Tp,Tp,Tp,Tp,Tp,Tp,Tp,Tp,Tp,Tp,Tp,Tp,Tp,Tp,Tp,Tp,Tp,Tp,Tp,Tp,Tp,Tp,Tp,Tp,Tp,Tp,Tp,Tp,Tp,Tp,Tp,Tp,Tp,Tp,Tp,Tp,Tp,Tp,Tp,Tp,Tp,Tp,Tp,Tp,Tp,Tp,Tp,Tp,Tp,Tp,Tp,Tp,Tp,Tp,Tp,Tp,Tp,Tp,Tp,Tp,Tp,Tp,Tp,Tp,Tp,Tp,Tp,Tp,Tp,Tp,Tp,Tp,Tp,Tp,Tp,Tp,Tp,Tp,Tp,Tp,Tp,Tp,Tp,Tp,Tp,Tp,Tp,Tp,Tp,Tp,Tp,Tp,Tp,Tp,Tp,Tp,Tp,Tp,Tp,Tp,Tp,Tp,Tp,Tp,Tp,Tp,Tp,Tp,Tp,Tp,Tp,Tp,Tp,Tp,Tp,Tp,Tp,Tp,Tp,Tp,Tp,Tp,Tp,Tp,Tp,Tp,Tp,Tp,Tp,Tp,Tp,Tp,Tp,Tp,Tp,Tp,Tp,Tp,Tp,Tp,Tp,Tp,Tp,Tp,Tp,Tp,Tp,Tp,Tp,Tp,Tp,Tp,Tp,Tp,Tp,Tp,Tp,Tp,Tp,Tp,Tp,Tp,Tp,Tp,Tp,Tp,Tp,Tp,Tp,Tp,Tp])∧st=[.box zt]∧j+d=9∧∀m c,m<j→[58,59,44,123,125,40,41,91,93][m]?=some c→c≠x.r) [true,true,false,false,true,false,true,true,false,false,false,false,false,false,false,false,true] 9 [0] (by decide) (AC _) ⟨0,by (simp only [yE];try rfl),by (simp only [yE];try rfl),by omega,fun m c h=>absurd h (Nat.not_lt_zero m)⟩ ?_
   rintro d e st ⟨j,rfl,rfl,hd,hj⟩
   have hlen:(AA ⟨#[58,59,44,123,125,40,41,91,93]⟩).length=9:=rfl
   by_cases hj9:j<9
   ·obtain ⟨c,hc⟩:=get_lt (l:=AA ⟨#[58,59,44,123,125,40,41,91,93]⟩) (i:=j) (by rw [hlen];exact hj9)
    have t1:AN ((9:Nat):Int) (j:Nat)=false:=AE (by omega)
    have c0:(0:Int)≤(j:Nat):=by omega
    have v1:AG .i64 ((j:Int)+1)=((j+1:Nat):Int):=AK (by omega)
    have v2:AG .i64 (16+(j:Int))=((16+j:Nat):Int):=A1 (i:=16+j) (by omega)
    cases m1:AJ ((c.toNat:Nat):Int) x.r with
    |true=>
     have m1':=AQ m1
     simp -implicitDefEqProofs only [↓yP,yT,Nat.reduceAdd,Nat.reduceLeDiff,reduceCtorEq,AY.eq_1,AV.eq_1,hlen,t1,c0,hc,G9,m1,v2,w1,EN,Jm]
     refine ⟨AM ((16+j:Nat):Int) ⟨#[]⟩,i+1,rfl,by omega,by omega,?_⟩
     have hjj:j=0∨j=1∨j=2∨j=3∨j=4∨j=5∨j=6∨j=7∨j=8:=by omega
     rcases hjj with rfl|rfl|rfl|rfl|rfl|rfl|rfl|rfl|rfl
     all_goals
      cases hc
      rw [←m1']
      rfl
    |false=>
     simp -implicitDefEqProofs only [↓yP,yT,AY.eq_1,AV.eq_1,hlen,t1,c0,hc,G9,m1,v1]
     refine ⟨d - 1,[0],by omega,by decide,AC _,j+1,by (simp only [yE];try rfl),by (simp only [yE];try rfl),by omega,fun m c' hm hc'=>?_⟩
     rcases Nat.lt_or_ge m j with g|g
     ·exact hj m c' g hc'
     ·obtain rfl:m=j:=by omega
      have hcc:((c.toNat:Nat):Int)=c':=by
       have hjj:m=0∨m=1∨m=2∨m=3∨m=4∨m=5∨m=6∨m=7∨m=8:=by omega
       rcases hjj with rfl|rfl|rfl|rfl|rfl|rfl|rfl|rfl|rfl<;>(cases hc;cases hc';rfl)
      rw [←hcc];exact A7 m1
   ·have t1:AN ((9:Nat):Int) (j:Nat)=true:=AH (by omega)
    have hS:Bp x.r=9:=by
     unfold Bp
     rw [AF (fun e=>hj 0 58 (by omega) rfl e.symm),AF (fun e=>hj 1 59 (by omega) rfl e.symm),AF (fun e=>hj 2 44 (by omega) rfl e.symm),AF (fun e=>hj 3 123 (by omega) rfl e.symm),AF (fun e=>hj 4 125 (by omega) rfl e.symm),AF (fun e=>hj 5 40 (by omega) rfl e.symm),AF (fun e=>hj 6 41 (by omega) rfl e.symm),AF (fun e=>hj 7 91 (by omega) rfl e.symm),AF (fun e=>hj 8 93 (by omega) rfl e.symm)]
     rfl
    rw [hS]
    simp -implicitDefEqProofs only [↓yP,yT,AY.eq_1,hlen,t1,w1]
    refine AB (B7 l i (i+1) hl (by omega) (by omega)) (by rfl) fun y hy=>?_
    subst hy
    rw [Nat.add_sub_cancel_left]
    simp -implicitDefEqProofs only [↓yP,yT,Nat.reduceAdd,Nat.reduceLeDiff,reduceCtorEq,w1,EN,Jm]
    exact ⟨AM 9 (AO (A9 ((l.drop i).take 1))),i+1,rfl,by omega,by omega,rfl⟩
noncomputable def BO (l:List Rn):List Tok:=match l with
 |[]=>[]
 |x::r=>{(Ak (x::r)).1 with start:=x.a}::(if h:(Ak (x::r)).2.length<(x::r).length then BO (Ak (x::r)).2 else [])
termination_by l.length
decreasing_by exact h
theorem C9:BO []=[]:=by rw [BO]
theorem DY (l:List Rn) (hl:l.length≤200000000):AS C1 23 [.c (.p (rR l))] fun y=>y=.c (.p (rT (BO l))):=by
 refine Pf (by rfl) (by rfl) o6 (by rfl) ?_
 simp only [Try.f23,List.length_cons,List.length_nil,List.replicate,List.cons_append,List.nil_append]
 simp -implicitDefEqProofs only [↓yP,yT]
 refine Cb 3 13 (by decide) rfl ?_
 refine Ah (fun d e s=>∃(i:Nat) (ts:List Tok),e=([.c (.p (rR l)),Tp,Tp,.c (.own 0 13 0 ts.length),yd (.int .i64 (i:Nat)),Tp,Tp,Tp,Tp,Tp,Tp,Tp,Tp,Tp,Tp,Tp,Tp,Tp,Tp,Tp,Tp,Tp,Tp,Tp,Tp,Tp,Tp,Tp,Tp])∧s=[.row 13 (ts.map Tok.pc)]∧i+d=l.length∧ts.length≤i∧BO l=ts++BO (l.drop i)) [true,false,false,true,true] l.length [0] (by decide) (AC _) ⟨0,[],by (simp only [yE];try rfl),by (simp only [yE];try rfl),by omega,by simp,by simp⟩ ?_
 rintro d e s ⟨i,ts,rfl,rfl,hd,hlen,hlx⟩
 by_cases hi:i<l.length
 ·obtain ⟨x,hx⟩:=get_lt hi
  have hdc:=Am hx
  have t1:AN (l.length:Nat) (i:Nat)=false:=AE (by omega)
  have b1:(ts.length+1)*128≤70368744177664:=by omega
  simp -implicitDefEqProofs only [↓yP,yT,t1]
  refine AB (Wn l i hl hi) (by rfl) fun y hy=>?_
  obtain ⟨t,k,rfl,k1,k2,ht⟩:=hy
  have hlt:(Ak (x::l.drop (i+1))).2.length<(x::l.drop (i+1)).length:=by
   rw [←hdc,ht];simp;omega
  rw [hdc,BO,dif_pos hlt,←hdc,ht] at hlx
  simp only [Tok.yv,Tok.cs,Tok.pc,List.map_cons,List.map_nil]
  simp -implicitDefEqProofs only [↓yP,yT,Nat.reduceAdd,Nat.reduceMul,Nat.reduceLeDiff,reduceCtorEq,El hx,b1]
  refine ⟨l.length - k,[3],by omega,by decide,AC _,k,ts++[{t with start:=x.a}],by (simp only [yE];try rfl),?_,by omega,by simp;omega,by rw [hlx];simp⟩
  simp only [yE,List.map_append];rfl
 ·have t1:AN (l.length:Nat) (i:Nat)=true:=AH (by omega)
  obtain rfl:i=l.length:=by omega
  rw [List.drop_length,C9,List.append_nil] at hlx
  rw [hlx]
  simp -implicitDefEqProofs only [↓yP,yT,reduceCtorEq,t1]
end Go.Vx.Seat
end
section
open Go Go.Vx Go.Proofs
namespace Go.Vx.Seat
theorem CB {α:Type} {r l:List α} (x:α) (h:r<:+l):r<:+x::l:=h.trans (List.suffix_cons x l)
theorem PL (l:List Rn):Ek l<:+l:=by
 unfold Ek
 split
 ·exact List.suffix_refl _
 ·split
  ·exact List.suffix_cons _ _
  ·exact List.suffix_refl _
theorem TX:∀(n:Nat) (x:Int) (l:List Rn),(Es n x l).2<:+l
 |0,x,l=>List.suffix_refl _
 |n+1,x,[]=>List.suffix_refl _
 |n+1,x,c::l=>by
  unfold Es
  split
  ·exact CB c (TX n _ l)
  ·exact List.suffix_refl _
theorem Fd (l:List Rn):(BZ l).2<:+l:=by
 unfold BZ
 split
 ·exact List.suffix_refl _
 ·rename_i c r
  split
  ·exact (PL _).trans (TX 6 0 (c::r))
  ·exact List.suffix_cons _ _
theorem Df:∀(n:Nat) (l:List Rn),l.length≤n→(AT l).2<:+l:=by
 intro n
 induction n with
 |zero=>intro l h;have:l=[]:=List.eq_nil_of_length_eq_zero (by omega);subst this;rw [BU];exact List.suffix_refl _
 |succ n ih=>
  intro l h
  cases l with
  |nil=>rw [BU];exact List.suffix_refl _
  |cons x r=>
   have hr:r.length≤n:=by simpa using h
   cases h1:DB x.r with
   |true=>rw [BM h1];exact CB x (ih r hr)
   |false=>
    cases h2:esc0 (x::r) with
    |true=>rw [Cj h1 h2];exact CB x ((ih _ (by have:=CT r;omega)).trans (Fd r))
    |false=>rw [Cw h1 h2];exact List.suffix_refl _
theorem G6 (q:Int):∀(n:Nat) (l:List Rn),l.length≤n→(quotedF q l).2.2<:+l:=by
 intro n
 induction n with
 |zero=>intro l h;have:l=[]:=List.eq_nil_of_length_eq_zero (by omega);subst this;rw [B5];exact List.suffix_refl _
 |succ n ih=>
  intro l h
  cases l with
  |nil=>rw [B5];exact List.suffix_refl _
  |cons x r=>
   have hr:r.length≤n:=by simpa using h
   cases h1:AJ x.r q with
   |true=>rw [DX h1];exact List.suffix_cons _ _
   |false=>
    cases h2:AJ x.r 10 with
    |true=>rw [FL h1 h2];exact List.suffix_refl _
    |false=>
     cases h3:AJ x.r 92 with
     |false=>rw [DG h1 h2 h3];exact CB x (ih r hr)
     |true=>
      cases r with
      |nil=>rw [EL h1 h2 h3];exact List.nil_suffix
      |cons y r'=>
       cases h4:AJ y.r 10 with
       |true=>rw [Dh h1 h2 h3 h4];exact CB x (CB y (ih r' (by simp at hr;omega)))
       |false=>rw [DW h1 h2 h3 h4];exact CB x ((ih _ (by have:=CT (y::r');omega)).trans (Fd _))
theorem Ik:∀(n:Nat) (l:List Rn),l.length≤n→badF l<:+l:=by
 intro n
 induction n with
 |zero=>intro l h;have:l=[]:=List.eq_nil_of_length_eq_zero (by omega);subst this;rw [GM];exact List.suffix_refl _
 |succ n ih=>
  intro l h
  cases l with
  |nil=>rw [GM];exact List.suffix_refl _
  |cons x r=>
   have hr:r.length≤n:=by simpa using h
   cases h1:AJ x.r 41 with
   |true=>rw [Jj h1];exact List.suffix_cons _ _
   |false=>
    cases h2:esc0 (x::r) with
    |true=>rw [K7 h1 h2];exact CB x ((ih _ (by have:=CT r;omega)).trans (Fd r))
    |false=>rw [H3 h1 h2];exact CB x (ih r hr)
theorem Eg (l:List Rn):Aq l<:+l:=List.dropWhile_suffix _
theorem Il:∀(n:Nat) (l:List Rn),l.length≤n→(urlF l).2<:+l:=by
 intro n
 induction n with
 |zero=>intro l h;have:l=[]:=List.eq_nil_of_length_eq_zero (by omega);subst this;rw [Dc];exact List.suffix_refl _
 |succ n ih=>
  intro l h
  cases l with
  |nil=>rw [Dc];exact List.suffix_refl _
  |cons x r=>
   have hr:r.length≤n:=by simpa using h
   cases h1:AJ x.r 41 with
   |true=>rw [Er h1];exact List.suffix_cons _ _
   |false=>
    cases h2:Ad x.r with
    |true=>
     cases h3:Aq r with
     |nil=>rw [He h1 h2 h3];exact List.nil_suffix
     |cons y r'=>
      have hs:y::r'<:+r:=h3▸Eg r
      cases h4:AJ y.r 41 with
      |true=>rw [HX h1 h2 h3 h4];exact CB x ((List.suffix_cons y r').trans hs)
      |false=>rw [Hb h1 h2 h3 h4];exact CB x ((Ik _ _ (Nat.le_refl _)).trans hs)
    |false=>
     cases h3:Bo x r with
     |true=>rw [DN h1 h2 h3];exact Ik _ _ (Nat.le_refl _)
     |false=>
      cases h4:AJ x.r 92 with
      |true=>rw [Fe h1 h2 h3 h4];exact CB x ((ih _ (by have:=CT r;omega)).trans (Fd r))
      |false=>rw [Eb h1 h2 h3 h4];exact CB x (ih r hr)
theorem L4:∀l:List Rn,(Bc l).2<:+l
 |[]=>List.suffix_refl _
 |x::r=>by
  unfold Bc
  split
  ·exact CB x (List.drop_suffix 1 r)
  ·exact CB x (L4 r)
theorem Gb (l:List Rn):digs l<:+l:=List.dropWhile_suffix _
theorem Z6 (l:List Rn):Gj l<:+l:=by
 unfold Gj
 split
 ·exact (Gb _).trans (List.drop_suffix 1 l)
 ·exact Gb l
theorem Oe (l:List Rn):(FO l).2<:+l:=by
 unfold FO
 split
 ·exact (Gb _).trans (List.drop_suffix 2 l)
 ·exact List.suffix_refl _
theorem LB (b:Bool) (l:List Rn):(Gh b l).2<:+l:=by
 unfold Gh
 cases h1:(AJ (hd l) 101||AJ (hd l) 69) with
 |false=>exact List.suffix_refl _
 |true=>
  simp only [if_true]
  have hs:(if Ai (l.drop 1) then l.drop 2 else l.drop 1)<:+l:=by
   cases Ai (l.drop 1)
   ·exact List.drop_suffix 1 l
   ·exact List.drop_suffix 2 l
  cases h2:AL (hd (if Ai (l.drop 1) then l.drop 2 else l.drop 1)) with
  |false=>exact List.suffix_refl _
  |true=>exact (Gb _).trans hs
theorem Nn (l:List Rn):(Et l).2<:+l:=(LB _ _).trans ((Oe _).trans (Z6 l))
theorem Oq (x:Rn) (r:List Rn):(CH (x::r)).2<:+r:=G6 _ _ _ (Nat.le_refl _)
theorem Z3 (g s:List Rn):(D7 g s).2<:+s:=by
 have h:=(Il _ (Aq s) (Nat.le_refl _)).trans (Eg s)
 unfold D7
 split
 ·rename_i e;rw [e] at h;exact h
 ·rename_i e;rw [e] at h;exact h
theorem Ni (l:List Rn):(BG l).2<:+(AT l).2:=by
 unfold BG
 simp only
 split
 ·split
  ·exact (Z3 _ _).trans (List.drop_suffix 1 _)
  ·exact List.drop_suffix 1 _
 ·exact List.suffix_refl _
theorem ZU (l:List Rn):(E8 l).2<:+(Et l).2:=by
 unfold E8 EP
 split
 ·exact Df _ _ (Nat.le_refl _)
 ·split
  ·exact List.drop_suffix 1 _
  ·exact List.suffix_refl _
def gX (r:Int):Bool:=AJ r 125||Ad r
def J (f:Rn→Rn) (t l:List Rn):List Rn:=l.map f++t
def Sl (t l:List Rn):Prop:=t=[]∨∃u z,l=u++[z]∧gX z.r=true
section
variable {t:List Rn}
theorem Sl.nil (h:Sl t []):t=[]:=by
 rcases h with h|⟨u,z,h,_⟩
 ·exact h
 ·exact absurd h (by simp)
theorem Sl.suf {r l:List Rn} (h:Sl t r) (hs:r<:+l):Sl t l:=by
 rcases h with h|⟨u,z,rfl,hz⟩
 ·exact .inl h
 ·obtain ⟨p,rfl⟩:=hs
  exact .inr ⟨p++u,z,by simp,hz⟩
theorem Sl.tail {x:Rn} {r:List Rn} (h:Sl t (x::r)) (hx:gX x.r=false):Sl t r:=by
 rcases h with h|⟨u,z,h,hz⟩
 ·exact .inl h
 ·cases u with
  |nil=>simp at h;rw [←h.1,hx] at hz;cases hz
  |cons y u'=>simp at h;exact .inr ⟨u',z,h.2,hz⟩
theorem R0 {r c:Int} (h:AJ r c=true) (hc:gX c=false):gX r=false:=by rw [AQ h];exact hc
end
section
variable {f:Rn→Rn} {t:List Rn}
theorem EA (h:t=[]):J f t []=[]:=by rw [h];rfl
theorem Dm (x:Rn) (l:List Rn):J f t (x::l)=f x::J f t l:=rfl
variable (hf:∀x,(f x).r=x.r)
include hf
theorem Jp {l:List Rn} (h:Sl t l):hd (J f t l)=hd l:=by
 cases l with
 |nil=>rw [EA h.nil]
 |cons x r=>exact hf x
theorem MB {l:List Rn} (h:Sl t l):esc0 (J f t l)=esc0 l:=by
 cases l with
 |nil=>rw [EA h.nil]
 |cons x r=>
  show (AJ (f x).r 92&& !AJ (hd (J f t r)) 10)=(AJ x.r 92&& !AJ (hd r) 10)
  rw [hf]
  cases h1:AJ x.r 92 with
  |false=>rfl
  |true=>rw [Jp hf (h.tail (R0 h1 (by decide)))]
theorem ZI:∀(n:Nat) (x:Int) (l:List Rn),Sl t (Es n x l).2→Es n x (J f t l)=((Es n x l).1,J f t (Es n x l).2)
 |0,x,l,h=>rfl
 |n+1,x,[],h=>by
  show Es (n+1) x (J f t [])=(x,J f t [])
  rw [EA (Sl.nil (t:=t) h)];rfl
 |n+1,x,c::l,h=>by
  rw [Dm]
  simp only [Es,hf] at h ⊢
  split
  ·rename_i h1;rw [if_pos h1] at h;exact ZI n _ l h
  ·rfl
theorem dR {l:List Rn} (h:Sl t (Ek l)):Ek (J f t l)=J f t (Ek l):=by
 cases l with
 |nil=>rw [EA h.nil];exact (EA h.nil).symm
 |cons x r=>
  rw [Dm]
  simp only [Ek,hf]
  split<;>rfl
theorem Qs {l:List Rn} (h:Sl t (BZ l).2):BZ (J f t l)=((BZ l).1,J f t (BZ l).2):=by
 cases l with
 |nil=>rw [EA h.nil];exact Prod.ext rfl (EA h.nil).symm
 |cons x r=>
  rw [Dm]
  simp only [BZ,hf] at h ⊢
  split
  ·rename_i h1
   rw [if_pos h1] at h
   have h2:=ZI hf 6 0 (x::r) (h.suf (PL _))
   rw [Dm] at h2
   rw [h2,dR hf h]
  ·rfl
theorem M1:∀(n:Nat) (l:List Rn),l.length≤n→Sl t (AT l).2→AT (J f t l)=((AT l).1,J f t (AT l).2):=by
 intro n
 induction n with
 |zero=>
  intro l h hs
  have:l=[]:=List.eq_nil_of_length_eq_zero (by omega)
  subst this
  rw [BU] at hs ⊢
  rw [EA hs.nil,BU]
 |succ n ih=>
  intro l h hs
  cases l with
  |nil=>rw [BU] at hs ⊢;rw [EA hs.nil,BU]
  |cons x r=>
   have hr:r.length≤n:=by simpa using h
   have hsl:Sl t (x::r):=hs.suf (Df _ _ (Nat.le_refl _))
   have he:=MB hf hsl
   rw [Dm] at he ⊢
   cases h1:DB x.r with
   |true=>rw [BM h1] at hs ⊢;rw [BM (by rw [hf];exact h1),hf,ih r hr hs]
   |false=>
    cases h2:esc0 (x::r) with
    |true=>
     rw [Cj h1 h2] at hs ⊢
     rw [Cj (by rw [hf];exact h1) (by rw [he];exact h2),Qs hf (hs.suf (Df _ _ (Nat.le_refl _))),ih _ (by have:=CT r;omega) hs]
    |false=>rw [Cw h1 h2] at hs ⊢;rw [Cw (by rw [hf];exact h1) (by rw [he];exact h2)];rfl
theorem XL (q:Int):∀(n:Nat) (l:List Rn),l.length≤n→Sl t (quotedF q l).2.2→quotedF q (J f t l)=((quotedF q l).1,(quotedF q l).2.1,J f t (quotedF q l).2.2):=by
 intro n
 induction n with
 |zero=>
  intro l h hs
  have:l=[]:=List.eq_nil_of_length_eq_zero (by omega)
  subst this
  rw [B5] at hs ⊢
  rw [EA hs.nil,B5]
 |succ n ih=>
  intro l h hs
  cases l with
  |nil=>rw [B5] at hs ⊢;rw [EA hs.nil,B5]
  |cons x r=>
   have hr:r.length≤n:=by simpa using h
   have hsl:Sl t (x::r):=hs.suf (G6 _ _ _ (Nat.le_refl _))
   rw [Dm]
   cases h1:AJ x.r q with
   |true=>rw [DX h1,DX (by rw [hf];exact h1)]
   |false=>
    cases h2:AJ x.r 10 with
    |true=>rw [FL h1 h2,FL (by rw [hf];exact h1) (by rw [hf];exact h2)];rfl
    |false=>
     cases h3:AJ x.r 92 with
     |false=>rw [DG h1 h2 h3] at hs ⊢;rw [DG (by rw [hf];exact h1) (by rw [hf];exact h2) (by rw [hf];exact h3),hf,ih r hr hs]
     |true=>
      cases r with
      |nil=>
       rw [EL h1 h2 h3] at hs ⊢
       rw [EA hs.nil,EL (by rw [hf];exact h1) (by rw [hf];exact h2) (by rw [hf];exact h3)]
      |cons y r'=>
       rw [Dm]
       cases h4:AJ y.r 10 with
       |true=>
        rw [Dh h1 h2 h3 h4] at hs ⊢
        rw [Dh (by rw [hf];exact h1) (by rw [hf];exact h2) (by rw [hf];exact h3) (by rw [hf];exact h4),ih r' (by simp at hr;omega) hs]
       |false=>
        rw [DW h1 h2 h3 h4] at hs ⊢
        have he:=Qs hf (hs.suf (G6 _ _ _ (Nat.le_refl _)))
        rw [Dm] at he
        rw [DW (by rw [hf];exact h1) (by rw [hf];exact h2) (by rw [hf];exact h3) (by rw [hf];exact h4),he,ih _ (by have:=CT (y::r');omega) hs]
theorem YB:∀(n:Nat) (l:List Rn),l.length≤n→Sl t (badF l)→badF (J f t l)=J f t (badF l):=by
 intro n
 induction n with
 |zero=>
  intro l h hs
  have:l=[]:=List.eq_nil_of_length_eq_zero (by omega)
  subst this
  rw [GM] at hs ⊢
  rw [EA hs.nil,GM]
 |succ n ih=>
  intro l h hs
  cases l with
  |nil=>rw [GM] at hs ⊢;rw [EA hs.nil,GM]
  |cons x r=>
   have hr:r.length≤n:=by simpa using h
   have he:=MB hf (hs.suf (Ik _ _ (Nat.le_refl _)))
   rw [Dm] at he ⊢
   cases h1:AJ x.r 41 with
   |true=>rw [Jj h1,Jj (by rw [hf];exact h1)]
   |false=>
    cases h2:esc0 (x::r) with
    |true=>
     rw [K7 h1 h2] at hs ⊢
     rw [K7 (by rw [hf];exact h1) (by rw [he];exact h2),Qs hf (hs.suf (Ik _ _ (Nat.le_refl _))),ih _ (by have:=CT r;omega) hs]
    |false=>
     rw [H3 h1 h2] at hs ⊢
     rw [H3 (by rw [hf];exact h1) (by rw [he];exact h2),ih r hr hs]
theorem Is (p:Int→Bool):∀(l:List Rn),Sl t (l.dropWhile fun x=>p x.r)→(J f t l).dropWhile (fun x=>p x.r)=J f t (l.dropWhile fun x=>p x.r)
 |[],h=>by rw [EA h.nil];exact (EA h.nil).symm
 |x::r,h=>by
  rw [Dm]
  cases h1:p x.r with
  |true=>
   have e1:(f x::J f t r).dropWhile (fun x=>p x.r)=(J f t r).dropWhile (fun x=>p x.r):=List.dropWhile_cons_of_pos (by show p (f x).r=true;rw [hf];exact h1)
   have e2:(x::r).dropWhile (fun x=>p x.r)=r.dropWhile (fun x=>p x.r):=List.dropWhile_cons_of_pos h1
   rw [e2] at h
   rw [e1,e2]
   exact Is p r h
  |false=>
   have e1:(f x::J f t r).dropWhile (fun x=>p x.r)=f x::J f t r:=List.dropWhile_cons_of_neg (by show ¬p (f x).r=true;rw [hf,h1];simp)
   have e2:(x::r).dropWhile (fun x=>p x.r)=x::r:=List.dropWhile_cons_of_neg (by show ¬p x.r=true;rw [h1];simp)
   rw [e1,e2];rfl
theorem HN {l:List Rn} (h:Sl t (Aq l)):Aq (J f t l)=J f t (Aq l):=Is hf Ad l h
theorem bU {x:Rn} {r:List Rn} (h:Sl t (x::r)):Bo (f x) (J f t r)=Bo x r:=by
 have he:=MB hf h
 rw [Dm] at he
 simp only [Bo,hf,he]
theorem j7:∀(n:Nat) (l:List Rn),l.length≤n→Sl t (urlF l).2→urlF (J f t l)=((urlF l).1,J f t (urlF l).2):=by
 intro n
 induction n with
 |zero=>
  intro l h hs
  have:l=[]:=List.eq_nil_of_length_eq_zero (by omega)
  subst this
  rw [Dc] at hs ⊢
  rw [EA hs.nil,Dc]
 |succ n ih=>
  intro l h hs
  cases l with
  |nil=>rw [Dc] at hs ⊢;rw [EA hs.nil,Dc]
  |cons x r=>
   have hr:r.length≤n:=by simpa using h
   have hub:=bU hf (hs.suf (Il _ _ (Nat.le_refl _)))
   rw [Dm]
   cases h1:AJ x.r 41 with
   |true=>rw [Er h1,Er (by rw [hf];exact h1)]
   |false=>
    cases h2:Ad x.r with
    |true=>
     cases h3:Aq r with
     |nil=>
      rw [He h1 h2 h3] at hs ⊢
      have hb:=HN hf (l:=r) (by rw [h3];exact hs)
      rw [h3] at hb
      rw [He (by rw [hf];exact h1) (by rw [hf];exact h2) (by rw [hb,EA hs.nil]),EA hs.nil]
     |cons y r'=>
      cases h4:AJ y.r 41 with
      |true=>
       rw [HX h1 h2 h3 h4] at hs ⊢
       have hb:=HN hf (l:=r) (by rw [h3];exact hs.suf (List.suffix_cons _ _))
       rw [h3,Dm] at hb
       rw [HX (by rw [hf];exact h1) (by rw [hf];exact h2) hb (by rw [hf];exact h4)]
      |false=>
       rw [Hb h1 h2 h3 h4] at hs ⊢
       have hb:=HN hf (l:=r) (by rw [h3];exact hs.suf (Ik _ _ (Nat.le_refl _)))
       rw [h3,Dm] at hb
       have hbd:=YB hf _ (y::r') (Nat.le_refl _) hs
       rw [Dm] at hbd
       rw [Hb (by rw [hf];exact h1) (by rw [hf];exact h2) hb (by rw [hf];exact h4),hbd]
    |false=>
     cases h3:Bo x r with
     |true=>
      rw [DN h1 h2 h3] at hs ⊢
      have hbd:=YB hf _ (x::r) (Nat.le_refl _) hs
      rw [Dm] at hbd
      rw [DN (by rw [hf];exact h1) (by rw [hf];exact h2) (by rw [hub];exact h3),hbd]
     |false=>
      cases h4:AJ x.r 92 with
      |true=>
       rw [Fe h1 h2 h3 h4] at hs ⊢
       rw [Fe (by rw [hf];exact h1) (by rw [hf];exact h2) (by rw [hub];exact h3) (by rw [hf];exact h4),Qs hf (hs.suf (Il _ _ (Nat.le_refl _))),ih _ (by have:=CT r;omega) hs]
      |false=>
       rw [Eb h1 h2 h3 h4] at hs ⊢
       rw [Eb (by rw [hf];exact h1) (by rw [hf];exact h2) (by rw [hub];exact h3) (by rw [hf];exact h4),hf,ih r hr hs]
theorem VL:∀(l:List Rn),Sl t (Bc l).2→Bc (J f t l)=((Bc l).1.map f,J f t (Bc l).2)
 |[],h=>by rw [EA h.nil];exact Prod.ext rfl (EA h.nil).symm
 |x::r,h=>by
  have hsl:Sl t (x::r):=h.suf (L4 _)
  have hc:(AJ (f x).r 42&&AJ (hd (J f t r)) 47)=(AJ x.r 42&&AJ (hd r) 47):=by
   rw [hf]
   cases h1:AJ x.r 42 with
   |false=>rfl
   |true=>rw [Jp hf (hsl.tail (R0 h1 (by decide)))]
  rw [Dm]
  simp only [Bc,hc] at h ⊢
  cases hb:(AJ x.r 42&&AJ (hd r) 47) with
  |true=>
   simp only [if_true,List.map_nil]
   cases r with
   |nil=>rw [Bool.and_eq_true] at hb;exact absurd hb.2 (by decide)
   |cons y r'=>rfl
  |false=>
   rw [hb] at h
   simp only [Bool.false_eq_true,if_false] at h ⊢
   rw [VL r h];rfl
omit hf in
theorem UJ {l r:List Rn} (h:r<:+l):used (J f t l) (J f t r)=(used l r).map f:=by
 have hl:=h.length_le
 have e:(J f t l).length - (J f t r).length=l.length - r.length:=by simp [J];omega
 rw [used,used,e,J,List.take_append_of_le_length (by simp),List.map_take]
theorem Ha (l:List Rn):A9 (l.map f)=A9 l:=by
 rw [A9,A9,List.flatMap_map]
 congr 1;funext x;rw [hf]
omit hf in
theorem Sl.digs {l:List Rn} (h:Sl t l):Sl t (digs l):=by
 induction l with
 |nil=>exact h
 |cons x r ih=>
  unfold Seat.digs
  cases h1:AL x.r with
  |true=>
   rw [List.dropWhile_cons_of_pos (by simpa using h1)]
   refine ih (h.tail ?_)
   have:=h1
   simp only [AL,HG,Bool.and_eq_true,decide_eq_true_eq] at this
   simp only [gX,Ad,BN,Bool.or_eq_false_iff,decide_eq_false_iff_not]
   omega
  |false=>rw [List.dropWhile_cons_of_neg (by simp [h1])];exact h
theorem UE {l:List Rn} (h:Sl t l):digs (J f t l)=J f t (digs l):=Is hf AL l h.digs
omit hf in
theorem Sl.drop1 {l:List Rn} {c:Int} (h:Sl t l) (h1:AJ (hd l) c=true) (hc:gX c=false) (hm:AJ (-1) c=false):Sl t (l.drop 1)∧J f t (l.drop 1)=(J f t l).drop 1:=by
 cases l with
 |nil=>rw [show hd []= -1 from rfl,hm] at h1;cases h1
 |cons x r=>exact ⟨h.tail (R0 h1 hc),rfl⟩
theorem Y8 {l:List Rn} (h:Sl t l):Ai (J f t l)=Ai l:=by rw [Ai,Jp hf h];rfl
omit hf in
theorem Sl.sign {l:List Rn} (h:Sl t l):Sl t (if Ai l then l.drop 1 else l)∧(Ai l=true→J f t (l.drop 1)=(J f t l).drop 1):=by
 cases h1:Ai l with
 |false=>exact ⟨h,fun h=>by cases h⟩
 |true=>
  have h2:AJ (hd l) 43=true∨AJ (hd l) 45=true:=by simpa [Ai] using h1
  have:=h2.elim (fun h3=>Sl.drop1 (f:=f) h h3 (by decide) (by decide)) (fun h3=>Sl.drop1 (f:=f) h h3 (by decide) (by decide))
  exact ⟨this.1,fun _=>this.2⟩
theorem To {l:List Rn} (h:Sl t l):(if Ai (J f t l) then (J f t l).drop 1 else J f t l)=J f t (if Ai l then l.drop 1 else l):=by
 rw [Y8 hf h]
 cases h1:Ai l with
 |false=>rfl
 |true=>exact ((Sl.sign (f:=f) h).2 h1).symm
theorem WL {l:List Rn} (h:Sl t l):(AJ (hd (J f t l)) 46&&AL (hd ((J f t l).drop 1)))=(AJ (hd l) 46&&AL (hd (l.drop 1))):=by
 rw [Jp hf h]
 cases h1:AJ (hd l) 46 with
 |false=>rfl
 |true=>
  obtain ⟨h2,h3⟩:=Sl.drop1 (f:=f) h h1 (by decide) (by decide)
  rw [←h3,Jp hf h2]
theorem UI {l:List Rn} (h:Sl t l):BT (J f t l)=BT l:=by
 have h1:=(Sl.sign (f:=f) h).1
 unfold BT
 simp only
 rw [To hf h,WL hf h1,Jp hf h1]
theorem iK {l:List Rn} (h:Sl t l):Gj (J f t l)=J f t (Gj l)∧Sl t (Gj l):=by
 have h1:=(Sl.sign (f:=f) h).1
 rw [Gj,Gj,To hf h,UE hf h1]
 exact ⟨rfl,h1.digs⟩
omit hf in
theorem Sl.drop2 {l:List Rn} (h:Sl t l) (h1:AJ (hd l) 46=true) (h2:AL (hd (l.drop 1))=true):Sl t (l.drop 2)∧J f t (l.drop 2)=(J f t l).drop 2:=by
 cases l with
 |nil=>rw [show AJ (hd []) 46=false from rfl] at h1;cases h1
 |cons x r=>
  have hr:=h.tail (R0 h1 (by decide))
  cases r with
  |nil=>rw [show AL (hd ([x].drop 1))=false from rfl] at h2;cases h2
  |cons y r'=>
   have h2:AL y.r=true:=h2
   refine ⟨hr.tail ?_,rfl⟩
   simp only [AL,HG,Bool.and_eq_true,decide_eq_true_eq] at h2
   simp only [gX,Ad,BN,Bool.or_eq_false_iff,decide_eq_false_iff_not]
   omega
theorem iE {l:List Rn} (h:Sl t l):FO (J f t l)=((FO l).1,J f t (FO l).2)∧Sl t (FO l).2:=by
 rw [FO,FO,WL hf h]
 cases h1:(AJ (hd l) 46&&AL (hd (l.drop 1))) with
 |false=>exact ⟨rfl,h⟩
 |true=>
  rw [Bool.and_eq_true] at h1
  obtain ⟨h2,h3⟩:=Sl.drop2 (f:=f) h h1.1 h1.2
  simp only [if_true]
  rw [←h3,UE hf h2]
  exact ⟨rfl,h2.digs⟩
theorem iM {b:Bool} {l:List Rn} (h:Sl t l):Gh b (J f t l)=((Gh b l).1,J f t (Gh b l).2)∧Sl t (Gh b l).2:=by
 rw [Gh,Gh,Jp hf h]
 cases h1:(AJ (hd l) 101||AJ (hd l) 69) with
 |false=>exact ⟨rfl,h⟩
 |true=>
  have hd1:Sl t (l.drop 1)∧J f t (l.drop 1)=(J f t l).drop 1:=by
   rcases Bool.or_eq_true_iff.mp h1 with h1|h1
   ·exact Sl.drop1 h h1 (by decide) (by decide)
   ·exact Sl.drop1 h h1 (by decide) (by decide)
  have h5:=(Sl.sign (f:=f) hd1.1).1
  have h6:=To hf hd1.1
  rw [hd1.2,List.drop_drop,List.drop_drop] at h6
  rw [List.drop_drop] at h5
  simp only [if_true,Nat.reduceAdd] at h5 h6 ⊢
  rw [h6,Jp hf h5]
  cases h7:AL (hd (if Ai (l.drop 1) then l.drop 2 else l.drop 1)) with
  |false=>exact ⟨rfl,h⟩
  |true=>
   simp only [if_true]
   rw [UE hf h5]
   exact ⟨rfl,h5.digs⟩
theorem jI {l:List Rn} (h:Sl t l):Et (J f t l)=((Et l).1,J f t (Et l).2)∧Sl t (Et l).2:=by
 obtain ⟨a1,a2⟩:=iK hf h
 obtain ⟨b1,b2⟩:=iE hf a2
 rw [Et,Et,a1,b1]
 exact iM hf b2
theorem JQ {l:List Rn} (h:Sl t l):Ag (J f t l)=Ag l:=by
 cases l with
 |nil=>rw [EA h.nil]
 |cons x r=>
  have he:=MB hf h
  rw [Dm] at he ⊢
  simp only [Ag,hf,he]
  cases h1:AJ x.r 45 with
  |false=>rfl
  |true=>
   have hr:=h.tail (R0 h1 (by decide))
   rw [Jp hf hr,MB hf hr]
theorem H7:∀(s:List UInt8) (l:List Rn),(∀c,c∈s→gX (c.toNat:Nat)=false)→Sl t l→Ay (J f t l) s=Ay l s
 |[],l,_,_=>by cases l<;>(unfold Ay;rfl)
 |c::cs,l,hc,h=>by
  rw [Ay,Ay,Jp hf h]
  cases h1:AJ (hd l) (c.toNat:Nat) with
  |false=>rfl
  |true=>
   have hm:AJ (-1) (c.toNat:Nat)=false:=AF (by omega)
   obtain ⟨h2,h3⟩:=Sl.drop1 (f:=f) h h1 (hc c (by simp)) hm
   rw [←h3,H7 cs (l.drop 1) (fun d hd=>hc d (by simp [hd])) h2]
end
end Go.Vx.Seat
end
section
open Go Go.Vx Go.Proofs
namespace Go.Vx.Seat
theorem Ea:∀(s:List UInt8) (l:List Rn),Ay l s=true→s.length≤l.length
 |[],l,_=>by simp
 |c::cs,l,h=>by
  rw [Ay,Bool.and_eq_true] at h
  cases l with
  |nil=>rw [show hd []= -1 from rfl,AF (by omega)] at h;exact absurd h.1 (by simp)
  |cons x r=>have:=Ea cs r h.2;simp only [List.length_cons];omega
theorem f8 {l:List Rn} {c:Int} (h:AJ (hd l) c=true) (hm:AJ (-1) c=false):∃x r,l=x::r∧AJ x.r c=true:=by
 cases l with
 |nil=>rw [show hd []= -1 from rfl,hm] at h;cases h
 |cons x r=>exact ⟨x,r,rfl,h⟩
theorem Qv {x:Rn} {r:List Rn} (h:Ag (x::r)=true):(AT (x::r)).2<:+r:=by
 cases h1:DB x.r with
 |true=>rw [BM h1];exact Df _ _ (Nat.le_refl _)
 |false=>
  have h2:esc0 (x::r)=true:=by
   simp only [Ag] at h
   cases h3:AJ x.r 45 with
   |true=>rw [DB,h3] at h1;simp at h1
   |false=>
    rw [h3] at h
    simp only [Bool.false_eq_true,if_false] at h
    cases h4:Bm x.r with
    |true=>rw [DB,h4] at h1;simp at h1
    |false=>rw [h4] at h;simpa using h
  rw [Cj h1 h2];exact (Df _ _ (Nat.le_refl _)).trans (Fd r)
theorem TG {x:Rn} {r:List Rn} (h:BT (x::r)=true):(Et (x::r)).2<:+r:=by
 unfold Et
 cases h1:Ai (x::r) with
 |true=>
  have:Gj (x::r)=digs r:=by rw [Gj,h1];rfl
  rw [this];exact (LB _ _).trans ((Oe _).trans (Gb r))
 |false=>
  rw [BT,h1] at h
  simp only [Bool.false_eq_true,if_false] at h
  cases h2:AL x.r with
  |true=>
   have:Gj (x::r)=digs r:=by rw [Gj,h1];simp only [Bool.false_eq_true,if_false];rw [digs,List.dropWhile_cons_of_pos (by simpa using h2)];rfl
   rw [this];exact (LB _ _).trans ((Oe _).trans (Gb r))
  |false=>
   have e:Gj (x::r)=x::r:=by rw [Gj,h1];simp only [Bool.false_eq_true,if_false];rw [digs,List.dropWhile_cons_of_neg (by simp [h2])]
   have h3:AJ x.r 46=true∧AL (hd r)=true:=by
    rw [show hd (x::r)=x.r from rfl,h2] at h;simpa using h
   have e2:(FO (x::r)).2=digs (r.drop 1):=by rw [FO,show hd (x::r)=x.r from rfl,show (x::r).drop 1=r from rfl,h3.1,h3.2];rfl
   rw [e]
   refine (LB _ _).trans ?_
   rw [e2];exact (Gb _).trans (List.drop_suffix 1 r)
theorem AZ {α:Type} {p:α→Prop} {c:Prop} [Decidable c] {a b:α} (h1:c→p a) (h2:¬c→p b):p (if c then a else b):=by
 by_cases h:c
 ·rw [if_pos h];exact h1 h
 ·rw [if_neg h];exact h2 h
theorem K8 (x:Rn) (r:List Rn):(Ak (x::r)).2<:+r:=by
 unfold Ak
 refine AZ (p:=fun q:Tok×List Rn=>q.2<:+r) (fun h=>(L4 _).trans (List.drop_suffix 1 r)) fun _=>?_
 refine AZ (p:=fun q:Tok×List Rn=>q.2<:+r) (fun h=>?_) fun _=>?_
 ·show Aq (x::r)<:+r
  rw [Aq,List.dropWhile_cons_of_pos (by exact h)];exact Eg r
 refine AZ (p:=fun q:Tok×List Rn=>q.2<:+r) (fun h=>Oq x r) fun _=>?_
 refine AZ (p:=fun q:Tok×List Rn=>q.2<:+r) (fun h=>Oq x r) fun _=>?_
 refine AZ (p:=fun q:Tok×List Rn=>q.2<:+r) (fun h=>Df _ r (Nat.le_refl _)) fun _=>?_
 refine AZ (p:=fun q:Tok×List Rn=>q.2<:+r) (fun h=>(ZU _).trans (TG h)) fun _=>?_
 refine AZ (p:=fun q:Tok×List Rn=>q.2<:+r) (fun h=>List.drop_suffix 2 r) fun _=>?_
 refine AZ (p:=fun q:Tok×List Rn=>q.2<:+r) (fun h=>List.drop_suffix 3 r) fun _=>?_
 refine AZ (p:=fun q:Tok×List Rn=>q.2<:+r) (fun h=>(Ni _).trans (Qv h)) fun _=>?_
 refine AZ (p:=fun q:Tok×List Rn=>q.2<:+r) (fun h=>Df _ r (Nat.le_refl _)) fun _=>?_
 exact AZ (p:=fun q:Tok×List Rn=>q.2<:+r) (fun h=>List.suffix_refl _) fun _=>List.suffix_refl _
theorem LT (x:Rn) (r:List Rn):(Ak (x::r)).2.length<(x::r).length:=by
 have:=(K8 x r).length_le;simp only [List.length_cons];omega
theorem Eq (x:Rn) (r:List Rn):BO (x::r)={(Ak (x::r)).1 with start:=x.a}::BO (Ak (x::r)).2:=by
 rw [BO,dif_pos (LT x r)]
theorem Lu (g s:List Rn):(D7 g s).1.kind=7∨(D7 g s).1.kind=8:=by
 unfold D7;split
 ·exact .inl rfl
 ·exact .inr rfl
theorem S9 (l:List Rn):(BG l).1.kind=1∨(BG l).1.kind=2∨(BG l).1.kind=7∨(BG l).1.kind=8:=by
 unfold BG
 simp only
 split
 ·split
  ·exact .inr (.inr (Lu _ _))
  ·exact .inr (.inl rfl)
 ·exact .inl rfl
theorem PY (l:List Rn):(E8 l).1.kind=10∨(E8 l).1.kind=11∨(E8 l).1.kind=12:=by
 unfold E8 EP
 split
 ·exact .inr (.inr rfl)
 ·split
  ·exact .inr (.inl rfl)
  ·exact .inl rfl
theorem Mi (l:List Rn):(CH l).1.kind=5∨(CH l).1.kind=6:=by
 unfold CH
 simp only
 split
 ·exact .inr rfl
 ·exact .inl rfl
theorem X6 {x:Int} (h:Bp x=20):x=125:=by
 unfold Bp at h
 repeat' (split at h)
 all_goals first|(exact AQ (by assumption))|(exact absurd h (by decide))
theorem X0 (x:Int):Bp x≠13:=by
 unfold Bp
 repeat' split
 all_goals decide
theorem Ps (l:List Rn):((Ak l).1.kind=20→hd l=125)∧((Ak l).1.kind=13→Ad (hd l)=true):=by
 unfold Ak
 refine AZ (p:=fun q:Tok×List Rn=>(q.1.kind=20→hd l=125)∧(q.1.kind=13→Ad (hd l)=true)) (fun h=>⟨fun h=>absurd h (by decide:(25:Int)≠20),fun h=>absurd h (by decide:(25:Int)≠13)⟩) fun _=>?_
 refine AZ (p:=fun q:Tok×List Rn=>(q.1.kind=20→hd l=125)∧(q.1.kind=13→Ad (hd l)=true)) (fun h=>⟨fun h=>absurd h (by decide:(13:Int)≠20),fun _=>h⟩) fun _=>?_
 refine AZ (p:=fun q:Tok×List Rn=>(q.1.kind=20→hd l=125)∧(q.1.kind=13→Ad (hd l)=true)) (fun h=>by have:=Mi l;exact ⟨fun h=>by omega,fun h=>by omega⟩) fun _=>?_
 refine AZ (p:=fun q:Tok×List Rn=>(q.1.kind=20→hd l=125)∧(q.1.kind=13→Ad (hd l)=true)) (fun h=>by have:=Mi l;exact ⟨fun h=>by omega,fun h=>by omega⟩) fun _=>?_
 refine AZ (p:=fun q:Tok×List Rn=>(q.1.kind=20→hd l=125)∧(q.1.kind=13→Ad (hd l)=true)) (fun h=>⟨fun h=>absurd h (by decide:(4:Int)≠20),fun h=>absurd h (by decide:(4:Int)≠13)⟩) fun _=>?_
 refine AZ (p:=fun q:Tok×List Rn=>(q.1.kind=20→hd l=125)∧(q.1.kind=13→Ad (hd l)=true)) (fun h=>by have:=PY l;exact ⟨fun h=>by omega,fun h=>by omega⟩) fun _=>?_
 refine AZ (p:=fun q:Tok×List Rn=>(q.1.kind=20→hd l=125)∧(q.1.kind=13→Ad (hd l)=true)) (fun h=>⟨fun h=>absurd h (by decide:(15:Int)≠20),fun h=>absurd h (by decide:(15:Int)≠13)⟩) fun _=>?_
 refine AZ (p:=fun q:Tok×List Rn=>(q.1.kind=20→hd l=125)∧(q.1.kind=13→Ad (hd l)=true)) (fun h=>⟨fun h=>absurd h (by decide:(14:Int)≠20),fun h=>absurd h (by decide:(14:Int)≠13)⟩) fun _=>?_
 refine AZ (p:=fun q:Tok×List Rn=>(q.1.kind=20→hd l=125)∧(q.1.kind=13→Ad (hd l)=true)) (fun h=>by have:=S9 l;exact ⟨fun h=>by omega,fun h=>by omega⟩) fun _=>?_
 refine AZ (p:=fun q:Tok×List Rn=>(q.1.kind=20→hd l=125)∧(q.1.kind=13→Ad (hd l)=true)) (fun h=>⟨fun h=>absurd h (by decide:(3:Int)≠20),fun h=>absurd h (by decide:(3:Int)≠13)⟩) fun _=>?_
 exact AZ (p:=fun q:Tok×List Rn=>(q.1.kind=20→hd l=125)∧(q.1.kind=13→Ad (hd l)=true)) (fun h=>⟨fun h=>absurd h (by decide:(9:Int)≠20),fun h=>absurd h (by decide:(9:Int)≠13)⟩) fun _=>⟨fun h=>X6 h,fun h=>absurd h (X0 _)⟩
section
variable {f:Rn→Rn} {t:List Rn}
theorem UO {l:List Rn} {k:Nat} (h:k≤l.length):(J f t l).drop k=J f t (l.drop k):=by
 rw [J,List.drop_append_of_le_length (by simpa using h),←List.map_drop];rfl
variable (hf:∀x,(f x).r=x.r)
include hf
theorem SM {x:Rn} {r:List Rn} (h:Sl t (CH (x::r)).2):CH (J f t (x::r))=((CH (x::r)).1,J f t (CH (x::r)).2):=by
 have h1:=XL hf x.r _ r (Nat.le_refl _) h
 have hs:(quotedF x.r r).2.2<:+x::r:=CB x (G6 _ _ _ (Nat.le_refl _))
 have e1:hd (J f t (x::r))=x.r:=hf x
 have e2:(J f t (x::r)).drop 1=J f t r:=rfl
 have e3:hd (x::r)=x.r:=rfl
 have e4:(x::r).drop 1=r:=rfl
 unfold CH
 simp only [e1,e2,e3,e4,h1,UJ hs,Ha hf]
theorem jO {g s:List Rn} (hg:s<:+g) (h:Sl t (D7 g s).2):D7 (J f t g) (J f t s)=((D7 g s).1,J f t (D7 g s).2):=by
 have hsu:=(Il _ (Aq s) (Nat.le_refl _))
 unfold D7 at h ⊢
 rcases hu:urlF (Aq s) with ⟨o,r⟩
 rw [hu] at h hsu
 have hr:Sl t r:=by cases o<;>exact h
 have hb:=HN hf (hr.suf hsu)
 have h1:=j7 hf _ (Aq s) (Nat.le_refl _) (by rw [hu];exact hr)
 rw [hb,h1,hu]
 cases o with
 |none=>
  simp only
  rw [UJ (hsu.trans ((Eg s).trans hg)),Ha hf]
 |some bs=>rfl
theorem Y4 {l:List Rn} (h:Sl t (BG l).2):BG (J f t l)=((BG l).1,J f t (BG l).2):=by
 have hp:=h.suf (Ni l)
 have h1:=M1 hf _ l (Nat.le_refl _) hp
 have hsf:=Df _ l (Nat.le_refl _)
 unfold BG at h ⊢
 simp only at h ⊢
 rw [h1]
 simp only
 rw [Jp hf hp]
 cases h2:AJ (hd (AT l).2) 40 with
 |false=>rfl
 |true=>
  rw [h2] at h
  simp only [if_true] at h ⊢
  obtain ⟨hp1,hp2⟩:=Sl.drop1 (f:=f) hp h2 (by decide) (by decide)
  rw [←hp2]
  cases h3:(AA (Lf (AO (AT l).1))==AA ⟨#[117,114,108]⟩) with
  |false=>rfl
  |true=>
   rw [h3] at h
   have hbl:Sl t (Aq ((AT l).2.drop 1)):=by
    cases h4:AJ (hd (Aq ((AT l).2.drop 1))) 34 with
    |true=>
     obtain ⟨x,r,hx,_⟩:=f8 h4 (by decide)
     rw [h4] at h
     simp only [Bool.not_true,Bool.and_false,Bool.false_and,Bool.false_eq_true,if_false] at h
     have hs:=Eg ((AT l).2.drop 1)
     rw [hx] at hs ⊢
     rcases h with h|⟨u,z,hu,hz⟩
     ·exact .inl h
     ·obtain ⟨p,hp⟩:=hs
      rw [hu] at hp
      refine .inr ?_
      rcases List.eq_nil_or_concat (x::r) with e|⟨v,w,e⟩
      ·cases e
      ·rw [List.concat_eq_append] at e
       rw [e,←List.append_assoc] at hp
       have:=List.append_inj' hp rfl
       refine ⟨v,w,e,?_⟩
       have h5:=this.2
       simp at h5;rw [h5];exact hz
    |false=>
     cases h5:AJ (hd (Aq ((AT l).2.drop 1))) 39 with
     |true=>
      obtain ⟨x,r,hx,_⟩:=f8 h5 (by decide)
      rw [h5] at h
      simp only [Bool.not_true,Bool.and_false,Bool.false_eq_true,if_false] at h
      have hs:=Eg ((AT l).2.drop 1)
      rw [hx] at hs ⊢
      rcases h with h|⟨u,z,hu,hz⟩
      ·exact .inl h
      ·obtain ⟨p,hp⟩:=hs
       rw [hu] at hp
       refine .inr ?_
       rcases List.eq_nil_or_concat (x::r) with e|⟨v,w,e⟩
       ·cases e
       ·rw [List.concat_eq_append] at e
        rw [e,←List.append_assoc] at hp
        have:=List.append_inj' hp rfl
        refine ⟨v,w,e,?_⟩
        have h5:=this.2
        simp at h5;rw [h5];exact hz
     |false=>
      rw [h4,h5] at h
      simp only [Bool.not_false,Bool.and_true,if_true] at h
      have hsu:=Il _ (Aq ((AT l).2.drop 1)) (Nat.le_refl _)
      unfold D7 at h
      rcases hu:urlF (Aq ((AT l).2.drop 1)) with ⟨o,r⟩
      rw [hu] at h hsu
      have hr:Sl t r:=by cases o<;>exact h
      exact hr.suf hsu
   rw [HN hf hbl,Jp hf hbl]
   cases h4:(true&& !AJ (hd (Aq ((AT l).2.drop 1))) 34&& !AJ (hd (Aq ((AT l).2.drop 1))) 39) with
   |false=>rfl
   |true=>
    rw [h4] at h
    simp only [if_true] at h ⊢
    exact jO hf ((List.drop_suffix 1 _).trans hsf) h
theorem jD {l:List Rn} (hl:Sl t l) (h:Sl t (E8 l).2):E8 (J f t l)=((E8 l).1,J f t (E8 l).2):=by
 obtain ⟨h1,h2⟩:=jI hf hl
 have hu:=UJ (f:=f) (t:=t) (Nn l)
 unfold E8 at h ⊢
 rw [Jp hf hl,h1]
 simp only
 rw [hu,Ha hf]
 generalize AJ (hd l) 43=sg at h ⊢
 generalize (Et l).1=fl at h ⊢
 generalize AO (A9 (used l (Et l).2))=st at h ⊢
 generalize (Et l).2=r at h h2 ⊢
 unfold EP at h ⊢
 rw [JQ hf h2,Jp hf h2]
 cases c1:Ag r with
 |true=>
  rw [c1] at h
  simp only [if_true] at h ⊢
  rw [M1 hf _ r (Nat.le_refl _) h]
 |false=>
  simp only [Bool.false_eq_true,if_false]
  cases c2:AJ (hd r) 37 with
  |true=>
   simp only [if_true]
   rw [←(Sl.drop1 (f:=f) h2 c2 (by decide) (by decide)).2]
  |false=>rfl
theorem j5 {x:Rn} {r:List Rn} (h:Sl t (Ak (x::r)).2):Ak (J f t (x::r))=((Ak (x::r)).1,J f t (Ak (x::r)).2):=by
 have hl:Sl t (x::r):=h.suf (CB x (K8 x r))
 have q1:=H7 hf (AA ⟨#[47,42]⟩) (x::r) (by decide) hl
 have q2:=H7 hf (AA ⟨#[45,45,62]⟩) (x::r) (by decide) hl
 have q3:=H7 hf (AA ⟨#[60,33,45,45]⟩) (x::r) (by decide) hl
 have q4:=Jp hf hl
 have q5:=UI hf hl
 have q6:=JQ hf hl
 have q7:(AJ (hd (x::r)) 35&&(DB (hd ((J f t (x::r)).drop 1))||esc0 ((J f t (x::r)).drop 1)))=(AJ (hd (x::r)) 35&&(DB (hd ((x::r).drop 1))||esc0 ((x::r).drop 1))):=by
  cases c:AJ (hd (x::r)) 35 with
  |false=>rfl
  |true=>
   obtain ⟨a1,a2⟩:=Sl.drop1 (f:=f) hl c (by decide) (by decide)
   rw [←a2,Jp hf a1,MB hf a1]
 have q8:(AJ (hd (x::r)) 64&&Ag ((J f t (x::r)).drop 1))=(AJ (hd (x::r)) 64&&Ag ((x::r).drop 1)):=by
  cases c:AJ (hd (x::r)) 64 with
  |false=>rfl
  |true=>
   obtain ⟨a1,a2⟩:=Sl.drop1 (f:=f) hl c (by decide) (by decide)
   rw [←a2,JQ hf a1]
 unfold Ak at h ⊢
 rw [q1,q2,q3,q4,q5,q6,q7,q8]
 cases c1:Ay (x::r) (AA ⟨#[47,42]⟩) with
 |true=>
  rw [c1] at h
  simp only [if_true] at h ⊢
  rw [UO (k:=2) (Ea _ _ c1),VL hf _ h,Ha hf]
 |false=>
 rw [c1] at h
 simp only [Bool.false_eq_true,if_false] at h ⊢
 cases c2:Ad (hd (x::r)) with
 |true=>
  rw [c2] at h
  simp only [if_true] at h ⊢
  rw [HN hf h]
 |false=>
 rw [c2] at h
 simp only [Bool.false_eq_true,if_false] at h ⊢
 cases c3:AJ (hd (x::r)) 34 with
 |true=>
  rw [c3] at h
  simp only [if_true] at h ⊢
  exact SM hf h
 |false=>
 rw [c3] at h
 simp only [Bool.false_eq_true,if_false] at h ⊢
 cases c4:AJ (hd (x::r)) 39 with
 |true=>
  rw [c4] at h
  simp only [if_true] at h ⊢
  exact SM hf h
 |false=>
 rw [c4] at h
 simp only [Bool.false_eq_true,if_false] at h ⊢
 cases c5:(AJ (hd (x::r)) 35&&(DB (hd ((x::r).drop 1))||esc0 ((x::r).drop 1))) with
 |true=>
  rw [c5] at h
  simp only [if_true] at h ⊢
  rw [Bool.and_eq_true] at c5
  obtain ⟨a1,a2⟩:=Sl.drop1 (f:=f) hl c5.1 (by decide) (by decide)
  rw [←a2,M1 hf _ _ (Nat.le_refl _) h,JQ hf a1]
 |false=>
 rw [c5] at h
 simp only [Bool.false_eq_true,if_false] at h ⊢
 cases c6:BT (x::r) with
 |true=>
  rw [c6] at h
  simp only [if_true] at h ⊢
  exact jD hf hl h
 |false=>
 rw [c6] at h
 simp only [Bool.false_eq_true,if_false] at h ⊢
 cases c7:Ay (x::r) (AA ⟨#[45,45,62]⟩) with
 |true=>
  simp only [if_true]
  rw [UO (k:=3) (Ea _ _ c7)]
 |false=>
 rw [c7] at h
 simp only [Bool.false_eq_true,if_false] at h ⊢
 cases c8:Ay (x::r) (AA ⟨#[60,33,45,45]⟩) with
 |true=>
  simp only [if_true]
  rw [UO (k:=4) (Ea _ _ c8)]
 |false=>
 rw [c8] at h
 simp only [Bool.false_eq_true,if_false] at h ⊢
 cases c9:Ag (x::r) with
 |true=>
  rw [c9] at h
  simp only [if_true] at h ⊢
  exact Y4 hf h
 |false=>
 rw [c9] at h
 simp only [Bool.false_eq_true,if_false] at h ⊢
 cases c10:(AJ (hd (x::r)) 64&&Ag ((x::r).drop 1)) with
 |true=>
  rw [c10] at h
  simp only [if_true] at h ⊢
  rw [show (J f t (x::r)).drop 1=J f t ((x::r).drop 1) from rfl,M1 hf _ _ (Nat.le_refl _) h]
 |false=>
 simp only [Bool.false_eq_true,if_false]
 have e1:(J f t (x::r)).drop 1=J f t r:=rfl
 have e2:A9 ((J f t (x::r)).take 1)=A9 ((x::r).take 1):=Ha hf [x]
 rw [e1,e2]
 cases c11:AJ (Bp (hd (x::r))) 9<;>rfl
end
end Go.Vx.Seat
end
section
open Go Go.Vx Go.Proofs
namespace Go.Vx.Seat
theorem Jw (s t:ByteArray) (hs:s.size<4294967281):AS C1 35 [yd (.string s),yd (.string t)] fun y=>y=yd (.bool (Lib.contains s.data.toList t.data.toList)):=by
 intro lo R h vals hl hR ha
 match vals,ha.1,ha with
 |[v0,v1],_,ha=>
  obtain ⟨rfl,_⟩:=Af.dv (ha.2 0 _ _ rfl rfl) (show dv (yd (.string s))=some (.string s) from rfl)
  obtain ⟨rfl,_⟩:=Af.dv (ha.2 1 _ _ rfl rfl) (show dv (yd (.string t))=some (.string t) from rfl)
  refine Hu (g:=Ig) (v:=.bool (Lib.contains s.data.toList t.data.toList)) (h':=h) rfl (by simp only [Ig,if_pos hs]) ⟨R,_,rfl,PRep.d rfl,Nat.le_refl _,fun _ _=>rfl,fun b hb=>⟨hR b hb,fun _=>hb⟩⟩
end Go.Vx.Seat
end
section
open Go Go.Vx Go.Proofs
set_option maxRecDepth 10000
set_option maxHeartbeats 4000000
namespace Go.Vx.Seat
attribute [local irreducible] Rg Rt Ro Ri Rc Ds Dt Dw Dx Rw Rl Rd Av An kf
theorem oK:By C1.P.funcs.toList 12=some Try.f12:=by kernel_rfl
theorem oM:By C1.P.funcs.toList 34=some Try.f34:=by kernel_rfl
theorem oC:By C1.P.funcs.toList 58=some Try.f58:=by kernel_rfl
theorem Nk (a b:ByteArray):Cr .eql a b=some (.bool (AA a==AA b)):=rfl
end Go.Vx.Seat
end
section
open Go Go.Vx Go.Proofs
set_option maxRecDepth 10000
set_option maxHeartbeats 4000000
namespace Go.Vx.Seat
attribute [local irreducible] Rg Rt Ro Ri Rc Ds Dt Dw Dx Rw Rl Rd Av An kf
def eM:ByteArray:=⟨#[64,108,105,99,101,110,115,101]⟩
def X8:ByteArray:=⟨#[64,112,114,101,115,101,114,118,101]⟩
def PT (l:List UInt8):Bool:=match l with|c::_=>c==33|[]=>false
def Ia (s:ByteArray):Bool:=PT (AA s)||(Lib.contains (AA s) (AA eM)||Lib.contains (AA s) (AA X8))
theorem WZ {s:ByteArray} (hs:(AA s).length≤4000000000):s.size<4294967281:=by
 have:(AA s).length=s.size:=CD s
 omega
theorem Yr (s:ByteArray) (hs:(AA s).length≤4000000000):AS C1 58 [yd (.string s),yd (.string ⟨#[33]⟩)] fun y=>y=yd (.bool (PT (AA s))):=by
 have i11:Int.toNat 1=1:=rfl
 have l1:(AA ⟨#[33]⟩).length=1:=rfl
 have c1:(0:Int)≤1:=by omega
 have c0:(0:Int)≤0:=by omega
 have i00:Int.toNat 0=0:=rfl
 refine Pf (by rfl) (by rfl) oC (by rfl) ?_
 simp only [Try.f58,List.length_cons,List.length_nil,List.replicate,List.cons_append,List.nil_append]
 by_cases h:0<(AA s).length
 ·have t1:AN 1 ((AA s).length:Nat)=true:=AH (by omega)
  have c2:(1:Int)≤((AA s).length:Nat):=by omega
  have hb:(AA (AI ((AA s).take 1))==AA ⟨#[33]⟩)=PT (AA s):=by
   cases hl:AA s with
   |nil=>rw [hl] at h;simp at h
   |cons d r=>
    show ([d]==[33])=(d==33)
    rw [Bool.eq_iff_iff];simp
  simp -implicitDefEqProofs only [↓yP,yT,reduceCtorEq,AY.eq_1,Aw.eq_1,l1,t1,c0,c1,c2,i00,i11,Int.ofNat_one,Nk]
  rw [hb]
 ·have t1:AN 1 ((AA s).length:Nat)=false:=AE (by omega)
  have hb:PT (AA s)=false:=by
   cases hl:AA s with
   |nil=>rfl
   |cons d r=>rw [hl] at h;simp at h
  simp -implicitDefEqProofs only [↓yP,yT,reduceCtorEq,AY.eq_1,l1,t1,Int.ofNat_one]
  rw [hb]
theorem Yt (s:ByteArray) (hs:(AA s).length≤4000000000):AS C1 34 [yd (.string s),yd (.string ⟨#[33]⟩)] fun y=>y=yd (.bool (PT (AA s))):=by
 refine Pf (by rfl) (by rfl) oM (by rfl) ?_
 simp only [Try.f34,List.length_cons,List.length_nil,List.replicate,List.cons_append,List.nil_append]
 simp -implicitDefEqProofs only [↓yP,yT]
 refine AB (Yr s hs) (by rfl) fun y hy=>?_
 subst hy
 simp -implicitDefEqProofs only [↓yP,yT,reduceCtorEq]
theorem MW (s:ByteArray) (hs:(AA s).length≤4000000000):AS C1 12 [yd (.string s)] fun y=>y=yd (.bool (Ia s)):=by
 refine Pf (by rfl) (by rfl) oK (by rfl) ?_
 simp only [Try.f12,List.length_cons,List.length_nil,List.replicate,List.cons_append,List.nil_append]
 simp -implicitDefEqProofs only [↓yP,yT]
 refine AB (Yt s hs) (by rfl) fun y hy=>?_
 subst hy
 cases hb:PT (AA s) with
 |true=>
  simp -implicitDefEqProofs only [↓yP,yT,reduceCtorEq]
  rw [Ia,hb];rfl
 |false=>
  simp -implicitDefEqProofs only [yT]
  refine AB (Jw s ⟨#[64,108,105,99,101,110,115,101]⟩ (WZ hs)) (by rfl) fun y hy=>?_
  subst hy
  cases k1:Lib.contains s.data.toList [64,108,105,99,101,110,115,101] with
  |true=>
   simp -implicitDefEqProofs only [↓yP,yT,reduceCtorEq]
   rw [Ia,hb];show _=yd (.bool (false||(Lib.contains s.data.toList [64,108,105,99,101,110,115,101]||_)));rw [k1];rfl
  |false=>
   simp -implicitDefEqProofs only [yT]
   refine AB (Jw s ⟨#[64,112,114,101,115,101,114,118,101]⟩ (WZ hs)) (by rfl) fun y hy=>?_
   subst hy
   simp -implicitDefEqProofs only [↓yP,yT,reduceCtorEq]
   rw [Ia,hb];show _=yd (.bool (false||(Lib.contains s.data.toList [64,108,105,99,101,110,115,101]||_)));rw [k1];rfl
end Go.Vx.Seat
end
section
open Go Go.Vx Go.Proofs
set_option maxRecDepth 10000
set_option maxHeartbeats 4000000
namespace Go.Vx.Seat
attribute [local irreducible] Rg Rt Ro Ri Rc Ds Dt Dw Dx Rw Rl Rd Av An kf
theorem pZ:By C1.P.funcs.toList 41=some Try.f41:=by kernel_rfl
theorem p5:By C1.P.funcs.toList 60=some Try.f60:=by kernel_rfl
def Cd (t:Tok):Bool:=AJ t.kind 6||(AJ t.kind 9&&(AA t.text==AA ⟨#[92]⟩))
theorem Na (t:Tok):AS C1 41 [t.yv] fun y=>y=yd (.bool (Cd t)):=by
 refine Pf (by rfl) (by rfl) pZ (by rfl) ?_
 simp only [Try.f41,List.length_cons,List.length_nil,List.replicate,List.cons_append,List.nil_append]
 simp only [Tok.yv,Tok.cs,Tok.pc,List.map_cons,List.map_nil]
 unfold Cd
 cases h1:AJ t.kind 6<;>cases h2:AJ t.kind 9<;>cases h3:(AA t.text==AA ⟨#[92]⟩)
 all_goals
  simp -implicitDefEqProofs only [↓yP,yT,reduceCtorEq,h1,h2,h3,Nk]
 all_goals rfl
theorem P1 (t:Tok):AS C1 60 [t.yv] fun y=>y=yd (.bool (Cd t)):=by
 refine Pf (by rfl) (by rfl) p5 (by rfl) ?_
 simp only [Try.f60,List.length_cons,List.length_nil,List.replicate,List.cons_append,List.nil_append]
 simp only [Tok.yv,Tok.cs,Tok.pc,List.map_cons,List.map_nil]
 unfold Cd
 cases h1:AJ t.kind 6<;>cases h2:AJ t.kind 9<;>cases h3:(AA t.text==AA ⟨#[92]⟩)
 all_goals
  simp -implicitDefEqProofs only [↓yP,yT,reduceCtorEq,h1,h2,h3,Nk]
 all_goals rfl
end Go.Vx.Seat
end
section
open Go Go.Vx Go.Proofs
set_option maxRecDepth 10000
set_option maxHeartbeats 4000000
namespace Go.Vx.Seat
attribute [local irreducible] Rg Rt Ro Ri Rc Ds Dt Dw Dx Rw Rl Rd Av An kf
def Ci (l:List Int):Bool:=l.all fun k=>decide (k=20)
def BS (o:List Int) (k:Int):List Int:=
 if o.getLast?=some k then o.dropLast else if BP k>0 then o++[BP k] else o
def AX (ts:List Tok):Nat→List Int
 |0=>[]
 |i+1=>match ts[i]? with|some t=>BS (AX ts i) t.kind|none=>AX ts i
theorem Ms (o:List Int) (k:Int):(BS o k).length≤o.length+1:=by
 unfold BS
 split
 ·simp;omega
 ·split
  ·simp
  ·omega
theorem HD (ts:List Tok):∀i,(AX ts i).length≤i
 |0=>by simp [AX]
 |i+1=>by
  have:=HD ts i
  unfold AX
  split
  ·rename_i t _
   have:=Ms (AX ts i) t.kind
   omega
  ·omega
theorem Fj {ts:List Tok} {i:Nat} {t:Tok} (h:ts[i]?=some t):AX ts (i+1)=BS (AX ts i) t.kind:=by
 rw [AX,h]
end Go.Vx.Seat
end
section
open Go Go.Vx Go.Proofs
set_option maxRecDepth 10000
set_option maxHeartbeats 4000000
namespace Go.Vx.Seat
attribute [local irreducible] Rg Rt Ro Ri Rc Ds Dt Dw Dx Rw Rl Rd Av An kf
def Ns (k:Int):Bool:=AJ k 19||(AJ k 20||(AJ k 21||(AJ k 2||(AJ k 23||(AJ k 18||AJ k 17)))))
def OA (k:Int):Bool:=AJ k 19||(AJ k 20||(AJ k 22||(AJ k 24||(AJ k 18||AJ k 17))))
def fE (l:List Tok) (cs:List Int) (n:Nat):Bool:=match l[n]? with|some t=>Ns t.kind||cs.contains ((n:Nat):Int)|none=>true
def K3 (l:List Tok) (cs:List Int) (n:Nat):Bool:=match l[n]? with|some t=>OA t.kind||cs.contains ((n:Nat):Int)|none=>true
end Go.Vx.Seat
end
section
open Go Go.Vx Go.Proofs
set_option maxRecDepth 10000
set_option maxHeartbeats 4000000
namespace Go.Vx.Seat
attribute [local irreducible] Rg Rt Ro Ri Rc Ds Dt Dw Dx Rw Rl Rd Av An kf
end Go.Vx.Seat
end
