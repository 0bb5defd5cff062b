/- Texts joined: VyM2 VzT2 VyTS VyL9 VyLa VyLb VyLc VyLd VyLe. -/
import Derived.Test.YtmbonddknackiaaVm38
import Derived.Test.YtmbonddknackiaaVm37
import Derived.Test.YtmbonddknackiaaVyShift5
import Derived.Test.YtmbonddknackiaaVyCut
set_option linter.unusedSimpArgs false
set_option linter.unusedVariables false
section
open Go Go.Vx Go.Proofs
set_option maxRecDepth 10000
set_option maxHeartbeats 4000000
namespace Go.Vx.Seat
attribute [local irreducible] Rg Rt Ro Ri Rc Ds Dt Dw Dx Rw Rl Rd Av An kf
theorem mV:By C1.P.funcs.toList 104=some Try.f104:=by kernel_rfl
theorem EE (l:List Rn) (i:Nat) (hl:l.length≤200000000) (hi:i≤l.length):AS C1 117 [.c (.p (rR l)),yd (.int .i64 (i:Nat))] fun y=>∃k:Nat,y=yd (.int .i64 (k:Nat))∧i≤k∧k≤l.length∧badF (l.drop i)=l.drop k:=by
 refine Pf (by rfl) (by rfl) mG (by rfl) ?_
 simp only [Try.f117,List.length_cons,List.length_nil,List.replicate,List.cons_append,List.nil_append]
 simp -implicitDefEqProofs only [↓yP,yT]
 refine Ah (fun d e s=>∃(k:Nat),e=[.c (.p (rR l)),yd (.int .i64 (k:Nat)),Tp,Tp,Tp,Tp,Tp,Tp,Tp,Tp,Tp,Tp,Tp,Tp,Tp,Tp,Tp,Tp,Tp,Tp,Tp,Tp,Tp,Tp,Tp,Tp,Tp,Tp,Tp,Tp,Tp]∧s=[]∧k+d=l.length∧i≤k∧badF (l.drop i)=badF (l.drop k)) [true,true] (l.length - i) [] (by decide) (AC _) ⟨i,by (simp only [yE];try rfl),by (simp only [yE];try rfl),by omega,by omega,rfl⟩ ?_
 rintro d e s ⟨k,rfl,rfl,hd,hk,hx1⟩
 by_cases hkl:k<l.length
 ·obtain ⟨x,hx⟩:=get_lt hkl
  have hdc:=Am hx
  have t1:AN (l.length:Nat) (k:Nat)=false:=AE (by omega)
  have w1:AG .i64 ((k:Int)+1)=((k+1:Nat):Int):=AK (by omega)
  cases h1:AJ x.r 41 with
  |true=>
   rw [hdc,Jj h1] at hx1
   simp -implicitDefEqProofs only [↓yP,yT,Nat.reduceAdd,reduceCtorEq,t1,El hx,h1,w1]
   exact ⟨k+1,rfl,by omega,by omega,hx1⟩
  |false=>
   simp -implicitDefEqProofs only [↓yP,yT,Nat.reduceAdd,reduceCtorEq,t1,El hx,h1]
   refine AB (Eh l k (by omega)) (by rfl) fun y hy=>?_
   subst hy
   rw [GJ]
   cases h2:esc0 (l.drop k) with
   |true=>
    rw [hdc] at h2
    rw [hdc,K7 h1 h2] at hx1
    simp -implicitDefEqProofs only [↓yP,yT]
    refine AB (JN l k hl hkl) (by rfl) fun y hy=>?_
    obtain ⟨k',rfl,hk1,hk2,hk3⟩:=hy
    rw [hk3] at hx1
    simp -implicitDefEqProofs only [↓yP,yT]
    refine ⟨l.length - k',[],by omega,by decide,AC _,k',by (simp only [yE];try rfl),rfl,by omega,by omega,hx1⟩
   |false=>
    rw [hdc] at h2
    rw [hdc,H3 h1 h2] at hx1
    simp -implicitDefEqProofs only [↓yP,yT,w1]
    refine ⟨d - 1,[],by omega,by decide,AC _,k+1,by (simp only [yE];try rfl),rfl,by omega,by omega,hx1⟩
 ·have t1:AN (l.length:Nat) (k:Nat)=true:=AH (by omega)
  have hdn:l.drop k=[]:=List.drop_eq_nil_of_le (by omega)
  rw [hdn,GM] at hx1
  simp -implicitDefEqProofs only [↓yP,yT,reduceCtorEq,t1]
  exact ⟨k,rfl,by omega,by omega,by rw [hx1,hdn]⟩
def CH (l:List Rn):Tok×List Rn:=
 let p:=quotedF (hd l) (l.drop 1)
 (if p.2.1 then AM 6 (AO (A9 (used l p.2.2))) else AM 5 (AO p.1),p.2.2)
def bI (l:List Rn) (i:Nat) (F:Tok×List Rn) (y:YV):Prop:=∃(t:Tok) (k:Nat),y=.tup [t.yv,yd (.int .i64 (k:Nat))]∧i<k∧k≤l.length∧F=(t,l.drop k)
theorem Ld (l:List Rn) (i:Nat) (hl:l.length≤200000000) (hi:i<l.length):AS C1 77 [.c (.p (rR l)),yd (.int .i64 (i:Nat))] (bI l i (CH (l.drop i))):=by
 obtain ⟨x0,hx0⟩:=get_lt hi
 have w1:AG .i64 ((i:Int)+1)=((i+1:Nat):Int):=AK (by omega)
 have hq:CH (l.drop i)=(if (quotedF x0.r (l.drop (i+1))).2.1 then AM 6 (AO (A9 (used (l.drop i) (quotedF x0.r (l.drop (i+1))).2.2))) else AM 5 (AO (quotedF x0.r (l.drop (i+1))).1),(quotedF x0.r (l.drop (i+1))).2.2):=by
  rw [CH,Ax,CU hx0,List.drop_drop]
 rw [hq]
 refine Pf (by rfl) (by rfl) nE (by rfl) ?_
 simp only [Try.f77,List.length_cons,List.length_nil,List.replicate,List.cons_append,List.nil_append]
 simp -implicitDefEqProofs only [↓yP,yT,Nat.reduceAdd,Nat.reduceLeDiff,reduceCtorEq,El hx0,w1]
 refine Cb 8 1 (by decide) rfl ?_
 refine Ah (fun d e s=>∃(k:Nat) (bs:List Int),e=[.c (.p (rR l)),yd (.int .i64 (k:Nat)),Tp,Tp,.c (.ptr 0 0 0 0),Tp,yd (.int .i64 (i:Nat)),yd (.int .i64 x0.r),.c (.own 1 1 0 bs.length),Tp,Tp,Tp,Tp,Tp,Tp,Tp,Tp,Tp,Tp,Tp,Tp,Tp,Tp,Tp,Tp,Tp,Tp,Tp,Tp,Tp,Tp,Tp,Tp,Tp,Tp,Tp,Tp,Tp,Tp,Tp,Tp,Tp,Tp,Tp,Tp,Tp,Tp,Tp,Tp,Tp,Tp,Tp,Tp,Tp,Tp,Tp,Tp,Tp,Tp,Tp,Tp,Tp,Tp,Tp,Tp,Tp,Tp,Tp,Tp,Tp,Tp,Tp,Tp,Tp,Tp,Tp,Tp,Tp,Tp,Tp,Tp,Tp,Tp,Tp,Tp,Tp,Tp,Tp,Tp,Tp,Tp,Tp,Tp,Tp,Tp,Tp,Tp,Tp,Tp,Tp,Tp,Tp,Tp,Tp,Tp,Tp,Tp,Tp,Tp,Tp,Tp,Tp,Tp]∧s=[.box zt,.row 1 (bs.map eb)]∧k+d=l.length∧i<k∧bs.length≤4*k∧(quotedF x0.r (l.drop (i+1))).1=bs++(quotedF x0.r (l.drop k)).1∧(quotedF x0.r (l.drop (i+1))).2=(quotedF x0.r (l.drop k)).2) [true,true,false,false,true,false,true,true,true] (l.length - (i+1)) [0,1] (by decide) (AC _) ⟨i+1,[],by (simp only [yE];try rfl),by (simp only [yE];try rfl),by omega,by omega,by simp,by simp,rfl⟩ ?_
 rintro d e s ⟨k,bs,rfl,rfl,hd,hk,hb,hx1,hx2⟩
 by_cases hkl:k<l.length
 ·obtain ⟨x,hx⟩:=get_lt hkl
  have hdc:=Am hx
  have t1:AN (l.length:Nat) (k:Nat)=false:=AE (by omega)
  have v1:AG .i64 ((k:Int)+1)=((k+1:Nat):Int):=AK (by omega)
  have v2:AG .i64 ((k:Int)+2)=((k+2:Nat):Int):=A1 (i:=k+2) (by omega)
  cases h1:AJ x.r x0.r with
  |true=>
   rw [hdc,DX h1] at hx1 hx2
   simp -implicitDefEqProofs only [↓yP,yT,Nat.reduceAdd,Nat.reduceLeDiff,reduceCtorEq,t1,El hx,h1,v1,A6,Ar,EN,Jm]
   exact ⟨AM 5 (AO bs),k+1,rfl,by omega,by omega,by rw [hx1,hx2];simp⟩
  |false=>
   cases h2:AJ x.r 10 with
   |true=>
    rw [hdc,FL h1 h2,←hdc] at hx1 hx2
    simp -implicitDefEqProofs only [↓yP,yT,Nat.reduceAdd,reduceCtorEq,t1,El hx,h1,h2]
    refine AB (B7 l i k hl (by omega) (by omega)) (by rfl) fun y hy=>?_
    subst hy
    simp -implicitDefEqProofs only [↓yP,yT,Nat.reduceAdd,Nat.reduceLeDiff,reduceCtorEq,EN,Jm]
    exact ⟨AM 6 (AO (A9 ((l.drop i).take (k - i)))),k,rfl,by omega,by omega,by rw [hx2];simp only [if_true];rw [DR l (by omega) (by omega)]⟩
   |false=>
    cases h3:AJ x.r 92 with
    |true=>
     by_cases hk1:k+1<l.length
     ·obtain ⟨x2,hx2'⟩:=get_lt hk1
      have hdc2:=Am hx2'
      have t2:AJ ((k+1:Nat):Int) (l.length:Nat)=false:=AF (by omega)
      cases h4:AJ x2.r 10 with
      |true=>
       rw [hdc,hdc2,Dh h1 h2 h3 h4] at hx1 hx2
       simp -implicitDefEqProofs only [↓yP,yT,Nat.reduceAdd,reduceCtorEq,t1,El hx,El hx2',h1,h2,h3,h4,t2,v1,v2]
       refine ⟨d - 2,[0,1],by omega,by decide,AC _,k+2,bs,by (simp only [yE,reduceCtorEq];try rfl),by (simp only [yE];try rfl),by omega,by omega,by omega,hx1,hx2⟩
      |false=>
       rw [hdc,hdc2,DW h1 h2 h3 h4,←hdc2] at hx1 hx2
       simp -implicitDefEqProofs only [↓yP,yT,Nat.reduceAdd,reduceCtorEq,t1,El hx,El hx2',h1,h2,h3,h4,t2,v1]
       refine AB (JN l k hl hkl) (by rfl) fun y hy=>?_
       obtain ⟨k',rfl,hk1,hk2,hk3⟩:=hy
       rw [hk3] at hx1 hx2
       obtain ⟨p1,p2⟩:=Bj (BZ (l.drop (k+1))).1
       simp -implicitDefEqProofs only [↓yP,yT]
       refine Ec (els:=bs.map eb) (n':=(bs++Ao (BZ (l.drop (k+1))).1).length) (by simp) (by simp) (by rfl) (by rfl) (B8 (BZ (l.drop (k+1))).1 bs (by omega)) ?_
       simp -implicitDefEqProofs only [↓yP,yT,Nat.reduceAdd]
       refine ⟨l.length - k',[0,2],by omega,by decide,AC _,k',bs++Ao (BZ (l.drop (k+1))).1,by (simp only [yE,reduceCtorEq];try rfl),by (simp only [yE];try rfl),by omega,by omega,by simp;omega,by rw [hx1,List.append_assoc],hx2⟩
     ·have hdn:l.drop (k+1)=[]:=List.drop_eq_nil_of_le (by omega)
      rw [hdc,hdn,EL h1 h2 h3] at hx1 hx2
      have t2:AJ ((k+1:Nat):Int) (l.length:Nat)=true:=by rw [show k+1=l.length by omega];exact CV _
      simp -implicitDefEqProofs only [↓yP,yT,Nat.reduceAdd,reduceCtorEq,t1,El hx,h1,h2,h3,t2,v1]
      refine ⟨d - 1,[0,1],by omega,by decide,AC _,k+1,bs,by (simp only [yE,reduceCtorEq];try rfl),by (simp only [yE];try rfl),by omega,by omega,by omega,by rw [hdn,B5];exact hx1,by rw [hdn,B5];exact hx2⟩
    |false=>
     rw [hdc,DG h1 h2 h3] at hx1 hx2
     obtain ⟨p1,p2⟩:=Bj x.r
     simp -implicitDefEqProofs only [↓yP,yT,Nat.reduceAdd,reduceCtorEq,t1,El hx,h1,h2,h3]
     refine Ec (els:=bs.map eb) (n':=(bs++Ao x.r).length) (by simp) (by simp) (by rfl) (by rfl) (B8 x.r bs (by omega)) ?_
     simp -implicitDefEqProofs only [↓yP,yT,Nat.reduceAdd,v1]
     refine ⟨d - 1,[0,2],by omega,by decide,AC _,k+1,bs++Ao x.r,by (simp only [yE,reduceCtorEq];try rfl),by (simp only [yE];try rfl),by omega,by omega,by simp;omega,by rw [hx1,List.append_assoc],hx2⟩
 ·have t1:AN (l.length:Nat) (k:Nat)=true:=AH (by omega)
  have hdn:l.drop k=[]:=List.drop_eq_nil_of_le (by omega)
  rw [hdn,B5] at hx1 hx2
  simp -implicitDefEqProofs only [↓yP,yT,Nat.reduceAdd,Nat.reduceLeDiff,reduceCtorEq,t1,A6,Ar,EN,Jm]
  exact ⟨AM 5 (AO bs),k,rfl,by omega,by omega,by rw [hx1,hx2,hdn];simp⟩
def D7 (f s:List Rn):Tok×List Rn:=match urlF (Aq s) with
 |(some bs,r)=>(AM 7 (AO bs),r)
 |(none,r)=>(AM 8 (AO (A9 (used f r))),r)
theorem Ff {x:Rn} {r:List Rn} (h:Ad x.r=true):Aq (x::r)=Aq r:=by rw [Aq,List.dropWhile_cons_of_pos (by simpa using h)];rfl
theorem Gz {l:List Rn} {k:Nat} (h:Ad (DV l (k:Nat))=false):Aq (l.drop k)=l.drop k:=by
 cases hk:l[k]? with
 |none=>rw [List.drop_eq_nil_of_le (by simpa using hk)];rfl
 |some x=>rw [CU hk] at h;rw [Am hk,Aq,List.dropWhile_cons_of_neg (by simp [h])]
theorem Ji {l:List Rn} {k:Nat} (h:Ad (DV l (k:Nat))=true):Aq (l.drop k)=Aq (l.drop (k+1)):=by
 cases hk:l[k]? with
 |none=>rw [DZ (by have:l.length≤k:=(by simpa using hk);omega)] at h;cases h
 |some x=>rw [CU hk] at h;rw [Am hk,Ff h]
theorem Vs (o:Option (List Int)) (a b:List Int):(o.map (b++·)).map (a++·)=o.map ((a++b)++·):=by cases o<;>simp
theorem XN (l:List Rn) (f i:Nat) (hl:l.length≤200000000) (hf:f<i) (hi:i≤l.length):AS C1 104 [.c (.p (rR l)),yd (.int .i64 (f:Nat)),yd (.int .i64 (i:Nat))] (bI l f (D7 (l.drop f) (l.drop i))):=by
 refine Pf (by rfl) (by rfl) mV (by rfl) ?_
 simp only [Try.f104,List.length_cons,List.length_nil,List.replicate,List.cons_append,List.nil_append]
 simp -implicitDefEqProofs only [↓yP,yT,Nat.reduceLeDiff]
 refine Ah (fun d e s=>∃(k:Nat),e=[.c (.p (rR l)),yd (.int .i64 (f:Nat)),yd (.int .i64 (k:Nat)),Tp,Tp,Tp,.c (.ptr 0 0 0 0),Tp,Tp,Tp,Tp,Tp,Tp,Tp,Tp,Tp,Tp,Tp,Tp,Tp,Tp,Tp,Tp,Tp,Tp,Tp,Tp,Tp,Tp,Tp,Tp,Tp,Tp,Tp,Tp,Tp,Tp,Tp,Tp,Tp,Tp,Tp,Tp,Tp,Tp,Tp,Tp,Tp,Tp,Tp,Tp,Tp,Tp,Tp,Tp,Tp,Tp,Tp,Tp,Tp,Tp,Tp,Tp,Tp,Tp,Tp,Tp,Tp,Tp,Tp,Tp,Tp,Tp,Tp,Tp,Tp,Tp,Tp,Tp,Tp,Tp,Tp,Tp,Tp,Tp,Tp,Tp,Tp,Tp,Tp,Tp,Tp,Tp,Tp,Tp,Tp,Tp,Tp,Tp,Tp,Tp,Tp,Tp,Tp,Tp,Tp,Tp,Tp,Tp,Tp,Tp,Tp,Tp,Tp,Tp,Tp,Tp,Tp,Tp,Tp,Tp,Tp,Tp,Tp,Tp,Tp,Tp,Tp,Tp,Tp,Tp,Tp,Tp,Tp,Tp,Tp,Tp,Tp,Tp,Tp,Tp]∧s=[.box zt]∧k+d=l.length∧f<k∧Aq (l.drop i)=Aq (l.drop k)) [true,true,true,false,false,false,true] (l.length - i) [0] (by decide) (AC _) ⟨i,by (simp only [yE];try rfl),by (simp only [yE];try rfl),by omega,by omega,rfl⟩ ?_
 rintro d e s ⟨k,rfl,rfl,hd,hk,hbk⟩
 have w1:AG .i64 ((k:Int)+1)=((k+1:Nat):Int):=AK (by omega)
 simp -implicitDefEqProofs only [↓yP,yT]
 refine AB (BC l _) (by rfl) fun y hy=>?_
 subst hy
 simp -implicitDefEqProofs only [yT]
 refine AB (CY _) (by rfl) fun y hy=>?_
 subst hy
 cases h1:Ad (DV l (k:Nat)) with
 |true=>
  have hkl:k<l.length:=Nat.lt_of_not_le fun hle=>by
   rw [DZ (by omega)] at h1
   exact absurd h1 (by decide)
  simp -implicitDefEqProofs only [↓yP,yT,w1]
  refine ⟨d - 1,[0],by omega,by decide,AC _,k+1,by (simp only [yE];try rfl),by (simp only [yE];try rfl),by omega,by omega,by rw [hbk,Ji h1]⟩
 |false=>
  rw [Gz h1] at hbk
  simp -implicitDefEqProofs only [↓yP,yT]
  refine Cb 8 1 (by decide) rfl ?_
  refine Ah (fun d e s=>∃(k:Nat) (bs:List Int),e=[.c (.p (rR l)),yd (.int .i64 (f:Nat)),yd (.int .i64 (k:Nat)),Tp,Tp,Tp,.c (.ptr 0 0 0 0),Tp,.c (.own 1 1 0 bs.length),Tp,Tp,Tp,Tp,Tp,Tp,Tp,Tp,Tp,Tp,Tp,Tp,Tp,Tp,Tp,Tp,Tp,Tp,Tp,Tp,Tp,Tp,Tp,Tp,Tp,Tp,Tp,Tp,Tp,Tp,Tp,Tp,Tp,Tp,Tp,Tp,Tp,Tp,Tp,Tp,Tp,Tp,Tp,Tp,Tp,Tp,Tp,Tp,Tp,Tp,Tp,Tp,Tp,Tp,Tp,Tp,Tp,Tp,Tp,Tp,Tp,Tp,Tp,Tp,Tp,Tp,Tp,Tp,Tp,Tp,Tp,Tp,Tp,Tp,Tp,Tp,Tp,Tp,Tp,Tp,Tp,Tp,Tp,Tp,Tp,Tp,Tp,Tp,Tp,Tp,Tp,Tp,Tp,Tp,Tp,Tp,Tp,Tp,Tp,Tp,Tp,Tp,Tp,Tp,Tp,Tp,Tp,Tp,Tp,Tp,Tp,Tp,Tp,Tp,Tp,Tp,Tp,Tp,Tp,Tp,Tp,Tp,Tp,Tp,Tp,Tp,Tp,Tp,Tp,Tp,Tp,Tp]∧s=[.box zt,.row 1 (bs.map eb)]∧k+d=l.length∧f<k∧bs.length≤4*k∧urlF (Aq (l.drop i))=((urlF (l.drop k)).1.map (bs++·),(urlF (l.drop k)).2)) [true,true,true,false,false,false,true,false,true] d [0,1] (by decide) (AC _) ⟨k,[],by (simp only [yE];try rfl),by (simp only [yE];try rfl),by omega,by omega,by simp,by rw [hbk];cases urlF (l.drop k) with|mk a b=>cases a<;>rfl⟩ ?_
  clear hbk h1 w1 hd hk k d
  rintro d e s ⟨k,bs,rfl,rfl,hd,hk,hb,hx1⟩
  by_cases hkl:k<l.length
  ·obtain ⟨x,hx⟩:=get_lt hkl
   have hdc:=Am hx
   have t1:AN (l.length:Nat) (k:Nat)=false:=AE (by omega)
   have w1:AG .i64 ((k:Int)+1)=((k+1:Nat):Int):=AK (by omega)
   cases h1:AJ x.r 41 with
   |true=>
    rw [hdc,Er h1] at hx1
    simp -implicitDefEqProofs only [↓yP,yT,Nat.reduceAdd,Nat.reduceLeDiff,reduceCtorEq,t1,El hx,h1,w1,A6,Ar,EN,Jm]
    exact ⟨AM 7 (AO bs),k+1,rfl,by omega,by omega,by rw [D7,hx1];simp⟩
   |false=>
    simp -implicitDefEqProofs only [↓yP,yT,Nat.reduceAdd,reduceCtorEq,t1,El hx,h1]
    refine AB (CY _) (by rfl) fun y hy=>?_
    subst hy
    cases h2:Ad x.r with
    |true=>
     simp -implicitDefEqProofs only [↓yP,yT]
     refine Ah (fun d' e s=>∃(j:Nat),e=[.c (.p (rR l)),yd (.int .i64 (f:Nat)),Tp,Tp,Tp,Tp,.c (.ptr 0 0 0 0),Tp,.c (.own 1 1 0 bs.length),Tp,yd (.int .i64 (j:Nat)),Tp,Tp,Tp,Tp,Tp,Tp,Tp,Tp,Tp,Tp,Tp,Tp,Tp,Tp,Tp,Tp,Tp,Tp,Tp,Tp,Tp,Tp,Tp,Tp,Tp,Tp,Tp,Tp,Tp,Tp,Tp,Tp,Tp,Tp,Tp,Tp,Tp,Tp,Tp,Tp,Tp,Tp,Tp,Tp,Tp,Tp,Tp,Tp,Tp,Tp,Tp,Tp,Tp,Tp,Tp,Tp,Tp,Tp,Tp,Tp,Tp,Tp,Tp,Tp,Tp,Tp,Tp,Tp,Tp,Tp,Tp,Tp,Tp,Tp,Tp,Tp,Tp,Tp,Tp,Tp,Tp,Tp,Tp,Tp,Tp,Tp,Tp,Tp,Tp,Tp,Tp,Tp,Tp,Tp,Tp,Tp,Tp,Tp,Tp,Tp,Tp,Tp,Tp,Tp,Tp,Tp,Tp,Tp,Tp,Tp,Tp,Tp,Tp,Tp,Tp,Tp,Tp,Tp,Tp,Tp,Tp,Tp,Tp,Tp,Tp,Tp,Tp,Tp,Tp,Tp]∧s=[.box zt,.row 1 (bs.map eb)]∧j+d'=l.length∧k≤j∧(j=k→Ad (DV l (j:Nat))=true)∧Aq (l.drop j)=Aq (l.drop (k+1))) [true,true,false,false,false,false,true,false,true,false,true] d [0,1] (by decide) (AC _) ⟨k,by (simp only [yE,reduceCtorEq];try rfl),by (simp only [yE];try rfl),by omega,by omega,fun _=>by rw [CU hx];exact h2,by rw [hdc,Ff h2]⟩ ?_
     rintro d' e s ⟨j,rfl,rfl,hd',hj,hjk,hbj⟩
     have v1:AG .i64 ((j:Int)+1)=((j+1:Nat):Int):=AK (by omega)
     simp -implicitDefEqProofs only [↓yP,yT]
     refine AB (BC l _) (by rfl) fun y hy=>?_
     subst hy
     simp -implicitDefEqProofs only [yT]
     refine AB (CY _) (by rfl) fun y hy=>?_
     subst hy
     cases h3:Ad (DV l (j:Nat)) with
     |true=>
      have hjl:j<l.length:=Nat.lt_of_not_le fun hle=>by
       rw [DZ (by omega)] at h3
       exact absurd h3 (by decide)
      simp -implicitDefEqProofs only [↓yP,yT,v1]
      refine ⟨d' - 1,[0,1],by omega,by decide,AC _,j+1,by (simp only [yE,reduceCtorEq];try rfl),by (simp only [yE];try rfl),by omega,by omega,fun h=>by omega,by rw [←hbj,Ji h3]⟩
     |false=>
      rw [Gz h3] at hbj
      have hkj:k<j:=by
       rcases Nat.lt_or_ge k j with g|g
       ·exact g
       ·rw [hjk (by omega)] at h3;cases h3
      by_cases hjl:j<l.length
      ·obtain ⟨z,hz⟩:=get_lt hjl
       have hdz:=Am hz
       rw [hdz] at hbj
       have t3:AN (l.length:Nat) (j:Nat)=false:=AE (by omega)
       cases h4:AJ z.r 41 with
       |true=>
        rw [hdc,HX h1 h2 hbj.symm h4] at hx1
        simp -implicitDefEqProofs only [↓yP,yT,Nat.reduceAdd,reduceCtorEq,t3,El hz,h4]
        refine ⟨d',[0,1],by omega,by decide,AC _,j,bs,by (simp only [yE,reduceCtorEq];try rfl),by (simp only [yE];try rfl),by omega,by omega,by omega,by rw [hdz,Er h4];exact hx1⟩
       |false=>
        rw [hdc,Hb h1 h2 hbj.symm h4,←hdz] at hx1
        simp -implicitDefEqProofs only [↓yP,yT,Nat.reduceAdd,reduceCtorEq,t3,El hz,h4]
        refine AB (EE l j hl (by omega)) (by rfl) fun y hy=>?_
        obtain ⟨k',rfl,hk1,hk2,hk3⟩:=hy
        rw [hk3] at hx1
        simp -implicitDefEqProofs only [↓yP,yT]
        refine AB (B7 l f k' hl (by omega) (by omega)) (by rfl) fun y hy=>?_
        subst hy
        simp -implicitDefEqProofs only [↓yP,yT,Nat.reduceAdd,Nat.reduceLeDiff,reduceCtorEq,EN,Jm]
        exact ⟨AM 8 (AO (A9 ((l.drop f).take (k' - f)))),k',rfl,by omega,by omega,by rw [D7,hx1];simp only [Option.map_none];rw [DR l (by omega) (by omega)]⟩
      ·have t3:AN (l.length:Nat) (j:Nat)=true:=AH (by omega)
       have hdn:l.drop j=[]:=List.drop_eq_nil_of_le (by omega)
       rw [hdc,He h1 h2 (by rw [←hbj,hdn])] at hx1
       simp -implicitDefEqProofs only [↓yP,yT,t3]
       refine ⟨d',[0,1],by omega,by decide,AC _,j,bs,by (simp only [yE,reduceCtorEq];try rfl),by (simp only [yE];try rfl),by omega,by omega,by omega,by rw [hdn,Dc];exact hx1⟩
    |false=>
     cases q1:AJ x.r 34 with
     |true=>
      have hb0:Bo x (l.drop (k+1))=true:=by simp only [Bo,q1,Bool.true_or]
      simp -implicitDefEqProofs only [↓yP,yT,q1]
      have hu0:urlF (l.drop k)=(none,badF (l.drop k)):=by rw [hdc,DN h1 h2 hb0]
      refine AB (EE l k hl (by omega)) (by rfl) fun y hy=>?_
      obtain ⟨k',rfl,hk1,hk2,hk3⟩:=hy
      rw [hk3] at hu0
      rw [hu0] at hx1
      simp -implicitDefEqProofs only [↓yP,yT]
      refine AB (B7 l f k' hl (by omega) (by omega)) (by rfl) fun y hy=>?_
      subst hy
      simp -implicitDefEqProofs only [↓yP,yT,Nat.reduceAdd,Nat.reduceLeDiff,reduceCtorEq,EN,Jm]
      exact ⟨AM 8 (AO (A9 ((l.drop f).take (k' - f)))),k',rfl,by omega,by omega,by rw [D7,hx1];simp only [Option.map_none];rw [DR l (by omega) (by omega)]⟩
     |false=>
     cases q2:AJ x.r 39 with
     |true=>
      have hb0:Bo x (l.drop (k+1))=true:=by simp only [Bo,q1,q2,Bool.true_or,Bool.or_true]
      simp -implicitDefEqProofs only [↓yP,yT,q1,q2]
      have hu0:urlF (l.drop k)=(none,badF (l.drop k)):=by rw [hdc,DN h1 h2 hb0]
      refine AB (EE l k hl (by omega)) (by rfl) fun y hy=>?_
      obtain ⟨k',rfl,hk1,hk2,hk3⟩:=hy
      rw [hk3] at hu0
      rw [hu0] at hx1
      simp -implicitDefEqProofs only [↓yP,yT]
      refine AB (B7 l f k' hl (by omega) (by omega)) (by rfl) fun y hy=>?_
      subst hy
      simp -implicitDefEqProofs only [↓yP,yT,Nat.reduceAdd,Nat.reduceLeDiff,reduceCtorEq,EN,Jm]
      exact ⟨AM 8 (AO (A9 ((l.drop f).take (k' - f)))),k',rfl,by omega,by omega,by rw [D7,hx1];simp only [Option.map_none];rw [DR l (by omega) (by omega)]⟩
     |false=>
     cases q3:AJ x.r 40 with
     |true=>
      have hb0:Bo x (l.drop (k+1))=true:=by simp only [Bo,q1,q2,q3,Bool.true_or,Bool.or_true,Bool.false_or]
      simp -implicitDefEqProofs only [↓yP,yT,q1,q2,q3]
      have hu0:urlF (l.drop k)=(none,badF (l.drop k)):=by rw [hdc,DN h1 h2 hb0]
      refine AB (EE l k hl (by omega)) (by rfl) fun y hy=>?_
      obtain ⟨k',rfl,hk1,hk2,hk3⟩:=hy
      rw [hk3] at hu0
      rw [hu0] at hx1
      simp -implicitDefEqProofs only [↓yP,yT]
      refine AB (B7 l f k' hl (by omega) (by omega)) (by rfl) fun y hy=>?_
      subst hy
      simp -implicitDefEqProofs only [↓yP,yT,Nat.reduceAdd,Nat.reduceLeDiff,reduceCtorEq,EN,Jm]
      exact ⟨AM 8 (AO (A9 ((l.drop f).take (k' - f)))),k',rfl,by omega,by omega,by rw [D7,hx1];simp only [Option.map_none];rw [DR l (by omega) (by omega)]⟩
     |false=>
     cases q4:AN 9 x.r with
     |false=>
      have hb0:Bo x (l.drop (k+1))=true:=by simp only [Bo,q1,q2,q3,q4,Bool.true_or,Bool.or_true,Bool.not_false,Bool.false_or]
      simp -implicitDefEqProofs only [↓yP,yT,q1,q2,q3,q4]
      have hu0:urlF (l.drop k)=(none,badF (l.drop k)):=by rw [hdc,DN h1 h2 hb0]
      refine AB (EE l k hl (by omega)) (by rfl) fun y hy=>?_
      obtain ⟨k',rfl,hk1,hk2,hk3⟩:=hy
      rw [hk3] at hu0
      rw [hu0] at hx1
      simp -implicitDefEqProofs only [↓yP,yT]
      refine AB (B7 l f k' hl (by omega) (by omega)) (by rfl) fun y hy=>?_
      subst hy
      simp -implicitDefEqProofs only [↓yP,yT,Nat.reduceAdd,Nat.reduceLeDiff,reduceCtorEq,EN,Jm]
      exact ⟨AM 8 (AO (A9 ((l.drop f).take (k' - f)))),k',rfl,by omega,by omega,by rw [D7,hx1];simp only [Option.map_none];rw [DR l (by omega) (by omega)]⟩
     |true=>
     cases q5:AJ x.r 11 with
     |true=>
      have hb0:Bo x (l.drop (k+1))=true:=by simp only [Bo,q1,q2,q3,q4,q5,Bool.true_or,Bool.or_true,Bool.false_or]
      simp -implicitDefEqProofs only [↓yP,yT,q1,q2,q3,q4,q5]
      have hu0:urlF (l.drop k)=(none,badF (l.drop k)):=by rw [hdc,DN h1 h2 hb0]
      refine AB (EE l k hl (by omega)) (by rfl) fun y hy=>?_
      obtain ⟨k',rfl,hk1,hk2,hk3⟩:=hy
      rw [hk3] at hu0
      rw [hu0] at hx1
      simp -implicitDefEqProofs only [↓yP,yT]
      refine AB (B7 l f k' hl (by omega) (by omega)) (by rfl) fun y hy=>?_
      subst hy
      simp -implicitDefEqProofs only [↓yP,yT,Nat.reduceAdd,Nat.reduceLeDiff,reduceCtorEq,EN,Jm]
      exact ⟨AM 8 (AO (A9 ((l.drop f).take (k' - f)))),k',rfl,by omega,by omega,by rw [D7,hx1];simp only [Option.map_none];rw [DR l (by omega) (by omega)]⟩
     |false=>
     cases q6:AN 14 x.r<;>cases q7:AN 32 x.r
     case true.false=>
      have hb0:Bo x (l.drop (k+1))=true:=by simp only [Bo,q1,q2,q3,q4,q5,q6,q7,Bool.true_or,Bool.or_true,Bool.not_false,Bool.and_self,Bool.false_or]
      simp -implicitDefEqProofs only [↓yP,yT,q1,q2,q3,q4,q5,q6,q7]
      have hu0:urlF (l.drop k)=(none,badF (l.drop k)):=by rw [hdc,DN h1 h2 hb0]
      refine AB (EE l k hl (by omega)) (by rfl) fun y hy=>?_
      obtain ⟨k',rfl,hk1,hk2,hk3⟩:=hy
      rw [hk3] at hu0
      rw [hu0] at hx1
      simp -implicitDefEqProofs only [↓yP,yT]
      refine AB (B7 l f k' hl (by omega) (by omega)) (by rfl) fun y hy=>?_
      subst hy
      simp -implicitDefEqProofs only [↓yP,yT,Nat.reduceAdd,Nat.reduceLeDiff,reduceCtorEq,EN,Jm]
      exact ⟨AM 8 (AO (A9 ((l.drop f).take (k' - f)))),k',rfl,by omega,by omega,by rw [D7,hx1];simp only [Option.map_none];rw [DR l (by omega) (by omega)]⟩
     all_goals
      cases q8:AJ x.r 127 with
      |true=>
       have hb0:Bo x (l.drop (k+1))=true:=by simp only [Bo,q1,q2,q3,q4,q5,q6,q7,q8,Bool.true_or,Bool.or_true,Bool.not_false,Bool.true_and,Bool.false_or]
       simp -implicitDefEqProofs only [↓yP,yT,q1,q2,q3,q4,q5,q6,q7,q8]
       have hu0:urlF (l.drop k)=(none,badF (l.drop k)):=by rw [hdc,DN h1 h2 hb0]
       refine AB (EE l k hl (by omega)) (by rfl) fun y hy=>?_
       obtain ⟨k',rfl,hk1,hk2,hk3⟩:=hy
       rw [hk3] at hu0
       rw [hu0] at hx1
       simp -implicitDefEqProofs only [↓yP,yT]
       refine AB (B7 l f k' hl (by omega) (by omega)) (by rfl) fun y hy=>?_
       subst hy
       simp -implicitDefEqProofs only [↓yP,yT,Nat.reduceAdd,Nat.reduceLeDiff,reduceCtorEq,EN,Jm]
       exact ⟨AM 8 (AO (A9 ((l.drop f).take (k' - f)))),k',rfl,by omega,by omega,by rw [D7,hx1];simp only [Option.map_none];rw [DR l (by omega) (by omega)]⟩
      |false=>
      cases q9:AJ x.r 92 with
      |false=>
       have hb0:Bo x (l.drop (k+1))=false:=by simp only [Bo,q1,q2,q3,q4,q5,q6,q7,q8,q9,Bool.not_true,Bool.not_false,Bool.or_false,Bool.and_true,Bool.false_and,Bool.and_false]
       rw [hdc,Eb h1 h2 hb0 q9] at hx1
       obtain ⟨p1,p2⟩:=Bj x.r
       simp -implicitDefEqProofs only [↓yP,yT,q1,q2,q3,q4,q5,q6,q7,q8,q9]
       refine Ec (els:=bs.map eb) (n':=(bs++Ao x.r).length) (by simp) (by simp) (by rfl) (by rfl) (B8 x.r bs (by omega)) ?_
       simp -implicitDefEqProofs only [↓yP,yT,Nat.reduceAdd,w1]
       refine ⟨d - 1,[0,2],by omega,by decide,AC _,k+1,bs++Ao x.r,by (simp only [yE,reduceCtorEq];try rfl),by (simp only [yE];try rfl),by omega,by omega,by simp;omega,by rw [hx1,Vs]⟩
      |true=>
       simp -implicitDefEqProofs only [↓yP,yT,q1,q2,q3,q4,q5,q6,q7,q8,q9]
       refine AB (Eh l k (by omega)) (by rfl) fun y hy=>?_
       subst hy
       rw [GJ]
       cases q10:esc0 (l.drop k) with
       |false=>
        rw [hdc] at q10
        have hb0:Bo x (l.drop (k+1))=true:=by simp only [Bo,q9,q10,Bool.or_true,Bool.not_false,Bool.and_self]
        simp -implicitDefEqProofs only [↓yP,yT]
        have hu0:urlF (l.drop k)=(none,badF (l.drop k)):=by rw [hdc,DN h1 h2 hb0]
        refine AB (EE l k hl (by omega)) (by rfl) fun y hy=>?_
        obtain ⟨k',rfl,hk1,hk2,hk3⟩:=hy
        rw [hk3] at hu0
        rw [hu0] at hx1
        simp -implicitDefEqProofs only [↓yP,yT]
        refine AB (B7 l f k' hl (by omega) (by omega)) (by rfl) fun y hy=>?_
        subst hy
        simp -implicitDefEqProofs only [↓yP,yT,Nat.reduceAdd,Nat.reduceLeDiff,reduceCtorEq,EN,Jm]
        exact ⟨AM 8 (AO (A9 ((l.drop f).take (k' - f)))),k',rfl,by omega,by omega,by rw [D7,hx1];simp only [Option.map_none];rw [DR l (by omega) (by omega)]⟩
       |true=>
        rw [hdc] at q10
        have hb0:Bo x (l.drop (k+1))=false:=by simp only [Bo,q1,q2,q3,q4,q5,q6,q7,q8,q9,q10,Bool.not_true,Bool.not_false,Bool.or_false,Bool.and_true,Bool.and_false]
        rw [hdc,Fe h1 h2 hb0 q9] at hx1
        simp -implicitDefEqProofs only [↓yP,yT,q9]
        refine AB (JN l k hl hkl) (by rfl) fun y hy=>?_
        obtain ⟨k',rfl,hk1,hk2,hk3⟩:=hy
        rw [hk3] at hx1
        obtain ⟨p1,p2⟩:=Bj (BZ (l.drop (k+1))).1
        simp -implicitDefEqProofs only [↓yP,yT]
        refine Ec (els:=bs.map eb) (n':=(bs++Ao (BZ (l.drop (k+1))).1).length) (by simp) (by simp) (by rfl) (by rfl) (B8 (BZ (l.drop (k+1))).1 bs (by omega)) ?_
        simp -implicitDefEqProofs only [↓yP,yT,Nat.reduceAdd]
        refine ⟨l.length - k',[0,2],by omega,by decide,AC _,k',bs++Ao (BZ (l.drop (k+1))).1,by (simp only [yE,reduceCtorEq];try rfl),by (simp only [yE];try rfl),by omega,by omega,by simp;omega,by rw [hx1,Vs]⟩
  ·have t1:AN (l.length:Nat) (k:Nat)=true:=AH (by omega)
   have hdn:l.drop k=[]:=List.drop_eq_nil_of_le (by omega)
   rw [hdn,Dc] at hx1
   simp -implicitDefEqProofs only [↓yP,yT,Nat.reduceAdd,Nat.reduceLeDiff,reduceCtorEq,t1,A6,Ar,EN,Jm]
   exact ⟨AM 7 (AO bs),k,rfl,by omega,by omega,by rw [D7,hx1,hdn];simp⟩
end Go.Vx.Seat
end
section
open Go Go.Vx Go.Proofs
namespace Go.Vx.Seat
section
variable {k:Nat} {g h h':H}
theorem i9 {lo lo':Nat} {args args':List Value} {v:Value} {h1:H} (hx:KD lo args h=some (v,h1)) (hlo:lo'≤lo+k) (ha:L2 (ShV k) args args') (hh:ShH k g h h'):
  ∃v' h1',KD lo' args' h'=some (v',h1')∧ShV k v v'∧ShH k g h1 h1':=by
 unfold KD at hx
 split at hx
 ·rename_i i ax sx
  match args',ha.1,ha with
  |[x,y,z],_,ha=>
   obtain ⟨_,_,rfl⟩:=(ha.2 0 _ _ rfl rfl).nilE
   have e2:=(ha.2 1 _ _ rfl rfl).dryE rfl
   have h3:ShV k (.slice (some ax) 1 sx) z:=ha.2 2 _ _ rfl rfl
   have e3:=h3.slcE
   subst e2;subst e3
   split at hx
   ·rename_i hi
    obtain ⟨v',h1',k1,k2,k3⟩:=Pd (P:=Try.prog) (t:=22) (xt:=22) hh hlo (.of_dry (v:=.slice none 0 0) rfl) h3 v h1 hx
    exact ⟨v',h1',by simp only [KD];rw [if_pos hi];exact k1,k2,k3⟩
   ·cases hx
 ·rename_i a n s i ax sx
  match args',ha.1,ha with
  |[x,y,z],_,ha=>
   have e1:=(ha.2 0 _ _ rfl rfl).slcE
   have e2:=(ha.2 1 _ _ rfl rfl).dryE rfl
   have e3:=(show ShV k (.slice (some ax) 1 sx) z from ha.2 2 _ _ rfl rfl).slcE
   subst e1;subst e2;subst e3
   simp only [H.getK_eq] at hx
   split at hx
   ·rename_i b bx hg hgx
    obtain ⟨cs,k1,k2⟩:=hh.getE hg
    obtain ⟨cx,k3,k4⟩:=hh.getE hgx
    split at hx
    ·rename_i hc
     cases hx
     obtain ⟨c1,c2,c3,c4,c5,c6,c7,c8,c9,c10,c11⟩:=hc
     refine ⟨_,_,?_,ShV.new hh 0 _ _,(hh.kill hg).push (((k4.drop _).take _).append ((k2.drop _).take _))⟩
     unfold KD
     simp only [H.getK_eq,Xs,k1,k3]
     exact if_pos ⟨c1,c2,c3,c4,c5,c6,by omega,c8,by omega,by rw [←k2.1];exact c10,by rw [←k4.1];exact c11⟩
    ·cases hx
   ·cases hx
 ·cases hx
end
theorem JO:RH C1:=by
 intro f tg ht k g lo lo' args args' h h' v h1 hx hlo ha hh
 have ht':(if f=61 then some KD else if f=35 then some Ig else if f=8 then some (LO (.bool true)) else C0.told f)=some tg:=ht
 split at ht'
 ·cases ht';exact i9 hx hlo ha hh
 ·split at ht'
  ·cases ht'
   unfold Ig at hx
   split at hx
   ·split at hx
    ·rename_i s t hs
     cases hx
     match args',ha.1,ha with
     |[x,y],_,ha=>
      have e1:=(ha.2 0 _ _ rfl rfl).dryE rfl
      have e2:=(ha.2 1 _ _ rfl rfl).dryE rfl
      subst e1;subst e2
      exact ⟨_,h',by simp only [Ig,if_pos hs],.of_dry rfl,hh⟩
    ·cases hx
   ·cases hx
  ·split at ht'
   ·cases ht'
    unfold LO at hx
    cases args with
    |nil=>
     have:args'=[]:=List.eq_nil_of_length_eq_zero ha.1.symm
     subst this
     cases hx
     exact ⟨_,h',rfl,.of_dry rfl,hh⟩
    |cons a l=>cases hx
   ·have h0:C0.told f=if f=0 then some (fun _ _ _=>none) else none:=rfl
    rw [h0] at ht'
    split at ht'
    ·cases ht';cases hx
    ·cases ht'
end Go.Vx.Seat
end
section
end
section
open Go Go.Vx Go.Proofs
set_option maxRecDepth 10000
set_option maxHeartbeats 4000000
namespace Go.Vx.Seat
attribute [local irreducible] Rg Rt Ro Ri Rc Ds Dt Dw Dx Rw Rl Rd Av An kf
theorem oF:By C1.P.funcs.toList 84=some Try.f84:=by kernel_rfl
def Aj (s:ByteArray):List Int:=(AA s).map fun c=>(c.toNat:Nat)
theorem Br (s:ByteArray):(BE s).map (fun v=>[PC.d v])=(Aj s).map eb:=by simp [BE,Aj,eb]
theorem B4 (s:ByteArray):(Aj s).length=(AA s).length:=by simp [Aj]
theorem Uy (s:ByteArray) (hs:(AA s).length≤2000000000):AS C1 22 [yd (.string s)] fun y=>∃s':ByteArray,y=yd (.string s')∧(AA s').length=(AA s).length:=by
 have b0:(AA s).length≤70368744177664:=by omega
 refine Pf (by rfl) (by rfl) pW (by rfl) ?_
 simp only [Try.f22,List.length_cons,List.length_nil,List.replicate,List.cons_append,List.nil_append]
 simp -implicitDefEqProofs only [↓yP,yT,b0,Br]
 refine Ah (fun d e st=>∃(i:Nat) (bs:List Int),e=[Tp,Tp,Tp,.c (.own 0 1 0 bs.length),yd (.int .i64 (i:Nat)),Tp,Tp,Tp,Tp,Tp,Tp,Tp,Tp,Tp,Tp,Tp,Tp,Tp,Tp,Tp,Tp,Tp,Tp,Tp,Tp,Tp,Tp,Tp,Tp,Tp,Tp,Tp,Tp,Tp,Tp]∧st=[.row 1 (bs.map eb)]∧i+d=bs.length∧bs.length=(AA s).length) [false,false,false,true,true] (AA s).length [0] (by decide) (AC _) ⟨0,Aj s,by rw [B4];(simp only [yE];try rfl),by (simp only [yE];try rfl),by rw [B4];omega,B4 s⟩ ?_
 rintro d e st ⟨i,bs,rfl,rfl,hd,hb⟩
 by_cases hi:i<bs.length
 ·obtain ⟨c,hc⟩:=get_lt hi
  have t1:AN (bs.length:Nat) (i:Nat)=false:=AE (by omega)
  have t0:(0:Int)≤(i:Nat):=by omega
  have t2:((i:Nat):Int)<(bs.length:Nat):=by omega
  have w1:AG .i64 ((i:Int)+1)=((i+1:Nat):Int):=AK (by omega)
  cases h1:AN 65 c with
  |false=>
   simp -implicitDefEqProofs only [↓yP,yT,t1,t0,t2,C4 hc,h1,w1]
   refine ⟨d - 1,[0],by omega,by decide,AC _,i+1,bs,by (simp only [yE];try rfl),by (simp only [yE];try rfl),by omega,hb⟩
  |true=>
   cases h2:AN c 90 with
   |false=>
    simp -implicitDefEqProofs only [↓yP,yT,t1,t0,t2,C4 hc,h1,h2,w1]
    refine ⟨d - 1,[0],by omega,by decide,AC _,i+1,bs,by (simp only [yE];try rfl),by (simp only [yE];try rfl),by omega,hb⟩
   |true=>
    simp -implicitDefEqProofs only [↓yP,yT,t1,t0,t2,C4 hc,h1,h2,w1]
    refine ⟨d - 1,[0],by omega,by decide,AC _,i+1,bs.set i (AG .u8 (c+32)),?_,?_,by simp;omega,by simp;omega⟩
    ·simp only [yE,List.length_set]
    ·simp only [yE,List.map_set];rfl
 ·have t1:AN (bs.length:Nat) (i:Nat)=true:=AH (by omega)
  simp -implicitDefEqProofs only [↓yP,yT,reduceCtorEq,t1,A6,Ar]
  exact ⟨AO bs,rfl,by rw [AW];exact hb⟩
end Go.Vx.Seat
end
section
open Go Go.Vx Go.Proofs
set_option maxRecDepth 10000
set_option maxHeartbeats 4000000
namespace Go.Vx.Seat
attribute [local irreducible] Rg Rt Ro Ri Rc Ds Dt Dw Dx Rw Rl Rd Av An kf
theorem At (a b:ByteArray):Cr .eql a b=some (.bool (AA a==AA b)):=rfl
end Go.Vx.Seat
end
section
open Go Go.Vx Go.Proofs
set_option maxRecDepth 10000
set_option maxHeartbeats 4000000
namespace Go.Vx.Seat
attribute [local irreducible] Rg Rt Ro Ri Rc Ds Dt Dw Dx Rw Rl Rd Av An kf
theorem gO:By C1.P.funcs.toList 115=some Try.f115:=by kernel_rfl
theorem gQ:By C1.P.funcs.toList 116=some Try.f116:=by kernel_rfl
theorem iR:By C1.P.funcs.toList 94=some Try.f94:=by kernel_rfl
theorem kT:By C1.P.funcs.toList 95=some Try.f95:=by kernel_rfl
theorem lH:By C1.P.funcs.toList 114=some Try.f114:=by kernel_rfl
theorem l9:By C1.P.funcs.toList 93=some Try.f93:=by kernel_rfl
theorem kP:By C1.P.funcs.toList 122=some Try.f122:=by kernel_rfl
theorem fI:By C1.P.funcs.toList 98=some Try.f98:=by kernel_rfl
theorem AD (l:List UInt8):AA (AI l)=l:=rfl
theorem Ke (s:ByteArray) (i:Nat) (hs:(AA s).length≤20000000000) (hi:i≤(AA s).length):AS C1 115 [yd (.string s),yd (.int .i64 (i:Nat))] fun y=>∃k:Nat,y=yd (.int .i64 (k:Nat))∧i≤k∧k≤(AA s).length:=by
 refine Pf (by rfl) (by rfl) gO (by rfl) ?_
 simp only [Try.f115,List.length_cons,List.length_nil,List.replicate,List.cons_append,List.nil_append]
 simp -implicitDefEqProofs only [↓yP,yT]
 refine Ah (fun d e st=>∃(k:Nat),e=[yd (.string s),yd (.int .i64 (k:Nat)),Tp,Tp,Tp,Tp,Tp,Tp,Tp,Tp,Tp,Tp,Tp,Tp,Tp,Tp,Tp,Tp,Tp,Tp,Tp,Tp,Tp,Tp]∧st=[]∧k+d=(AA s).length∧i≤k) [true,true] ((AA s).length - i) [] (by decide) (AC _) ⟨i,by (simp only [yE];try rfl),by (simp only [yE];try rfl),by omega,by omega⟩ ?_
 rintro d e st ⟨k,rfl,rfl,hd,hk⟩
 by_cases hkl:k<(AA s).length
 ·obtain ⟨c,hc⟩:=get_lt hkl
  have t0:(0:Int)≤(k:Nat):=by omega
  have t1:AN ((AA s).length:Nat) (k:Nat)=false:=AE (by omega)
  have w1:AG .i64 ((k:Int)+1)=((k+1:Nat):Int):=AK (by omega)
  cases h1:AN 48 (c.toNat:Nat) with
  |false=>
   simp -implicitDefEqProofs only [↓yP,yT,reduceCtorEq,AY.eq_1,AV.eq_1,t0,t1,hc,h1]
   exact ⟨k,rfl,by omega,by omega⟩
  |true=>
   cases h2:AN (c.toNat:Nat) 57 with
   |false=>
    simp -implicitDefEqProofs only [↓yP,yT,reduceCtorEq,AY.eq_1,AV.eq_1,t0,t1,hc,h1,h2]
    exact ⟨k,rfl,by omega,by omega⟩
   |true=>
    simp -implicitDefEqProofs only [↓yP,yT,AY.eq_1,AV.eq_1,t0,t1,hc,h1,h2,w1]
    refine ⟨d - 1,[],by omega,by decide,AC _,k+1,by (simp only [yE];try rfl),rfl,by omega,by omega⟩
 ·have t1:AN ((AA s).length:Nat) (k:Nat)=true:=AH (by omega)
  simp -implicitDefEqProofs only [↓yP,yT,reduceCtorEq,AY.eq_1,t1]
  exact ⟨k,rfl,by omega,by omega⟩
theorem G8 (s:ByteArray) (hs:(AA s).length≤20000000000):AS C1 116 [yd (.string s)] fun y=>∃s':ByteArray,y=yd (.string s')∧(AA s').length≤(AA s).length:=by
 refine Pf (by rfl) (by rfl) gQ (by rfl) ?_
 simp only [Try.f116,List.length_cons,List.length_nil,List.replicate,List.cons_append,List.nil_append]
 simp -implicitDefEqProofs only [↓yP,yT]
 refine Ah (fun d e st=>∃(s':ByteArray),e=[yd (.string s'),Tp,Tp,Tp,Tp,Tp,Tp,Tp,Tp,Tp,Tp,Tp,Tp,Tp]∧st=[]∧d=(AA s').length∧(AA s').length≤(AA s).length) [true] (AA s).length [] (by decide) (AC _) ⟨s,by (simp only [yE];try rfl),by (simp only [yE];try rfl),rfl,by omega⟩ ?_
 rintro d e st ⟨s',rfl,rfl,rfl,hk⟩
 by_cases h1:1<(AA s').length
 ·have t1:AN ((AA s').length:Nat) 1=false:=AE (by omega)
  have t0:(0:Int)≤0:=by omega
  have t2:(1:Int)≤((AA s').length:Nat):=by omega
  have t3:(0:Int)≤1:=by omega
  obtain ⟨c,hc⟩:=get_lt (show 0<(AA s').length by omega)
  have h0:Int.toNat 0=0:=rfl
  have h1':Int.toNat 1=1:=rfl
  cases h2:AJ (c.toNat:Nat) 48 with
  |false=>
   simp -implicitDefEqProofs only [↓yP,yT,reduceCtorEq,AY.eq_1,AV.eq_1,t0,t1,h0,hc,h2]
   exact ⟨s',rfl,hk⟩
  |true=>
   simp -implicitDefEqProofs only [↓yP,yT,AY.eq_1,AV.eq_1,Aw.eq_1,t0,t1,t2,t3,h0,h1',hc,h2]
   refine ⟨(AA s').length - 1,[],by omega,by decide,AC _,_,by (simp only [yE];try rfl),rfl,?_,?_⟩
   ·simp [AD]
   ·simp [AD];omega
 ·have t1:AN ((AA s').length:Nat) 1=true:=AH (by omega)
  simp -implicitDefEqProofs only [↓yP,yT,reduceCtorEq,AY.eq_1,t1]
  exact ⟨s',rfl,hk⟩
def Dg (l:List UInt8):Prop:=l≠[]∧∀c,c∈l→48≤c.toNat∧c.toNat≤57
theorem AU (a b:ByteArray):Cr .neq a b=some (.bool (!(AA a==AA b))):=rfl
theorem D4 (s:ByteArray) (hs:(AA s).length≤20000000000):AS C1 93 [yd (.string s)] fun y=>∃b:Bool,y=yd (.bool b)∧(b=true→Dg (AA s)):=by
 refine Pf (by rfl) (by rfl) l9 (by rfl) ?_
 simp only [Try.f93,List.length_cons,List.length_nil,List.replicate,List.cons_append,List.nil_append]
 simp -implicitDefEqProofs only [↓yP,yT]
 refine Ah (fun d e st=>∃(i:Nat),e=[yd (.string s),Tp,Tp,yd (.int .i64 (i:Nat)),Tp,Tp,Tp,Tp,Tp,Tp,Tp,Tp,Tp,Tp,Tp,Tp,Tp,Tp,Tp,Tp,Tp,Tp]∧st=[]∧i+d=(AA s).length∧∀c,c∈(AA s).take i→48≤c.toNat∧c.toNat≤57) [true,false,false,true] (AA s).length [] (by decide) (AC _) ⟨0,by (simp only [yE];try rfl),by (simp only [yE];try rfl),by omega,by simp⟩ ?_
 rintro d e st ⟨k,rfl,rfl,hd,hk⟩
 by_cases hkl:k<(AA s).length
 ·obtain ⟨c,hc⟩:=get_lt hkl
  have t0:(0:Int)≤(k:Nat):=by omega
  have t1:AN ((AA s).length:Nat) (k:Nat)=false:=AE (by omega)
  have w1:AG .i64 ((k:Int)+1)=((k+1:Nat):Int):=AK (by omega)
  cases h1:AN 48 (c.toNat:Nat) with
  |false=>
   simp -implicitDefEqProofs only [↓yP,yT,reduceCtorEq,AY.eq_1,AV.eq_1,t0,t1,hc,h1]
   exact ⟨false,rfl,fun h=>by cases h⟩
  |true=>
   cases h2:AN (c.toNat:Nat) 57 with
   |false=>
    simp -implicitDefEqProofs only [↓yP,yT,reduceCtorEq,AY.eq_1,AV.eq_1,t0,t1,hc,h1,h2]
    exact ⟨false,rfl,fun h=>by cases h⟩
   |true=>
    simp -implicitDefEqProofs only [↓yP,yT,AY.eq_1,AV.eq_1,t0,t1,hc,h1,h2,w1]
    refine ⟨d - 1,[],by omega,by decide,AC _,k+1,by (simp only [yE];try rfl),rfl,by omega,fun c' hc'=>?_⟩
    rw [List.take_add_one,hc] at hc'
    rcases List.mem_append.mp hc' with h|h
    ·exact hk c' h
    ·have:c'=c:=by simpa using h
     subst this
     have:=Bl h1
     have:=Bl h2
     omega
 ·have t1:AN ((AA s).length:Nat) (k:Nat)=true:=AH (by omega)
  rw [List.take_of_length_le (by omega)] at hk
  simp -implicitDefEqProofs only [↓yP,yT,reduceCtorEq,AY.eq_1,t1,AU]
  refine ⟨_,rfl,fun h=>⟨fun hn=>?_,hk⟩⟩
  rw [hn] at h
  exact absurd h (by decide)
def DO (l:List UInt8):List UInt8:=match l with|45::t=>t|l=>l
def lW (l:List UInt8):Prop:=l≠[]∧Dg (DO l)∧(DO l=[48]∨∀c,(DO l)[0]?=some c→c.toNat≠48)
theorem Dn (s:ByteArray):AI (AA s)=s:=rfl
theorem GR {l:List UInt8} {c:UInt8} (h:l[0]?=some c) (hc:c.toNat=45):DO l=l.drop 1:=by
 cases l with
 |nil=>cases h
 |cons a t=>
  have:a=c:=by simpa using h
  subst this
  have:a=45:=by rw [←UInt8.toNat_inj];exact hc
  subst this;rfl
theorem Ed {l:List UInt8} (h:∀c,l[0]?=some c→c.toNat≠45):DO l=l:=by
 cases l with
 |nil=>rfl
 |cons a t=>
  have h1:=h a rfl
  unfold DO
  split
  ·rename_i h2
   cases h2
   exact absurd rfl h1
  ·rfl
theorem HB (s:ByteArray) (hs:(AA s).length≤20000000000):AS C1 94 [yd (.string s)] fun y=>∃b:Bool,y=yd (.bool b)∧(b=true→lW (AA s)):=by
 have t00:(0:Int)≤0:=by omega
 have i00:Int.toNat 0=0:=rfl
 have i01:Int.toNat 1=1:=rfl
 refine Pf (by rfl) (by rfl) iR (by rfl) ?_
 simp only [Try.f94,List.length_cons,List.length_nil,List.replicate,List.cons_append,List.nil_append]
 cases h1:(AA s==AA ⟨#[48]⟩) with
 |true=>
  simp -implicitDefEqProofs only [↓yP,yT,reduceCtorEq,At,h1]
  refine ⟨true,rfl,fun _=>?_⟩
  have:AA s=[48]:=eq_of_beq h1
  rw [this]
  exact ⟨by simp,⟨by simp [DO],by simp [DO]⟩,.inl rfl⟩
 |false=>
  by_cases h2:0<(AA s).length
  ·obtain ⟨c,hc⟩:=get_lt h2
   have t1:AN ((AA s).length:Nat) 0=false:=AE (by omega)
   have t2:(1:Int)≤((AA s).length:Nat):=by omega
   have t3:(0:Int)≤1:=by omega
   cases h3:AJ (c.toNat:Nat) 45 with
   |true=>
    have hun:=GR hc (by have:=AQ h3;omega)
    have htk:((AA s).drop 1).take ((AA s).length - 1)=(AA s).drop 1:=List.take_of_length_le (by simp)
    simp -implicitDefEqProofs only [↓yP,yT,AY.eq_1,AV.eq_1,Aw.eq_1,At,h1,t1,t00,t2,t3,i00,i01,hc,h3,htk]
    refine AB (D4 _ (by first|assumption|(simp [AD];omega))) (by rfl) fun y hy=>?_
    obtain ⟨b,rfl,hb⟩:=hy
    cases b with
    |false=>
     simp -implicitDefEqProofs only [↓yP,yT,reduceCtorEq]
     exact ⟨false,rfl,fun h=>by cases h⟩
    |true=>
     have hdg:=hb rfl
     try rw [AD] at hdg
     obtain ⟨z,hz⟩:∃z,((AA s).drop 1)[0]?=some z:=get_lt (List.length_pos_iff.mpr hdg.1)
     cases h5:AJ (z.toNat:Nat) 48 with
     |true=>
      simp -implicitDefEqProofs only [↓yP,yT,reduceCtorEq,AV.eq_1,AD,t00,i00,hz,h5]
      exact ⟨false,rfl,fun h=>by cases h⟩
     |false=>
      have h5':=A7 h5
      simp -implicitDefEqProofs only [↓yP,yT,reduceCtorEq,AV.eq_1,AD,t00,i00,hz,h5]
      refine ⟨true,rfl,fun _=>⟨?_,?_,.inr ?_⟩⟩
      ·intro h;rw [h] at hdg;exact hdg.1 rfl
      ·rw [hun];exact hdg
      ·rw [hun];intro c hc h;rw [hz] at hc;cases hc;exact h5' (by omega)
   |false=>
    have hun:=Ed (l:=AA s) (fun c' hc' h=>by rw [hc] at hc';cases hc';exact A7 h3 (by omega))
    simp -implicitDefEqProofs only [↓yP,yT,AY.eq_1,AV.eq_1,At,h1,t1,t00,i00,hc,h3]
    refine AB (D4 _ (by first|assumption|(simp [AD];omega))) (by rfl) fun y hy=>?_
    obtain ⟨b,rfl,hb⟩:=hy
    cases b with
    |false=>
     simp -implicitDefEqProofs only [↓yP,yT,reduceCtorEq]
     exact ⟨false,rfl,fun h=>by cases h⟩
    |true=>
     have hdg:=hb rfl
     try rw [AD] at hdg
     obtain ⟨z,hz⟩:∃z,(AA s)[0]?=some z:=get_lt (List.length_pos_iff.mpr hdg.1)
     cases h5:AJ (z.toNat:Nat) 48 with
     |true=>
      simp -implicitDefEqProofs only [↓yP,yT,reduceCtorEq,AV.eq_1,t00,i00,hz,h5]
      exact ⟨false,rfl,fun h=>by cases h⟩
     |false=>
      have h5':=A7 h5
      simp -implicitDefEqProofs only [↓yP,yT,reduceCtorEq,AV.eq_1,t00,i00,hz,h5]
      refine ⟨true,rfl,fun _=>⟨?_,?_,.inr ?_⟩⟩
      ·intro h;rw [h] at hdg;exact hdg.1 rfl
      ·rw [hun];exact hdg
      ·rw [hun];intro c hc h;rw [hz] at hc;cases hc;exact h5' (by omega)
  ·have t1:AN ((AA s).length:Nat) 0=true:=AH (by omega)
   have hnil:AA s=[]:=List.eq_nil_of_length_eq_zero (by omega)
   have hun:DO (AA s)=AA s:=by rw [hnil];rfl
   simp -implicitDefEqProofs only [↓yP,yT,AY.eq_1,At,h1,t1]
   refine AB (D4 s hs) (by rfl) fun y hy=>?_
   obtain ⟨b,rfl,hb⟩:=hy
   cases b with
   |false=>
    simp -implicitDefEqProofs only [↓yP,yT,reduceCtorEq]
    exact ⟨false,rfl,fun h=>by cases h⟩
   |true=>exact absurd hnil (hb rfl).1
theorem L0 (s:ByteArray) (hs:AA s≠[]):AS C1 95 [yd (.string s)] fun y=>∃(b:Bool) (p:ByteArray),y=.tup [yd (.bool b),yd (.string p)]∧AA p=DO (AA s):=by
 have t00:(0:Int)≤0:=by omega
 have i00:Int.toNat 0=0:=rfl
 have i01:Int.toNat 1=1:=rfl
 have h2:0<(AA s).length:=List.length_pos_iff.mpr hs
 refine Pf (by rfl) (by rfl) kT (by rfl) ?_
 simp only [Try.f95,List.length_cons,List.length_nil,List.replicate,List.cons_append,List.nil_append]
 obtain ⟨c,hc⟩:=get_lt h2
 have t2:(1:Int)≤((AA s).length:Nat):=by omega
 have t3:(0:Int)≤1:=by omega
 cases h3:AJ (c.toNat:Nat) 45 with
 |true=>
  have hun:=GR hc (by have:=AQ h3;omega)
  have htk:((AA s).drop 1).take ((AA s).length - 1)=(AA s).drop 1:=List.take_of_length_le (by simp)
  simp -implicitDefEqProofs only [↓yP,yT,AV.eq_1,t00,i00,hc,h3]
  refine A8 (by rw [C5];kernel_rfl) ?_
  simp -implicitDefEqProofs only [↓yP,yT,reduceCtorEq,Aw.eq_1,t2,t3,i01,htk]
  exact ⟨true,_,rfl,by rw [hun];rfl⟩
 |false=>
  have hun:=Ed (l:=AA s) (fun c' hc' h=>by rw [hc] at hc';cases hc';exact A7 h3 (by omega))
  simp -implicitDefEqProofs only [↓yP,yT,reduceCtorEq,AV.eq_1,t00,i00,hc,h3]
  exact ⟨false,s,rfl,hun.symm⟩
def RR (p q:List UInt8):Bool:=decide (p.length<q.length)||(decide (p.length=q.length)&&Bz p q)
theorem Bk (a b:ByteArray):Cr .add a b=if (AA a).length+(AA b).length≤140737488355328 then some (.string (AI (AA a++AA b))) else none:=rfl
theorem Yx (a b:ByteArray):Cr .lss a b=some (.bool (Bz (AA a) (AA b))):=rfl
theorem F2 (s t:ByteArray):AS C1 114 [yd (.string s),yd (.string t)] fun y=>y=yd (.bool (RR (AA s) (AA t))):=by
 refine Pf (by rfl) (by rfl) lH (by rfl) ?_
 simp only [Try.f114,List.length_cons,List.length_nil,List.replicate,List.cons_append,List.nil_append]
 by_cases h1:(AA s).length<(AA t).length
 ·have t1:AN ((AA t).length:Nat) ((AA s).length:Nat)=false:=AE (by omega)
  simp -implicitDefEqProofs only [↓yP,yT,reduceCtorEq,AY.eq_1,t1,RR,h1,decide_true]
 ·have t1:AN ((AA t).length:Nat) ((AA s).length:Nat)=true:=AH (by omega)
  by_cases h2:(AA s).length=(AA t).length
  ·have t2:AJ ((AA s).length:Nat) ((AA t).length:Nat)=true:=by rw [h2];exact CV _
   have t3:AN ((AA t).length:Nat) ((AA t).length:Nat)=true:=AH (by omega)
   have t4:AJ ((AA t).length:Nat) ((AA t).length:Nat)=true:=CV _
   simp -implicitDefEqProofs only [↓yP,yT,reduceCtorEq,AY.eq_1,t3,t4,h2,Yx,RR,Nat.lt_irrefl,decide_true,decide_false,Bool.true_and]
  ·have t2:AJ ((AA s).length:Nat) ((AA t).length:Nat)=false:=AF (by omega)
   simp -implicitDefEqProofs only [↓yP,yT,reduceCtorEq,AY.eq_1,t1,t2,RR,h1,h2,decide_false,Bool.false_and]
def Cs (l:List UInt8) (i:Nat):Int:=if l.length≤i then 0 else AG .i64 (AG .u8 ((((l[l.length - 1 - i]?).getD 0).toNat:Nat) - 48))
theorem BL (s:ByteArray) (i:Nat) (hs:(AA s).length≤20000000000) (hi:i≤20000000002):AS C1 122 [yd (.string s),yd (.int .i64 (i:Nat))] fun y=>y=yd (.int .i64 (Cs (AA s) i)):=by
 refine Pf (by rfl) (by rfl) kP (by rfl) ?_
 simp only [Try.f122,List.length_cons,List.length_nil,List.replicate,List.cons_append,List.nil_append]
 by_cases h1:(AA s).length≤i
 ·have t1:AN ((AA s).length:Nat) (i:Nat)=true:=AH (by omega)
  simp -implicitDefEqProofs only [↓yP,yT,reduceCtorEq,AY.eq_1,t1,Cs,h1]
 ·have t1:AN ((AA s).length:Nat) (i:Nat)=false:=AE (by omega)
  have w1:AG .i64 (((AA s).length:Nat) - 1)=(((AA s).length - 1:Nat):Int):=Bq (by omega) (by omega)
  have w2:AG .i64 ((((AA s).length - 1:Nat):Int) - (i:Nat))=(((AA s).length - 1 - i:Nat):Int):=by
   rw [show (((AA s).length - 1:Nat):Int) - (i:Nat)=(((AA s).length - 1 - i:Nat):Int) by omega];exact A1 (by omega)
  have t2:(0:Int)≤(((AA s).length - 1 - i:Nat):Int):=by omega
  obtain ⟨c,hc⟩:=get_lt (show (AA s).length - 1 - i<(AA s).length by omega)
  simp -implicitDefEqProofs only [↓yP,yT,reduceCtorEq,AY.eq_1,AV.eq_1,t1,w1,w2,t2,hc,Cs,h1,Option.getD_some]
def jH (n:Nat):Prop:=n≤200000000000→AS C1 98 [yd (.int .i64 (n:Nat))] fun y=>∃s:ByteArray,y=yd (.string s)∧(AA s).length≤n+1
theorem aP (n:Nat) (ih:∀m,m<n→jH m):jH n:=by
 intro hn
 refine Pf (by rfl) (by rfl) fI (by rfl) ?_
 simp only [Try.f98,List.length_cons,List.length_nil,List.replicate,List.cons_append,List.nil_append]
 have t0:AN 0 (n:Nat)=true:=AH (by omega)
 have r1:((n:Nat):Int).tmod 10=((n % 10:Nat):Int):=by rw [Int.tmod_eq_emod_of_nonneg (by omega)];omega
 have r2:((n:Nat):Int).tdiv 10=((n / 10:Nat):Int):=by rw [Int.tdiv_eq_ediv_of_nonneg (by omega)];omega
 have w1:AG .i64 (((n % 10:Nat):Int)+1)=((n % 10+1:Nat):Int):=AK (by omega)
 have w2:IntKind.wrap .i64 ((n / 10:Nat):Int)=((n / 10:Nat):Int):=by rw [IntKind.wrap_i64];omega
 have c1:(0:Int)≤((n % 10:Nat):Int):=by omega
 have c2:((n % 10:Nat):Int)≤((n % 10+1:Nat):Int):=by omega
 have c3:((n % 10+1:Nat):Int)≤((AA ⟨#[48,49,50,51,52,53,54,55,56,57]⟩).length:Nat):=by show _≤((10:Nat):Int);omega
 have z10:((10:Int)=0)=False:=by simp
 by_cases h9:n≤9
 ·have t9:AN (n:Nat) 9=true:=AH (by omega)
  simp -implicitDefEqProofs only [↓yP,yT,reduceCtorEq,Aw.eq_1,t0,t9,r1,w1,c1,c2,c3,z10]
  exact ⟨_,rfl,by rw [AD];simp;omega⟩
 ·have t9:AN (n:Nat) 9=false:=AE (by omega)
  simp -implicitDefEqProofs only [↓yP,yT,Aw.eq_1,t0,t9,r1,r2,w1,w2,c1,c2,c3,z10]
  refine AB (ih (n / 10) (by omega) (by omega)) (by rfl) fun y hy=>?_
  obtain ⟨s,rfl,hs⟩:=hy
  have b1:(AA s).length+(((AA ⟨#[48,49,50,51,52,53,54,55,56,57]⟩).drop (n % 10)).take (n % 10+1 - n % 10)).length≤140737488355328:=by
   have:(((AA ⟨#[48,49,50,51,52,53,54,55,56,57]⟩).drop (n % 10)).take (n % 10+1 - n % 10)).length≤1:=by simp;omega
   omega
  simp -implicitDefEqProofs only [↓yP,yT,reduceCtorEq,Bk,AD,b1]
  refine ⟨_,rfl,?_⟩
  rw [AD,List.length_append]
  have:(((AA ⟨#[48,49,50,51,52,53,54,55,56,57]⟩).drop (n % 10)).take (n % 10+1 - n % 10)).length≤1:=by simp;omega
  omega
theorem So (n:Nat):jH n:=by
 induction n using Nat.strongRecOn with
 |ind n ih=>exact aP n ih
end Go.Vx.Seat
end
section
open Go Go.Vx Go.Proofs
namespace Go.Vx.Seat
theorem TH {n:Nat} (h:n<256):AG .u8 ((n:Nat):Int)=(n:Nat):=by rw [D0,IntKind.wrap_u8];omega
theorem Y5 {l:List UInt8} (hd:Dg l) {i:Nat} (hi:i<l.length):∃c,l[l.length - 1 - i]?=some c∧Cs l i=((c.toNat - 48:Nat):Int)∧48≤c.toNat∧c.toNat≤57:=by
 obtain ⟨c,hc⟩:=get_lt (show l.length - 1 - i<l.length by omega)
 have h:=hd.2 c (List.mem_of_getElem? hc)
 refine ⟨c,hc,?_,h⟩
 rw [Cs,if_neg (by omega),hc,Option.getD_some,show ((c.toNat:Nat):Int) - 48=((c.toNat - 48:Nat):Int) by omega,TH (by omega),A1 (by omega)]
theorem Bg {l:List UInt8} {i:Nat} (hi:l.length≤i):Cs l i=0:=by rw [Cs,if_pos hi]
def m8 (l:List UInt8):Prop:=l=[48]∨∀c,l[0]?=some c→c.toNat≠48
structure SubInv (a b:List UInt8) (i:Nat) (c:Int):Prop where
 le:i≤a.length
 bit:c=0∨c=1
 same:a.length=b.length→(c=1↔Bz (a.drop (a.length - i)) (b.drop (b.length - i))=true)
 more:b.length<a.length→i=a.length→c=0
theorem SubInv.start {a b:List UInt8} (ha:Dg a):SubInv a b 0 0:=
 ⟨by omega,.inl rfl,fun h=>by simp [List.drop_of_length_le,Bz],fun _ h=>absurd (List.eq_nil_of_length_eq_zero h.symm) ha.1⟩
theorem SubInv.end {a b:List UInt8} {c:Int} (h:SubInv a b a.length c) (hs:RR a b=false):c=0:=by
 simp only [RR,Bool.or_eq_false_iff,decide_eq_false_iff_not,Bool.and_eq_false_iff] at hs
 rcases Nat.lt_or_ge b.length a.length with g|g
 ·exact h.more g rfl
 ·have hl:a.length=b.length:=by omega
  have hsm:=h.same hl
  rw [Nat.sub_self,hl,Nat.sub_self,List.drop_zero,List.drop_zero] at hsm
  rcases hs.2 with k|k
  ·exact absurd hl k
  ·rcases h.bit with e|e
   ·exact e
   ·rw [hsm.mp e] at k;cases k
theorem Ly {l:List UInt8} {i:Nat} {c:UInt8} (hi:i<l.length) (hc:l[l.length - 1 - i]?=some c):l.drop (l.length - (i+1))=c::l.drop (l.length - i):=by
 rw [show l.length - (i+1)=l.length - 1 - i by omega,List.drop_eq_getElem_cons (by omega)]
 rw [List.getElem?_eq_getElem (by omega)] at hc
 rw [Option.some.inj hc,show l.length - 1 - i+1=l.length - i by omega]
theorem SubInv.step {a b:List UInt8} {i:Nat} {c:Int} (h:SubInv a b i c) (ha:Dg a) (hb:Dg b) (hz:m8 a) (hle:b.length≤a.length) (hi:i<a.length):
  -10≤Cs a i - Cs b i - c∧Cs a i - Cs b i - c≤9∧ -9≤Cs a i - Cs b i∧Cs a i - Cs b i≤9∧SubInv a b (i+1) (if Cs a i - Cs b i - c<0 then 1 else 0):=by
 obtain ⟨x,hx,ex,x1,x2⟩:=Y5 ha hi
 rcases Nat.lt_or_ge i b.length with g|g
 ·obtain ⟨y,hy,ey,y1,y2⟩:=Y5 hb g
  have hbit:=h.bit
  refine ⟨by omega,by omega,by omega,by omega,⟨by omega,by split<;>simp,fun hl=>?_,fun hm he=>by omega⟩⟩
  have hs:=h.same hl
  rw [Ly hi hx,Ly g hy,Bz]
  rcases Nat.lt_trichotomy x.toNat y.toNat with k|k|k
  ·rw [if_pos (by omega)]
   have:decide (x<y)=true:=by rw [decide_eq_true_eq];exact UInt8.lt_iff_toNat_lt.mpr k
   simp [this]
  ·have hxy:x=y:=UInt8.toNat_inj.mp k
   subst hxy
   have:decide (x<x)=false:=by rw [decide_eq_false_iff_not];intro hlt;have:=UInt8.lt_iff_toNat_lt.mp hlt;omega
   rw [this,Bool.false_or,beq_self_eq_true,Bool.true_and,←hs]
   rcases hbit with e|e
   ·rw [if_neg (by omega)];simp [e]
   ·rw [if_pos (by omega)];simp [e]
  ·rw [if_neg (by omega)]
   have h1:decide (x<y)=false:=by rw [decide_eq_false_iff_not];intro hlt;have:=UInt8.lt_iff_toNat_lt.mp hlt;omega
   have h2:(x==y)=false:=by rw [beq_eq_false_iff_ne];intro e;subst e;omega
   rw [h1,h2];simp
 ·have ey:=Bg g
  have hbit:=h.bit
  refine ⟨by omega,by omega,by omega,by omega,⟨by omega,by split<;>simp,fun hl=>by omega,fun hm he=>?_⟩⟩
  have h0:a.length - 1 - i=0:=by omega
  rw [h0] at hx
  have hne:x.toNat≠48:=by
   rcases hz with e|e
   ·have hb0:=List.length_pos_iff.mpr hb.1
    rw [e] at hm
    have:([48]:List UInt8).length=1:=rfl
    omega
   ·exact e x hx
  rw [if_neg (by omega)]
end Go.Vx.Seat
end
section
open Go Go.Vx Go.Proofs
set_option maxRecDepth 10000
set_option maxHeartbeats 4000000
namespace Go.Vx.Seat
attribute [local irreducible] Rg Rt Ro Ri Rc Ds Dt Dw Dx Rw Rl Rd Av An kf
theorem WW:By C1.P.funcs.toList 113=some Try.f113:=by kernel_rfl
theorem I7 (a b:ByteArray) (M:Nat) (ha:(AA a).length≤M) (hb:(AA b).length≤M) (hm:M≤12000000000):AS C1 113 [yd (.string a),yd (.string b),yd (.bool false)] fun y=>∃s:ByteArray,y=yd (.string s)∧(AA s).length≤M+1:=by
 refine Pf (by rfl) (by rfl) WW (by rfl) ?_
 simp only [Try.f113,List.length_cons,List.length_nil,List.replicate,List.cons_append,List.nil_append]
 simp -implicitDefEqProofs only [↓yP,yT]
 refine Cb 7 1 (by decide) rfl ?_
 refine Ah (fun d e s=>∃(i:Nat) (c:Int) (bs:List Int),e=([yd (.string a),yd (.string b),yd (.bool false),Tp,Tp,Tp,Tp,.c (.own 0 1 0 bs.length),yd (.int .i64 c),yd (.int .i64 (i:Nat)),Tp,Tp,Tp,Tp,Tp,Tp,Tp,Tp,Tp,Tp,Tp,Tp,Tp,Tp,Tp,Tp,Tp,Tp,Tp,Tp,Tp,Tp,Tp,Tp,Tp,Tp,Tp,Tp,Tp,Tp,Tp,Tp,Tp,Tp,Tp,Tp,Tp,Tp,Tp,Tp,Tp,Tp,Tp,Tp,Tp,Tp,Tp,Tp,Tp,Tp,Tp,Tp,Tp,Tp,Tp,Tp,Tp,Tp,Tp,Tp,Tp,Tp,Tp,Tp,Tp,Tp,Tp,Tp,Tp,Tp,Tp,Tp,Tp,Tp,Tp,Tp,Tp,Tp,Tp,Tp,Tp,Tp])∧s=[.row 1 (bs.map eb)]∧bs.length=i∧i+d=M+1∧((c=0∨c=1)∧(M<i→c=0))) [true,true,true,false,false,false,false,true,true,true] (M+1) [0] (by decide) (AC _) ⟨0,0,[],by (simp only [yE];try rfl),by (simp only [yE];try rfl),rfl,by omega,.inl rfl,fun h=>by omega⟩ ?_
 rintro d e s ⟨i,c,bs,rfl,rfl,hbl,hd,hc,hcM⟩
 by_cases g1:i<(AA a).length
 ·have t1:AN ((AA a).length:Nat) (i:Nat)=false:=AE (by omega)
  simp -implicitDefEqProofs only [↓yP,yT,AY.eq_1,t1]
  refine AB (BL a i (by omega) (by omega)) (by rfl) fun y hy=>?_
  subst hy
  simp -implicitDefEqProofs only [yT]
  refine AB (BL b i (by omega) (by omega)) (by rfl) fun y hy=>?_
  subst hy
  simp -implicitDefEqProofs only [↓yP,yT]
  generalize hx:AG .i64 (AG .i64 (Cs (AA a) i+Cs (AA b) i)+c)=x
  have w1:AG .i64 ((i:Int)+1)=((i+1:Nat):Int):=AK (by omega)
  have b1:(bs.length+1)*1≤70368744177664:=by omega
  cases h1:AN x 9 with
  |false=>
   cases h3:AN 0 (AG .i64 (x - 10)) with
   |true=>
    simp -implicitDefEqProofs only [↓yP,yT,Nat.reduceAdd,Nat.reduceMul,Nat.reduceLeDiff,h3,w1,b1]
    refine ⟨d - 1,[2],by omega,by decide,AC _,i+1,1,bs++[AG .u8 (AG .u8 (AG .i64 (x - 10))+48)],by (simp only [yE];try rfl),by simp only [yE,List.map_append];rfl,by simp;omega,by omega,?_⟩
    refine ⟨by decide,fun hM=>?_⟩
    have dga:=Bg (l:=AA a) (i:=i) (by omega)
    have dgb:=Bg (l:=AA b) (i:=i) (by omega)
    have hxc:x=c:=by
     rw [←hx,dga,dgb]
     rcases hc with rfl|rfl<;>rfl
    first
    |rfl
    |(exfalso;have:=BQ h1;rcases hc with e|e<;>omega)
    |(exfalso;have:=BQ h2;rcases hc with e|e<;>omega)
   |false=>
    simp -implicitDefEqProofs only [↓yP,yT,Nat.reduceAdd,Nat.reduceMul,Nat.reduceLeDiff,h3,w1,b1]
    refine ⟨d - 1,[2],by omega,by decide,AC _,i+1,1,bs++[AG .u8 (AG .u8 (AG .i64 (AG .i64 (x - 10)+10))+48)],by (simp only [yE];try rfl),by simp only [yE,List.map_append];rfl,by simp;omega,by omega,?_⟩
    refine ⟨by decide,fun hM=>?_⟩
    have dga:=Bg (l:=AA a) (i:=i) (by omega)
    have dgb:=Bg (l:=AA b) (i:=i) (by omega)
    have hxc:x=c:=by
     rw [←hx,dga,dgb]
     rcases hc with rfl|rfl<;>rfl
    first
    |rfl
    |(exfalso;have:=BQ h1;rcases hc with e|e<;>omega)
    |(exfalso;have:=BQ h2;rcases hc with e|e<;>omega)
  |true=>
   cases h2:AN 0 x with
   |true=>
    simp -implicitDefEqProofs only [↓yP,yT,Nat.reduceAdd,Nat.reduceMul,Nat.reduceLeDiff,h2,w1,b1]
    refine ⟨d - 1,[2],by omega,by decide,AC _,i+1,0,bs++[AG .u8 (AG .u8 (x)+48)],by (simp only [yE];try rfl),by simp only [yE,List.map_append];rfl,by simp;omega,by omega,?_⟩
    refine ⟨by decide,fun hM=>?_⟩
    have dga:=Bg (l:=AA a) (i:=i) (by omega)
    have dgb:=Bg (l:=AA b) (i:=i) (by omega)
    have hxc:x=c:=by
     rw [←hx,dga,dgb]
     rcases hc with rfl|rfl<;>rfl
    first
    |rfl
    |(exfalso;have:=BQ h1;rcases hc with e|e<;>omega)
    |(exfalso;have:=BQ h2;rcases hc with e|e<;>omega)
   |false=>
    simp -implicitDefEqProofs only [↓yP,yT,Nat.reduceAdd,Nat.reduceMul,Nat.reduceLeDiff,h2,w1,b1]
    refine ⟨d - 1,[2],by omega,by decide,AC _,i+1,1,bs++[AG .u8 (AG .u8 (AG .i64 (x+10))+48)],by (simp only [yE];try rfl),by simp only [yE,List.map_append];rfl,by simp;omega,by omega,?_⟩
    refine ⟨by decide,fun hM=>?_⟩
    have dga:=Bg (l:=AA a) (i:=i) (by omega)
    have dgb:=Bg (l:=AA b) (i:=i) (by omega)
    have hxc:x=c:=by
     rw [←hx,dga,dgb]
     rcases hc with rfl|rfl<;>rfl
    first
    |rfl
    |(exfalso;have:=BQ h1;rcases hc with e|e<;>omega)
    |(exfalso;have:=BQ h2;rcases hc with e|e<;>omega)
 ·have t1:AN ((AA a).length:Nat) (i:Nat)=true:=AH (by omega)
  by_cases g2:i<(AA b).length
  ·have t2:AN ((AA b).length:Nat) (i:Nat)=false:=AE (by omega)
   simp -implicitDefEqProofs only [↓yP,yT,AY.eq_1,t1,t2]
   refine AB (BL a i (by omega) (by omega)) (by rfl) fun y hy=>?_
   subst hy
   simp -implicitDefEqProofs only [yT]
   refine AB (BL b i (by omega) (by omega)) (by rfl) fun y hy=>?_
   subst hy
   simp -implicitDefEqProofs only [↓yP,yT]
   generalize hx:AG .i64 (AG .i64 (Cs (AA a) i+Cs (AA b) i)+c)=x
   have w1:AG .i64 ((i:Int)+1)=((i+1:Nat):Int):=AK (by omega)
   have b1:(bs.length+1)*1≤70368744177664:=by omega
   cases h1:AN x 9 with
   |false=>
    cases h3:AN 0 (AG .i64 (x - 10)) with
    |true=>
     simp -implicitDefEqProofs only [↓yP,yT,Nat.reduceAdd,Nat.reduceMul,Nat.reduceLeDiff,h3,w1,b1]
     refine ⟨d - 1,[2],by omega,by decide,AC _,i+1,1,bs++[AG .u8 (AG .u8 (AG .i64 (x - 10))+48)],by (simp only [yE];try rfl),by simp only [yE,List.map_append];rfl,by simp;omega,by omega,?_⟩
     refine ⟨by decide,fun hM=>?_⟩
     have dga:=Bg (l:=AA a) (i:=i) (by omega)
     have dgb:=Bg (l:=AA b) (i:=i) (by omega)
     have hxc:x=c:=by
      rw [←hx,dga,dgb]
      rcases hc with rfl|rfl<;>rfl
     first
     |rfl
     |(exfalso;have:=BQ h1;rcases hc with e|e<;>omega)
     |(exfalso;have:=BQ h2;rcases hc with e|e<;>omega)
    |false=>
     simp -implicitDefEqProofs only [↓yP,yT,Nat.reduceAdd,Nat.reduceMul,Nat.reduceLeDiff,h3,w1,b1]
     refine ⟨d - 1,[2],by omega,by decide,AC _,i+1,1,bs++[AG .u8 (AG .u8 (AG .i64 (AG .i64 (x - 10)+10))+48)],by (simp only [yE];try rfl),by simp only [yE,List.map_append];rfl,by simp;omega,by omega,?_⟩
     refine ⟨by decide,fun hM=>?_⟩
     have dga:=Bg (l:=AA a) (i:=i) (by omega)
     have dgb:=Bg (l:=AA b) (i:=i) (by omega)
     have hxc:x=c:=by
      rw [←hx,dga,dgb]
      rcases hc with rfl|rfl<;>rfl
     first
     |rfl
     |(exfalso;have:=BQ h1;rcases hc with e|e<;>omega)
     |(exfalso;have:=BQ h2;rcases hc with e|e<;>omega)
   |true=>
    cases h2:AN 0 x with
    |true=>
     simp -implicitDefEqProofs only [↓yP,yT,Nat.reduceAdd,Nat.reduceMul,Nat.reduceLeDiff,h2,w1,b1]
     refine ⟨d - 1,[2],by omega,by decide,AC _,i+1,0,bs++[AG .u8 (AG .u8 (x)+48)],by (simp only [yE];try rfl),by simp only [yE,List.map_append];rfl,by simp;omega,by omega,?_⟩
     refine ⟨by decide,fun hM=>?_⟩
     have dga:=Bg (l:=AA a) (i:=i) (by omega)
     have dgb:=Bg (l:=AA b) (i:=i) (by omega)
     have hxc:x=c:=by
      rw [←hx,dga,dgb]
      rcases hc with rfl|rfl<;>rfl
     first
     |rfl
     |(exfalso;have:=BQ h1;rcases hc with e|e<;>omega)
     |(exfalso;have:=BQ h2;rcases hc with e|e<;>omega)
    |false=>
     simp -implicitDefEqProofs only [↓yP,yT,Nat.reduceAdd,Nat.reduceMul,Nat.reduceLeDiff,h2,w1,b1]
     refine ⟨d - 1,[2],by omega,by decide,AC _,i+1,1,bs++[AG .u8 (AG .u8 (AG .i64 (x+10))+48)],by (simp only [yE];try rfl),by simp only [yE,List.map_append];rfl,by simp;omega,by omega,?_⟩
     refine ⟨by decide,fun hM=>?_⟩
     have dga:=Bg (l:=AA a) (i:=i) (by omega)
     have dgb:=Bg (l:=AA b) (i:=i) (by omega)
     have hxc:x=c:=by
      rw [←hx,dga,dgb]
      rcases hc with rfl|rfl<;>rfl
     first
     |rfl
     |(exfalso;have:=BQ h1;rcases hc with e|e<;>omega)
     |(exfalso;have:=BQ h2;rcases hc with e|e<;>omega)
  ·have t2:AN ((AA b).length:Nat) (i:Nat)=true:=AH (by omega)
   by_cases g3:c=0
   ·have t3:AN c 0=true:=AH (by omega)
    simp -implicitDefEqProofs only [↓yP,yT,AY.eq_1,t1,t2,t3]
    refine Ah (fun d e s=>∃n:Nat,e=[Tp,Tp,Tp,Tp,Tp,Tp,Tp,.c (.own 0 1 0 bs.length),Tp,Tp,Tp,yd (.int .i64 (n:Nat)),Tp,Tp,Tp,Tp,Tp,Tp,Tp,Tp,Tp,Tp,Tp,Tp,Tp,Tp,Tp,Tp,Tp,Tp,Tp,Tp,Tp,Tp,Tp,Tp,Tp,Tp,Tp,Tp,Tp,Tp,Tp,Tp,Tp,Tp,Tp,Tp,Tp,Tp,Tp,Tp,Tp,Tp,Tp,Tp,Tp,Tp,Tp,Tp,Tp,Tp,Tp,Tp,Tp,Tp,Tp,Tp,Tp,Tp,Tp,Tp,Tp,Tp,Tp,Tp,Tp,Tp,Tp,Tp,Tp,Tp,Tp,Tp,Tp,Tp,Tp,Tp,Tp,Tp,Tp,Tp]∧s=[.row 1 (bs.map eb)]∧n=d∧n≤bs.length) [false,false,false,false,false,false,false,true,false,false,false,true] bs.length [0] (by decide) (AC _) ⟨bs.length,by (simp only [yE];try rfl),by (simp only [yE];try rfl),rfl,by omega⟩ ?_
    rintro d1 e s ⟨n,rfl,rfl,hn1,hn2⟩
    by_cases h1n:1<n
    ·have t5:AN (n:Nat) 1=false:=AE (by omega)
     have w5:AG .i64 ((n:Int) - 1)=((n - 1:Nat):Int):=Bq (by omega) (by omega)
     have c5:(0:Int)≤((n - 1:Nat):Int):=by omega
     have c6:((n - 1:Nat):Int)<(bs.length:Nat):=by omega
     obtain ⟨z,hz⟩:=get_lt (show n - 1<bs.length by omega)
     cases h5:AJ z 48 with
     |true=>
      simp -implicitDefEqProofs only [↓yP,yT,t5,w5,c5,c6,C4 hz,h5]
      refine ⟨d1 - 1,[0],by omega,by decide,AC _,n - 1,by (simp only [yE];try rfl),by (simp only [yE];try rfl),by omega,by omega⟩
     |false=>
      simp -implicitDefEqProofs only [↓yP,yT,t5,w5,c5,c6,C4 hz,h5]
      refine Cb 12 1 (by decide) rfl ?_
      refine Ah (fun d e s=>∃(j:Nat) (os:List Int),e=[Tp,Tp,Tp,Tp,Tp,Tp,Tp,.c (.own 0 1 0 bs.length),Tp,Tp,Tp,Tp,.c (.own 1 1 0 os.length),yd (.int .i64 ((j:Int) - 1)),Tp,Tp,Tp,Tp,Tp,Tp,Tp,Tp,Tp,Tp,Tp,Tp,Tp,Tp,Tp,Tp,Tp,Tp,Tp,Tp,Tp,Tp,Tp,Tp,Tp,Tp,Tp,Tp,Tp,Tp,Tp,Tp,Tp,Tp,Tp,Tp,Tp,Tp,Tp,Tp,Tp,Tp,Tp,Tp,Tp,Tp,Tp,Tp,Tp,Tp,Tp,Tp,Tp,Tp,Tp,Tp,Tp,Tp,Tp,Tp,Tp,Tp,Tp,Tp,Tp,Tp,Tp,Tp,Tp,Tp,Tp,Tp,Tp,Tp,Tp,Tp,Tp,Tp]∧s=[.row 1 (bs.map eb),.row 1 (os.map eb)]∧j=d∧j≤bs.length∧os.length+j=n) [false,false,false,false,false,false,false,true,false,false,false,false,true,true] n [0,1] (by decide) (AC _) ⟨n,[],by first|(simp only [yE];done)|(simp only [yE];rfl)|(rw [show ((n - 1:Nat):Int)=(n:Int) - 1 by omega];simp only [yE];rfl),by (simp only [yE];try rfl),rfl,by omega,by simp⟩ ?_
      rintro d2 e s ⟨j,os,rfl,rfl,hj1,hj2,hj3⟩
      cases j with
      |zero=>
       have t6:AN 0 (((0:Nat):Int) - 1)=false:=AE (by omega)
       simp -implicitDefEqProofs only [↓yP,yT,reduceCtorEq,t6,A6,Ar]
       exact ⟨AO os,rfl,by rw [AW];omega⟩
      |succ j=>
       have e7:((j+1:Nat):Int) - 1=(j:Nat):=by omega
       have t6:AN 0 (j:Nat)=true:=AH (by omega)
       have c7:(0:Int)≤(j:Nat):=by omega
       have c8:((j:Nat):Int)<(bs.length:Nat):=by omega
       have w8:AG .i64 ((j:Int) - 1)=(j:Int) - 1:=Au (by omega) (by omega)
       have b8:(os.length+1)*1≤70368744177664:=by omega
       obtain ⟨z8,hz8⟩:=get_lt (show j<bs.length by omega)
       rw [e7]
       simp -implicitDefEqProofs only [↓yP,yT,Nat.reduceAdd,Nat.reduceMul,Nat.reduceLeDiff,t6,c7,c8,w8,b8,C4 hz8]
       refine ⟨d2 - 1,[0,3],by omega,by decide,AC _,j,os++[z8],by (simp only [yE,reduceCtorEq];try rfl),?_,by omega,by omega,by simp;omega⟩
       simp only [yE,List.map_append];rfl
    ·have t5:AN (n:Nat) 1=true:=AH (by omega)
     have w5:AG .i64 ((n:Int) - 1)=(n:Int) - 1:=Au (by omega) (by omega)
     simp -implicitDefEqProofs only [↓yP,yT,t5,w5]
     refine Cb 12 1 (by decide) rfl ?_
     refine Ah (fun d e s=>∃(j:Nat) (os:List Int),e=[Tp,Tp,Tp,Tp,Tp,Tp,Tp,.c (.own 0 1 0 bs.length),Tp,Tp,Tp,Tp,.c (.own 1 1 0 os.length),yd (.int .i64 ((j:Int) - 1)),Tp,Tp,Tp,Tp,Tp,Tp,Tp,Tp,Tp,Tp,Tp,Tp,Tp,Tp,Tp,Tp,Tp,Tp,Tp,Tp,Tp,Tp,Tp,Tp,Tp,Tp,Tp,Tp,Tp,Tp,Tp,Tp,Tp,Tp,Tp,Tp,Tp,Tp,Tp,Tp,Tp,Tp,Tp,Tp,Tp,Tp,Tp,Tp,Tp,Tp,Tp,Tp,Tp,Tp,Tp,Tp,Tp,Tp,Tp,Tp,Tp,Tp,Tp,Tp,Tp,Tp,Tp,Tp,Tp,Tp,Tp,Tp,Tp,Tp,Tp,Tp,Tp,Tp]∧s=[.row 1 (bs.map eb),.row 1 (os.map eb)]∧j=d∧j≤bs.length∧os.length+j=n) [false,false,false,false,false,false,false,true,false,false,false,false,true,true] n [0,1] (by decide) (AC _) ⟨n,[],by first|(simp only [yE];done)|(simp only [yE];rfl)|(rw [show ((n - 1:Nat):Int)=(n:Int) - 1 by omega];simp only [yE,Nat.reduceEqDiff,Nat.reduceAdd,reduceCtorEq];rfl),by (simp only [yE];try rfl),rfl,by omega,by simp⟩ ?_
     rintro d2 e s ⟨j,os,rfl,rfl,hj1,hj2,hj3⟩
     cases j with
     |zero=>
      have t6:AN 0 (((0:Nat):Int) - 1)=false:=AE (by omega)
      simp -implicitDefEqProofs only [↓yP,yT,reduceCtorEq,t6,A6,Ar]
      exact ⟨AO os,rfl,by rw [AW];omega⟩
     |succ j=>
      have e7:((j+1:Nat):Int) - 1=(j:Nat):=by omega
      have t6:AN 0 (j:Nat)=true:=AH (by omega)
      have c7:(0:Int)≤(j:Nat):=by omega
      have c8:((j:Nat):Int)<(bs.length:Nat):=by omega
      have w8:AG .i64 ((j:Int) - 1)=(j:Int) - 1:=Au (by omega) (by omega)
      have b8:(os.length+1)*1≤70368744177664:=by omega
      obtain ⟨z8,hz8⟩:=get_lt (show j<bs.length by omega)
      rw [e7]
      simp -implicitDefEqProofs only [↓yP,yT,Nat.reduceAdd,Nat.reduceMul,Nat.reduceLeDiff,t6,c7,c8,w8,b8,C4 hz8]
      refine ⟨d2 - 1,[0,3],by omega,by decide,AC _,j,os++[z8],by (simp only [yE,reduceCtorEq];try rfl),?_,by omega,by omega,by simp;omega⟩
      simp only [yE,List.map_append];rfl
   ·have t3:AN c 0=false:=AE (by rcases hc with e|e<;>omega)
    have hiM:i≤M:=Nat.le_of_not_lt fun h=>g3 (hcM h)
    simp -implicitDefEqProofs only [↓yP,yT,AY.eq_1,t1,t2,t3]
    refine AB (BL a i (by omega) (by omega)) (by rfl) fun y hy=>?_
    subst hy
    simp -implicitDefEqProofs only [yT]
    refine AB (BL b i (by omega) (by omega)) (by rfl) fun y hy=>?_
    subst hy
    simp -implicitDefEqProofs only [↓yP,yT]
    generalize hx:AG .i64 (AG .i64 (Cs (AA a) i+Cs (AA b) i)+c)=x
    have w1:AG .i64 ((i:Int)+1)=((i+1:Nat):Int):=AK (by omega)
    have b1:(bs.length+1)*1≤70368744177664:=by omega
    cases h1:AN x 9 with
    |false=>
     cases h3:AN 0 (AG .i64 (x - 10)) with
     |true=>
      simp -implicitDefEqProofs only [↓yP,yT,Nat.reduceAdd,Nat.reduceMul,Nat.reduceLeDiff,h3,w1,b1]
      refine ⟨d - 1,[2],by omega,by decide,AC _,i+1,1,bs++[AG .u8 (AG .u8 (AG .i64 (x - 10))+48)],by (simp only [yE];try rfl),by simp only [yE,List.map_append];rfl,by simp;omega,by omega,?_⟩
      refine ⟨by decide,fun hM=>?_⟩
      have dga:=Bg (l:=AA a) (i:=i) (by omega)
      have dgb:=Bg (l:=AA b) (i:=i) (by omega)
      have hxc:x=c:=by
       rw [←hx,dga,dgb]
       rcases hc with rfl|rfl<;>rfl
      first
      |rfl
      |(exfalso;have:=BQ h1;rcases hc with e|e<;>omega)
      |(exfalso;have:=BQ h2;rcases hc with e|e<;>omega)
     |false=>
      simp -implicitDefEqProofs only [↓yP,yT,Nat.reduceAdd,Nat.reduceMul,Nat.reduceLeDiff,h3,w1,b1]
      refine ⟨d - 1,[2],by omega,by decide,AC _,i+1,1,bs++[AG .u8 (AG .u8 (AG .i64 (AG .i64 (x - 10)+10))+48)],by (simp only [yE];try rfl),by simp only [yE,List.map_append];rfl,by simp;omega,by omega,?_⟩
      refine ⟨by decide,fun hM=>?_⟩
      have dga:=Bg (l:=AA a) (i:=i) (by omega)
      have dgb:=Bg (l:=AA b) (i:=i) (by omega)
      have hxc:x=c:=by
       rw [←hx,dga,dgb]
       rcases hc with rfl|rfl<;>rfl
      first
      |rfl
      |(exfalso;have:=BQ h1;rcases hc with e|e<;>omega)
      |(exfalso;have:=BQ h2;rcases hc with e|e<;>omega)
    |true=>
     cases h2:AN 0 x with
     |true=>
      simp -implicitDefEqProofs only [↓yP,yT,Nat.reduceAdd,Nat.reduceMul,Nat.reduceLeDiff,h2,w1,b1]
      refine ⟨d - 1,[2],by omega,by decide,AC _,i+1,0,bs++[AG .u8 (AG .u8 (x)+48)],by (simp only [yE];try rfl),by simp only [yE,List.map_append];rfl,by simp;omega,by omega,?_⟩
      refine ⟨by decide,fun hM=>?_⟩
      have dga:=Bg (l:=AA a) (i:=i) (by omega)
      have dgb:=Bg (l:=AA b) (i:=i) (by omega)
      have hxc:x=c:=by
       rw [←hx,dga,dgb]
       rcases hc with rfl|rfl<;>rfl
      first
      |rfl
      |(exfalso;have:=BQ h1;rcases hc with e|e<;>omega)
      |(exfalso;have:=BQ h2;rcases hc with e|e<;>omega)
     |false=>
      simp -implicitDefEqProofs only [↓yP,yT,Nat.reduceAdd,Nat.reduceMul,Nat.reduceLeDiff,h2,w1,b1]
      refine ⟨d - 1,[2],by omega,by decide,AC _,i+1,1,bs++[AG .u8 (AG .u8 (AG .i64 (x+10))+48)],by (simp only [yE];try rfl),by simp only [yE,List.map_append];rfl,by simp;omega,by omega,?_⟩
      refine ⟨by decide,fun hM=>?_⟩
      have dga:=Bg (l:=AA a) (i:=i) (by omega)
      have dgb:=Bg (l:=AA b) (i:=i) (by omega)
      have hxc:x=c:=by
       rw [←hx,dga,dgb]
       rcases hc with rfl|rfl<;>rfl
      first
      |rfl
      |(exfalso;have:=BQ h1;rcases hc with e|e<;>omega)
      |(exfalso;have:=BQ h2;rcases hc with e|e<;>omega)
theorem Ev (a b:ByteArray) (ha:(AA a).length≤12000000000) (hA:Dg (AA a)) (hB:Dg (AA b)) (hz:m8 (AA a)) (hs:RR (AA a) (AA b)=false):AS C1 113 [yd (.string a),yd (.string b),yd (.bool true)] fun y=>∃s:ByteArray,y=yd (.string s)∧(AA s).length≤(AA a).length+1:=by
 have hle:(AA b).length≤(AA a).length:=by
  simp only [RR,Bool.or_eq_false_iff,decide_eq_false_iff_not] at hs
  omega
 refine Pf (by rfl) (by rfl) WW (by rfl) ?_
 simp only [Try.f113,List.length_cons,List.length_nil,List.replicate,List.cons_append,List.nil_append]
 simp -implicitDefEqProofs only [↓yP,yT]
 refine Cb 7 1 (by decide) rfl ?_
 refine Ah (fun d e s=>∃(i:Nat) (c:Int) (bs:List Int),e=([yd (.string a),yd (.string b),yd (.bool true),Tp,Tp,Tp,Tp,.c (.own 0 1 0 bs.length),yd (.int .i64 c),yd (.int .i64 (i:Nat)),Tp,Tp,Tp,Tp,Tp,Tp,Tp,Tp,Tp,Tp,Tp,Tp,Tp,Tp,Tp,Tp,Tp,Tp,Tp,Tp,Tp,Tp,Tp,Tp,Tp,Tp,Tp,Tp,Tp,Tp,Tp,Tp,Tp,Tp,Tp,Tp,Tp,Tp,Tp,Tp,Tp,Tp,Tp,Tp,Tp,Tp,Tp,Tp,Tp,Tp,Tp,Tp,Tp,Tp,Tp,Tp,Tp,Tp,Tp,Tp,Tp,Tp,Tp,Tp,Tp,Tp,Tp,Tp,Tp,Tp,Tp,Tp,Tp,Tp,Tp,Tp,Tp,Tp,Tp,Tp,Tp,Tp])∧s=[.row 1 (bs.map eb)]∧bs.length=i∧i+d=(AA a).length∧SubInv (AA a) (AA b) i c) [true,true,true,false,false,false,false,true,true,true] (AA a).length [0] (by decide) (AC _) ⟨0,0,[],by (simp only [yE];try rfl),by (simp only [yE];try rfl),rfl,by omega,.start hA⟩ ?_
 rintro d e s ⟨i,c,bs,rfl,rfl,hbl,hd,hinv⟩
 by_cases g1:i<(AA a).length
 ·have t1:AN ((AA a).length:Nat) (i:Nat)=false:=AE (by omega)
  obtain ⟨v1,v2,v3,v4,hstep⟩:=hinv.step hA hB hz hle g1
  simp -implicitDefEqProofs only [↓yP,yT,AY.eq_1,t1]
  refine AB (BL a i (by omega) (by omega)) (by rfl) fun y hy=>?_
  subst hy
  simp -implicitDefEqProofs only [yT]
  refine AB (BL b i (by omega) (by omega)) (by rfl) fun y hy=>?_
  subst hy
  simp -implicitDefEqProofs only [↓yP,yT]
  refine AB (BL a i (by omega) (by omega)) (by rfl) fun y hy=>?_
  subst hy
  simp -implicitDefEqProofs only [yT]
  refine AB (BL b i (by omega) (by omega)) (by rfl) fun y hy=>?_
  subst hy
  have u1:AG .i64 (Cs (AA a) i - Cs (AA b) i)=Cs (AA a) i - Cs (AA b) i:=Au (by omega) (by omega)
  have u2:AG .i64 (Cs (AA a) i - Cs (AA b) i - c)=Cs (AA a) i - Cs (AA b) i - c:=Au (by omega) (by omega)
  simp -implicitDefEqProofs only [↓yP,yT,u1,u2]
  generalize hx:Cs (AA a) i - Cs (AA b) i - c=x at*
  clear u1 u2
  have w1:AG .i64 ((i:Int)+1)=((i+1:Nat):Int):=AK (by omega)
  have b1:(bs.length+1)*1≤70368744177664:=by omega
  cases h1:AN x 9 with
  |false=>
   cases h3:AN 0 (AG .i64 (x - 10)) with
   |true=>
    simp -implicitDefEqProofs only [↓yP,yT,Nat.reduceAdd,Nat.reduceMul,Nat.reduceLeDiff,h3,w1,b1]
    refine ⟨d - 1,[2],by omega,by decide,AC _,i+1,1,bs++[AG .u8 (AG .u8 (AG .i64 (x - 10))+48)],by (simp only [yE];try rfl),by simp only [yE,List.map_append];rfl,by simp;omega,by omega,?_⟩
    first
    |(exfalso;have:=BQ h1;omega)
    |(have h2':=BQ h2;rw [if_pos (by omega)] at hstep;exact hstep)
    |(have h2':=Bl h2;rw [if_neg (by omega)] at hstep;exact hstep)
   |false=>
    simp -implicitDefEqProofs only [↓yP,yT,Nat.reduceAdd,Nat.reduceMul,Nat.reduceLeDiff,h3,w1,b1]
    refine ⟨d - 1,[2],by omega,by decide,AC _,i+1,1,bs++[AG .u8 (AG .u8 (AG .i64 (AG .i64 (x - 10)+10))+48)],by (simp only [yE];try rfl),by simp only [yE,List.map_append];rfl,by simp;omega,by omega,?_⟩
    first
    |(exfalso;have:=BQ h1;omega)
    |(have h2':=BQ h2;rw [if_pos (by omega)] at hstep;exact hstep)
    |(have h2':=Bl h2;rw [if_neg (by omega)] at hstep;exact hstep)
  |true=>
   cases h2:AN 0 x with
   |true=>
    simp -implicitDefEqProofs only [↓yP,yT,Nat.reduceAdd,Nat.reduceMul,Nat.reduceLeDiff,h2,w1,b1]
    refine ⟨d - 1,[2],by omega,by decide,AC _,i+1,0,bs++[AG .u8 (AG .u8 (x)+48)],by (simp only [yE];try rfl),by simp only [yE,List.map_append];rfl,by simp;omega,by omega,?_⟩
    first
    |(exfalso;have:=BQ h1;omega)
    |(have h2':=BQ h2;rw [if_pos (by omega)] at hstep;exact hstep)
    |(have h2':=Bl h2;rw [if_neg (by omega)] at hstep;exact hstep)
   |false=>
    simp -implicitDefEqProofs only [↓yP,yT,Nat.reduceAdd,Nat.reduceMul,Nat.reduceLeDiff,h2,w1,b1]
    refine ⟨d - 1,[2],by omega,by decide,AC _,i+1,1,bs++[AG .u8 (AG .u8 (AG .i64 (x+10))+48)],by (simp only [yE];try rfl),by simp only [yE,List.map_append];rfl,by simp;omega,by omega,?_⟩
    first
    |(exfalso;have:=BQ h1;omega)
    |(have h2':=BQ h2;rw [if_pos (by omega)] at hstep;exact hstep)
    |(have h2':=Bl h2;rw [if_neg (by omega)] at hstep;exact hstep)
 ·have t1:AN ((AA a).length:Nat) (i:Nat)=true:=AH (by omega)
  have t2:AN ((AA b).length:Nat) (i:Nat)=true:=AH (by omega)
  have hi:i=(AA a).length:=by have:=hinv.le;omega
  have hc0:c=0:=by rw [hi] at hinv;exact hinv.end hs
  have t3:AN c 0=true:=AH (by omega)
  simp -implicitDefEqProofs only [↓yP,yT,AY.eq_1,t1,t2,t3]
  refine Ah (fun d e s=>∃n:Nat,e=[Tp,Tp,Tp,Tp,Tp,Tp,Tp,.c (.own 0 1 0 bs.length),Tp,Tp,Tp,yd (.int .i64 (n:Nat)),Tp,Tp,Tp,Tp,Tp,Tp,Tp,Tp,Tp,Tp,Tp,Tp,Tp,Tp,Tp,Tp,Tp,Tp,Tp,Tp,Tp,Tp,Tp,Tp,Tp,Tp,Tp,Tp,Tp,Tp,Tp,Tp,Tp,Tp,Tp,Tp,Tp,Tp,Tp,Tp,Tp,Tp,Tp,Tp,Tp,Tp,Tp,Tp,Tp,Tp,Tp,Tp,Tp,Tp,Tp,Tp,Tp,Tp,Tp,Tp,Tp,Tp,Tp,Tp,Tp,Tp,Tp,Tp,Tp,Tp,Tp,Tp,Tp,Tp,Tp,Tp,Tp,Tp,Tp,Tp]∧s=[.row 1 (bs.map eb)]∧n=d∧n≤bs.length) [false,false,false,false,false,false,false,true,false,false,false,true] bs.length [0] (by decide) (AC _) ⟨bs.length,by (simp only [yE];try rfl),by (simp only [yE];try rfl),rfl,by omega⟩ ?_
  rintro d1 e s ⟨n,rfl,rfl,hn1,hn2⟩
  by_cases h1n:1<n
  ·have t5:AN (n:Nat) 1=false:=AE (by omega)
   have w5:AG .i64 ((n:Int) - 1)=((n - 1:Nat):Int):=Bq (by omega) (by omega)
   have c5:(0:Int)≤((n - 1:Nat):Int):=by omega
   have c6:((n - 1:Nat):Int)<(bs.length:Nat):=by omega
   obtain ⟨z,hz⟩:=get_lt (show n - 1<bs.length by omega)
   cases h5:AJ z 48 with
   |true=>
    simp -implicitDefEqProofs only [↓yP,yT,t5,w5,c5,c6,C4 hz,h5]
    refine ⟨d1 - 1,[0],by omega,by decide,AC _,n - 1,by (simp only [yE];try rfl),by (simp only [yE];try rfl),by omega,by omega⟩
   |false=>
    simp -implicitDefEqProofs only [↓yP,yT,t5,w5,c5,c6,C4 hz,h5]
    refine Cb 12 1 (by decide) rfl ?_
    refine Ah (fun d e s=>∃(j:Nat) (os:List Int),e=[Tp,Tp,Tp,Tp,Tp,Tp,Tp,.c (.own 0 1 0 bs.length),Tp,Tp,Tp,Tp,.c (.own 1 1 0 os.length),yd (.int .i64 ((j:Int) - 1)),Tp,Tp,Tp,Tp,Tp,Tp,Tp,Tp,Tp,Tp,Tp,Tp,Tp,Tp,Tp,Tp,Tp,Tp,Tp,Tp,Tp,Tp,Tp,Tp,Tp,Tp,Tp,Tp,Tp,Tp,Tp,Tp,Tp,Tp,Tp,Tp,Tp,Tp,Tp,Tp,Tp,Tp,Tp,Tp,Tp,Tp,Tp,Tp,Tp,Tp,Tp,Tp,Tp,Tp,Tp,Tp,Tp,Tp,Tp,Tp,Tp,Tp,Tp,Tp,Tp,Tp,Tp,Tp,Tp,Tp,Tp,Tp,Tp,Tp,Tp,Tp,Tp,Tp]∧s=[.row 1 (bs.map eb),.row 1 (os.map eb)]∧j=d∧j≤bs.length∧os.length+j=n) [false,false,false,false,false,false,false,true,false,false,false,false,true,true] n [0,1] (by decide) (AC _) ⟨n,[],by first|(simp only [yE];done)|(simp only [yE];rfl)|(rw [show ((n - 1:Nat):Int)=(n:Int) - 1 by omega];simp only [yE];rfl),by (simp only [yE];try rfl),rfl,by omega,by simp⟩ ?_
    rintro d2 e s ⟨j,os,rfl,rfl,hj1,hj2,hj3⟩
    cases j with
    |zero=>
     have t6:AN 0 (((0:Nat):Int) - 1)=false:=AE (by omega)
     simp -implicitDefEqProofs only [↓yP,yT,reduceCtorEq,t6,A6,Ar]
     exact ⟨AO os,rfl,by rw [AW];omega⟩
    |succ j=>
     have e7:((j+1:Nat):Int) - 1=(j:Nat):=by omega
     have t6:AN 0 (j:Nat)=true:=AH (by omega)
     have c7:(0:Int)≤(j:Nat):=by omega
     have c8:((j:Nat):Int)<(bs.length:Nat):=by omega
     have w8:AG .i64 ((j:Int) - 1)=(j:Int) - 1:=Au (by omega) (by omega)
     have b8:(os.length+1)*1≤70368744177664:=by omega
     obtain ⟨z8,hz8⟩:=get_lt (show j<bs.length by omega)
     rw [e7]
     simp -implicitDefEqProofs only [↓yP,yT,Nat.reduceAdd,Nat.reduceMul,Nat.reduceLeDiff,t6,c7,c8,w8,b8,C4 hz8]
     refine ⟨d2 - 1,[0,3],by omega,by decide,AC _,j,os++[z8],by (simp only [yE,reduceCtorEq];try rfl),?_,by omega,by omega,by simp;omega⟩
     simp only [yE,List.map_append];rfl
  ·have t5:AN (n:Nat) 1=true:=AH (by omega)
   have w5:AG .i64 ((n:Int) - 1)=(n:Int) - 1:=Au (by omega) (by omega)
   simp -implicitDefEqProofs only [↓yP,yT,t5,w5]
   refine Cb 12 1 (by decide) rfl ?_
   refine Ah (fun d e s=>∃(j:Nat) (os:List Int),e=[Tp,Tp,Tp,Tp,Tp,Tp,Tp,.c (.own 0 1 0 bs.length),Tp,Tp,Tp,Tp,.c (.own 1 1 0 os.length),yd (.int .i64 ((j:Int) - 1)),Tp,Tp,Tp,Tp,Tp,Tp,Tp,Tp,Tp,Tp,Tp,Tp,Tp,Tp,Tp,Tp,Tp,Tp,Tp,Tp,Tp,Tp,Tp,Tp,Tp,Tp,Tp,Tp,Tp,Tp,Tp,Tp,Tp,Tp,Tp,Tp,Tp,Tp,Tp,Tp,Tp,Tp,Tp,Tp,Tp,Tp,Tp,Tp,Tp,Tp,Tp,Tp,Tp,Tp,Tp,Tp,Tp,Tp,Tp,Tp,Tp,Tp,Tp,Tp,Tp,Tp,Tp,Tp,Tp,Tp,Tp,Tp,Tp,Tp,Tp,Tp,Tp,Tp]∧s=[.row 1 (bs.map eb),.row 1 (os.map eb)]∧j=d∧j≤bs.length∧os.length+j=n) [false,false,false,false,false,false,false,true,false,false,false,false,true,true] n [0,1] (by decide) (AC _) ⟨n,[],by first|(simp only [yE];done)|(simp only [yE];rfl)|(rw [show ((n - 1:Nat):Int)=(n:Int) - 1 by omega];simp only [yE,Nat.reduceEqDiff,Nat.reduceAdd,reduceCtorEq];rfl),by (simp only [yE];try rfl),rfl,by omega,by simp⟩ ?_
   rintro d2 e s ⟨j,os,rfl,rfl,hj1,hj2,hj3⟩
   cases j with
   |zero=>
    have t6:AN 0 (((0:Nat):Int) - 1)=false:=AE (by omega)
    simp -implicitDefEqProofs only [↓yP,yT,reduceCtorEq,t6,A6,Ar]
    exact ⟨AO os,rfl,by rw [AW];omega⟩
   |succ j=>
    have e7:((j+1:Nat):Int) - 1=(j:Nat):=by omega
    have t6:AN 0 (j:Nat)=true:=AH (by omega)
    have c7:(0:Int)≤(j:Nat):=by omega
    have c8:((j:Nat):Int)<(bs.length:Nat):=by omega
    have w8:AG .i64 ((j:Int) - 1)=(j:Int) - 1:=Au (by omega) (by omega)
    have b8:(os.length+1)*1≤70368744177664:=by omega
    obtain ⟨z8,hz8⟩:=get_lt (show j<bs.length by omega)
    rw [e7]
    simp -implicitDefEqProofs only [↓yP,yT,Nat.reduceAdd,Nat.reduceMul,Nat.reduceLeDiff,t6,c7,c8,w8,b8,C4 hz8]
    refine ⟨d2 - 1,[0,3],by omega,by decide,AC _,j,os++[z8],by (simp only [yE,reduceCtorEq];try rfl),?_,by omega,by omega,by simp;omega⟩
    simp only [yE,List.map_append];rfl
end Go.Vx.Seat
end
section
open Go Go.Vx Go.Proofs
set_option maxRecDepth 10000
set_option maxHeartbeats 4000000
namespace Go.Vx.Seat
attribute [local irreducible] Rg Rt Ro Ri Rc Ds Dt Dw Dx Rw Rl Rd Av An kf
theorem lT:By C1.P.funcs.toList 97=some Try.f97:=by kernel_rfl
theorem IE:∀{p q:List UInt8},Bz p q=true→Bz q p=false
 |[],[],h=>by cases h
 |[],_::_,_=>rfl
 |_::_,[],h=>by cases h
 |a::p,b::q,h=>by
  simp only [Bz,Bool.or_eq_true,Bool.and_eq_true,decide_eq_true_eq,beq_iff_eq] at h
  simp only [Bz,Bool.or_eq_false_iff,Bool.and_eq_false_iff,decide_eq_false_iff_not,beq_eq_false_iff_ne]
  rcases h with h|⟨h1,h2⟩
  ·have h':=UInt8.lt_iff_toNat_lt.mp h
   refine ⟨fun k=>?_,.inl fun k=>?_⟩
   ·have:=UInt8.lt_iff_toNat_lt.mp k;omega
   ·subst k;omega
  ·subst h1
   refine ⟨fun k=>?_,.inr (IE h2)⟩
   have:=UInt8.lt_iff_toNat_lt.mp k;omega
theorem Jk {p q:List UInt8} (h:RR p q=true):RR q p=false:=by
 simp only [RR,Bool.or_eq_true,Bool.and_eq_true,decide_eq_true_eq] at h
 simp only [RR,Bool.or_eq_false_iff,Bool.and_eq_false_iff,decide_eq_false_iff_not]
 rcases h with h|⟨h1,h2⟩
 ·exact ⟨by omega,.inl (by omega)⟩
 ·exact ⟨by omega,.inr (IE h2)⟩
theorem Iz (l:List UInt8):(DO l).length≤l.length:=by
 unfold DO;split<;>simp
theorem X9 (a b:ByteArray) (ha:(AA a).length≤10000000000) (hb:(AA b).length≤10000000000):AS C1 97 [yd (.string a),yd (.string b)] fun y=>∃(s:ByteArray) (ok:Bool),y=.tup [yd (.string s),yd (.bool ok)]:=by
 refine Pf (by rfl) (by rfl) lT (by rfl) ?_
 simp only [Try.f97,List.length_cons,List.length_nil,List.replicate,List.cons_append,List.nil_append]
 simp -implicitDefEqProofs only [↓yP,yT]
 refine AB (HB a (by omega)) (by rfl) fun y hy=>?_
 obtain ⟨r1,rfl,hr1⟩:=hy
 cases r1 with
 |false=>
  simp -implicitDefEqProofs only [↓yP,yT,reduceCtorEq]
  exact ⟨_,_,rfl⟩
 |true=>
 obtain ⟨an,aD,aZ⟩:=hr1 rfl
 simp -implicitDefEqProofs only [yT]
 refine AB (HB b (by omega)) (by rfl) fun y hy=>?_
 obtain ⟨r2,rfl,hr2⟩:=hy
 cases r2 with
 |false=>
  simp -implicitDefEqProofs only [↓yP,yT,reduceCtorEq]
  exact ⟨_,_,rfl⟩
 |true=>
 obtain ⟨bn,bD,bZ⟩:=hr2 rfl
 simp -implicitDefEqProofs only [↓yP,yT]
 refine AB (L0 a an) (by rfl) fun y hy=>?_
 obtain ⟨x,p,rfl,hp⟩:=hy
 simp -implicitDefEqProofs only [↓yP,yT]
 refine AB (L0 b bn) (by rfl) fun y hy=>?_
 obtain ⟨z,q,rfl,hq⟩:=hy
 rw [←hp] at aD aZ
 rw [←hq] at bD bZ
 have lp:(AA p).length≤10000000000:=by rw [hp];have:=Iz (AA a);omega
 have lq:(AA q).length≤10000000000:=by rw [hq];have:=Iz (AA b);omega
 cases x<;>cases z
 ·simp -implicitDefEqProofs only [↓yP,yT,beq_self_eq_true]
  refine AB (I7 p q 10000000000 lp lq (by omega)) (by rfl) fun y hy=>?_
  obtain ⟨s,rfl,hs⟩:=hy
  cases hq:(AA s==AA ⟨#[48]⟩) with
  |true=>
   simp -implicitDefEqProofs only [↓yP,yT,reduceCtorEq]
   exact ⟨_,_,rfl⟩
  |false=>
   have b1:(AA ⟨#[45]⟩).length+(AA s).length≤140737488355328:=by
    have:(AA ⟨#[45]⟩).length=1:=rfl
    omega
   simp -implicitDefEqProofs only [↓yP,yT,reduceCtorEq]
   exact ⟨_,_,rfl⟩
 ·simp -implicitDefEqProofs only [↓yP,yT]
  refine AB (F2 p q) (by rfl) fun y hy=>?_
  subst hy
  cases hsm:RR (AA p) (AA q) with
  |true=>
   simp -implicitDefEqProofs only [↓yP,yT]
   refine AB (Ev q p (by omega) bD aD bZ (Jk hsm)) (by rfl) fun y hy=>?_
   obtain ⟨s,rfl,hs⟩:=hy
   cases hq:(AA s==AA ⟨#[48]⟩) with
   |true=>
    simp -implicitDefEqProofs only [↓yP,yT,reduceCtorEq,AU,hq]
    exact ⟨_,_,rfl⟩
   |false=>
    have b1:(AA ⟨#[45]⟩).length+(AA s).length≤140737488355328:=by
     have:(AA ⟨#[45]⟩).length=1:=rfl
     omega
    simp -implicitDefEqProofs only [↓yP,yT,reduceCtorEq,AU,Bk,hq,b1]
    exact ⟨_,_,rfl⟩
  |false=>
   simp -implicitDefEqProofs only [↓yP,yT]
   refine AB (Ev p q (by omega) aD bD aZ hsm) (by rfl) fun y hy=>?_
   obtain ⟨s,rfl,hs⟩:=hy
   cases hq:(AA s==AA ⟨#[48]⟩) with
   |true=>
    simp -implicitDefEqProofs only [↓yP,yT,reduceCtorEq]
    exact ⟨_,_,rfl⟩
   |false=>
    have b1:(AA ⟨#[45]⟩).length+(AA s).length≤140737488355328:=by
     have:(AA ⟨#[45]⟩).length=1:=rfl
     omega
    simp -implicitDefEqProofs only [↓yP,yT,reduceCtorEq]
    exact ⟨_,_,rfl⟩
 ·simp -implicitDefEqProofs only [↓yP,yT]
  refine AB (F2 p q) (by rfl) fun y hy=>?_
  subst hy
  cases hsm:RR (AA p) (AA q) with
  |true=>
   simp -implicitDefEqProofs only [↓yP,yT]
   refine AB (Ev q p (by omega) bD aD bZ (Jk hsm)) (by rfl) fun y hy=>?_
   obtain ⟨s,rfl,hs⟩:=hy
   cases hq:(AA s==AA ⟨#[48]⟩) with
   |true=>
    simp -implicitDefEqProofs only [↓yP,yT,reduceCtorEq]
    exact ⟨_,_,rfl⟩
   |false=>
    have b1:(AA ⟨#[45]⟩).length+(AA s).length≤140737488355328:=by
     have:(AA ⟨#[45]⟩).length=1:=rfl
     omega
    simp -implicitDefEqProofs only [↓yP,yT,reduceCtorEq]
    exact ⟨_,_,rfl⟩
  |false=>
   simp -implicitDefEqProofs only [↓yP,yT]
   refine AB (Ev p q (by omega) aD bD aZ hsm) (by rfl) fun y hy=>?_
   obtain ⟨s,rfl,hs⟩:=hy
   cases hq:(AA s==AA ⟨#[48]⟩) with
   |true=>
    simp -implicitDefEqProofs only [↓yP,yT,reduceCtorEq,AU,hq]
    exact ⟨_,_,rfl⟩
   |false=>
    have b1:(AA ⟨#[45]⟩).length+(AA s).length≤140737488355328:=by
     have:(AA ⟨#[45]⟩).length=1:=rfl
     omega
    simp -implicitDefEqProofs only [↓yP,yT,reduceCtorEq,AU,Bk,hq,b1]
    exact ⟨_,_,rfl⟩
 ·simp -implicitDefEqProofs only [↓yP,yT,beq_self_eq_true]
  refine AB (I7 p q 10000000000 lp lq (by omega)) (by rfl) fun y hy=>?_
  obtain ⟨s,rfl,hs⟩:=hy
  cases hq:(AA s==AA ⟨#[48]⟩) with
  |true=>
   simp -implicitDefEqProofs only [↓yP,yT,reduceCtorEq,AU,hq]
   exact ⟨_,_,rfl⟩
  |false=>
   have b1:(AA ⟨#[45]⟩).length+(AA s).length≤140737488355328:=by
    have:(AA ⟨#[45]⟩).length=1:=rfl
    omega
   simp -implicitDefEqProofs only [↓yP,yT,reduceCtorEq,AU,Bk,hq,b1]
   exact ⟨_,_,rfl⟩
end Go.Vx.Seat
end
