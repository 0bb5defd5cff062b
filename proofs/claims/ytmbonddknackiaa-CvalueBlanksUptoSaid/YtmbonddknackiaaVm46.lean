/- Texts joined: VzDf VzDg VzBg VzBh VzBi VzBj VzBk VzBl VyF1. -/
import Derived.Test.YtmbonddknackiaaVm45
import Derived.Test.YtmbonddknackiaaVm43
set_option linter.unusedSimpArgs false
set_option linter.unusedVariables false
section
open Go Go.Vx Go.Proofs
set_option maxRecDepth 10000
set_option maxHeartbeats 16000000
namespace Go.Vx.Seat
attribute [local irreducible] Rg Rt Ro Ri Rc Ds Dt Dw Dx Rw Rl Rd Av An kf
theorem m7 {s:ByteArray} (h:(AA s==AA ⟨#[]⟩)=false):AA s≠[]:=by
 intro e;rw [e] at h;exact absurd h (by decide)
theorem Mq (t:Tok) (g:Good t) (n10:AJ t.kind 10=false) (n11:AJ t.kind 11=false) (n12:AJ t.kind 12=false):AS C1 44 [t.yv] fun y=>∃b:Bool,y=yd (.bool b)∧(b=true→(t.kind=1∨t.kind=2∨t.kind=3∨t.kind=4)→AA t.text≠[]):=by
 obtain ⟨hwr,_,hwl⟩:=FZ t g
 have e5:=d8 t.neg t.digits t.exp
 generalize pY t.neg t.digits t.exp=z5 at e5
 refine Pf (by rfl) (by rfl) mH (by rfl) ?_
 simp only [Try.f44,List.length_cons,List.length_nil,List.replicate,List.cons_append,List.nil_append]
 simp only [Tok.yv,Tok.cs,Tok.pc,List.map_cons,List.map_nil]
 have e6:=Vc t.c0 t.c1 t.c2 t.c3
 generalize mX t.c0 t.c1 t.c2 t.c3=z6 at e6
 have hlt:(AA t.text).length≤4800:=by rw [g.htx,AW];have:=(Bx (My t)).2;have:=g.hll;omega
 have hlu:(AA t.unit).length≤4800:=by rw [g.hun,AW];have:=(Bx (Tm t)).2;have:=g.hul;omega
 cases s0:AN 0 t.start with
 |false=>
  simp -implicitDefEqProofs only [↓yP,yT,reduceCtorEq,s0]
  exact ⟨false,rfl,fun h=>by cases h⟩
 |true=>
 simp -implicitDefEqProofs only [↓yP,yT,s0]
 refine AB (F1 t.text (by omega)) (by rfl) fun y hy=>?_
 obtain ⟨b1,rfl⟩:=hy
 cases b1 with
 |false=>
  simp -implicitDefEqProofs only [↓yP,yT,reduceCtorEq]
  exact ⟨false,rfl,fun h=>by cases h⟩
 |true=>
 simp -implicitDefEqProofs only [yT]
 refine AB (F1 t.unit (by omega)) (by rfl) fun y hy=>?_
 obtain ⟨b2,rfl⟩:=hy
 cases b2 with
 |false=>
  simp -implicitDefEqProofs only [↓yP,yT,reduceCtorEq]
  exact ⟨false,rfl,fun h=>by cases h⟩
 |true=>
 cases z6 with
 |true=>
  simp -implicitDefEqProofs only [↓yP,yT,Nat.reduceAdd,Nat.reduceLeDiff,reduceCtorEq,e6]
  exact ⟨false,rfl,fun h=>by cases h⟩
 |false=>
 cases z5 with
 |true=>
  simp -implicitDefEqProofs only [↓yP,yT,Nat.reduceAdd,Nat.reduceLeDiff,reduceCtorEq,e6,n10,n11,n12,e5]
  exact ⟨false,rfl,fun h=>by cases h⟩
 |false=>
 rcases Bool.eq_false_or_eq_true t.sign with g1|g1
 ·simp -implicitDefEqProofs only [↓yP,yT,Nat.reduceAdd,Nat.reduceLeDiff,reduceCtorEq,e6,n10,n11,n12,e5,g1]
  exact ⟨false,rfl,fun h=>by cases h⟩
 cases u0:(AA t.unit==AA ⟨#[]⟩) with
 |false=>
  simp -implicitDefEqProofs only [↓yP,yT,Nat.reduceAdd,Nat.reduceLeDiff,reduceCtorEq,AU,e6,n10,n11,n12,e5,g1,u0]
  exact ⟨false,rfl,fun h=>by cases h⟩
 |true=>
 cases h4:AJ t.kind 4 with
 |true=>
  have hk4:=AQ h4
  have h1:AJ t.kind 1=false:=by rw [hk4];rfl
  have h2:AJ t.kind 2=false:=by rw [hk4];rfl
  have h3:AJ t.kind 3=false:=by rw [hk4];rfl
  cases x0:(AA t.text==AA ⟨#[]⟩) with
  |true=>
   simp -implicitDefEqProofs only [↓yP,yT,Nat.reduceAdd,Nat.reduceLeDiff,reduceCtorEq,AU,e6,n10,n11,n12,e5,g1,u0,h4,h1,h2,h3]
   refine A8 (by rw [C5];kernel_rfl) ?_
   simp -implicitDefEqProofs only [↓yP,yT,reduceCtorEq,AU,x0]
   exact ⟨false,rfl,fun h=>by cases h⟩
  |false=>
   simp -implicitDefEqProofs only [↓yP,yT,Nat.reduceAdd,Nat.reduceLeDiff,reduceCtorEq,AU,e6,n10,n11,n12,e5,g1,u0,h4,h1,h2,h3]
   refine A8 (by rw [C5];kernel_rfl) ?_
   have hwr':=hwr
   have htl:=DD (Lg t) t (by omega)
   simp only [Tok.yv,Tok.cs,Tok.pc,List.map_cons,List.map_nil,g1] at hwr' htl
   simp -implicitDefEqProofs only [↓yP,yT,Nat.reduceAdd,AU,x0]
   refine AB hwr' (by rfl) fun y hy=>?_
   subst hy
   simp -implicitDefEqProofs only [yT,Nat.reduceAdd]
   refine AB htl (by rfl) fun y hy=>?_
   obtain ⟨b,rfl,hb⟩:=hy
   simp -implicitDefEqProofs only [↓yP,yT,reduceCtorEq]
   exact ⟨b,rfl,fun _ _=>m7 x0⟩
 |false=>
 rcases Bool.eq_false_or_eq_true t.flag with g2|g2
 ·simp -implicitDefEqProofs only [↓yP,yT,Nat.reduceAdd,Nat.reduceLeDiff,reduceCtorEq,AU,e6,n10,n11,n12,e5,g1,u0,h4,g2]
  exact ⟨false,rfl,fun h=>by cases h⟩
 simp -implicitDefEqProofs only [↓yP,yT,Nat.reduceAdd,Nat.reduceLeDiff,reduceCtorEq,AU,e6,n10,n11,n12,e5,g1,u0,h4,g2]
 cases h1:AJ t.kind 1 with
 |true=>
  cases x0:(AA t.text==AA ⟨#[]⟩) with
  |true=>
   simp -implicitDefEqProofs only [↓yP,yT,reduceCtorEq,AU,x0]
   exact ⟨false,rfl,fun h=>by cases h⟩
  |false=>
   simp -implicitDefEqProofs only [↓yP,yT,reduceCtorEq,AU,x0]
   exact ⟨true,rfl,fun _ _=>m7 x0⟩
 |false=>
 cases h3:AJ t.kind 3 with
 |true=>
  cases x0:(AA t.text==AA ⟨#[]⟩) with
  |true=>
   simp -implicitDefEqProofs only [↓yP,yT,reduceCtorEq,AU,h3,x0]
   exact ⟨false,rfl,fun h=>by cases h⟩
  |false=>
   simp -implicitDefEqProofs only [↓yP,yT,reduceCtorEq,AU,h3,x0]
   exact ⟨true,rfl,fun _ _=>m7 x0⟩
 |false=>
 cases h2:AJ t.kind 2 with
 |true=>
  cases x0:(AA t.text==AA ⟨#[]⟩) with
  |true=>
   simp -implicitDefEqProofs only [↓yP,yT,reduceCtorEq,AU,h3,h2,x0]
   exact ⟨false,rfl,fun h=>by cases h⟩
  |false=>
   simp -implicitDefEqProofs only [↓yP,yT,reduceCtorEq,AU,h3,h2,x0]
   exact ⟨true,rfl,fun _ _=>m7 x0⟩
 |false=>
 have oth:∀b:Bool,∃b':Bool,yd (.bool b)=yd (.bool b')∧(b'=true→(t.kind=1∨t.kind=2∨t.kind=3∨t.kind=4)→AA t.text≠[]):=fun b=>⟨b,rfl,fun _ h=>by
  rcases h with h|h|h|h
  ·exact absurd h (A7 h1)
  ·exact absurd h (A7 h2)
  ·exact absurd h (A7 h3)
  ·exact absurd h (A7 h4)⟩
 cases h5:AJ t.kind 5 with
 |true=>
  simp -implicitDefEqProofs only [↓yP,yT,reduceCtorEq,h2,h3,h4,h5]
  exact oth _
 |false=>
 cases h7:AJ t.kind 7 with
 |true=>
  simp -implicitDefEqProofs only [↓yP,yT,reduceCtorEq,h2,h3,h4,h5,h7]
  exact oth _
 |false=>
 cases h8:AJ t.kind 8 with
 |true=>
  have h6:AJ t.kind 6=false:=by rw [AQ h8];rfl
  have h9:AJ t.kind 9=false:=by rw [AQ h8];rfl
  simp -implicitDefEqProofs only [↓yP,yT,Nat.reduceAdd,h2,h3,h4,h5,h7,h6,h8,h9]
  have htl:=DD t.text t (by omega)
  simp only [Tok.yv,Tok.cs,Tok.pc,List.map_cons,List.map_nil,g1,g2] at htl
  refine AB htl (by rfl) fun y hy=>?_
  obtain ⟨b,rfl,hb⟩:=hy
  simp -implicitDefEqProofs only [↓yP,yT,reduceCtorEq]
  exact oth _
 |false=>
 cases h25:AJ t.kind 25 with
 |true=>
  have h6:AJ t.kind 6=false:=by rw [AQ h25];rfl
  have h9:AJ t.kind 9=false:=by rw [AQ h25];rfl
  have s1:=Cc [47,42] (AA t.text) (by simp;omega)
  have s2:=Cc (47::42::AA t.text) [42,47] (by simp;omega)
  have k1:(⟨#[47,42]⟩:ByteArray)=AI [47,42]:=rfl
  have k2:(⟨#[42,47]⟩:ByteArray)=AI [42,47]:=rfl
  rw [Dn] at s1
  simp -implicitDefEqProofs only [↓yP,yT,Nat.reduceAdd,h2,h3,h4,h5,h7,h6,h8,h9,h25,k1,k2,s1,s2]
  have htl:=DD (AI (47::42::(AA t.text++[42,47]))) t (by rw [AD];simp;omega)
  simp only [Tok.yv,Tok.cs,Tok.pc,List.map_cons,List.map_nil,g1,g2] at htl
  refine AB htl (by rfl) fun y hy=>?_
  obtain ⟨b,rfl,hb⟩:=hy
  simp -implicitDefEqProofs only [↓yP,yT,reduceCtorEq]
  exact oth _
 |false=>
 cases h13:AJ t.kind 13 with
 |true=>
  have h6:AJ t.kind 6=false:=by rw [AQ h13];rfl
  have h9:AJ t.kind 9=false:=by rw [AQ h13];rfl
  cases x1:(AA t.text==AA ⟨#[32]⟩) with
  |true=>
   simp -implicitDefEqProofs only [↓yP,yT,reduceCtorEq,At,h2,h3,h4,h5,h7,h6,h8,h9,h25,h13,x1]
   exact oth _
  |false=>
   simp -implicitDefEqProofs only [↓yP,yT,reduceCtorEq,At,h2,h3,h4,h5,h7,h6,h8,h9,h25,h13,x1]
   exact oth _
 |false=>
 cases h69:(AJ t.kind 6||AJ t.kind 9) with
 |true=>
  have hln:=Na t
  simp only [Tok.yv,Tok.cs,Tok.pc,List.map_cons,List.map_nil,g1,g2] at hln
  have t00:(0:Int)≤0:=by omega
  have i00:Int.toNat 0=0:=rfl
  have t01:(0:Int)≤1:=by omega
  have i01:Int.toNat 1=1:=rfl
  cases h6:AJ t.kind 6 with
  |true=>
   have h9:AJ t.kind 9=false:=by rw [AQ h6];rfl
   simp -implicitDefEqProofs only [↓yP,yT,Nat.reduceAdd,h2,h3,h4,h5,h7,h6]
   refine AB hln (by rfl) fun y hy=>?_
   subst hy
   cases lb:Cd t with
   |true=>
    have s1:=Cc (AA t.text) [10] (by simp;omega)
    rw [Dn] at s1
    have k10:(⟨#[10]⟩:ByteArray)=AI [10]:=rfl
    obtain ⟨S,hS⟩:∃S,S=AI (AA t.text++[10]):=⟨_,rfl⟩
    have hSl:(AA S).length≤4801:=by rw [hS,AD];simp;omega
    rw [←hS] at s1
    have hb:(AA S).length≤70368744177664:=by omega
    have hsl:(Aj S).length=(AA S).length:=B4 S
    have hrl:=CN _ (Aj S) (Nat.le_refl _) 0
    have hll:=(Di _ (BI 0 (Aj S)) (Nat.le_refl _)).1
    simp -implicitDefEqProofs only [↓yP,yT,k10,s1,hb,Br]
    rw [←hsl]
    refine DC (Ts _ (Aj S)) (C7 (Aj S) (by omega)) (by rfl) fun y hy=>?_
    subst hy
    simp -implicitDefEqProofs only [yT]
    refine AB (DY _ (by omega)) (by rfl) fun y hy=>?_
    subst hy
    simp -implicitDefEqProofs only [yT]
    refine AB (Ep _ (by omega)) (by rfl) fun y hy=>?_
    subst hy
    generalize List.map bare (BO (BI 0 (Aj S)))=L
    simp -implicitDefEqProofs only [↓yP,yT,Nat.reduceAdd]
    refine A8 (by rw [C5];kernel_rfl) ?_
    by_cases hL:L.length=2
    ·obtain ⟨x,hx⟩:=get_lt (show 0<L.length by omega)
     obtain ⟨z,hz⟩:=get_lt (show 1<L.length by omega)
     have t2:AJ (L.length:Nat) 2=true:=by rw [hL];rfl
     have he1:=JK x (bare t)
     have he2:=JK z (AM 13 (AI [10]))
     simp only [Tok.vals,bare,AM,g1,g2] at he1 he2
     generalize II x _=q1 at he1
     generalize II z _=q2 at he2
     cases q1 with
     |true=>
      simp -implicitDefEqProofs only [↓yP,yT,Nat.reduceAdd,Nat.reduceLeDiff,reduceCtorEq,t2,t00,i00,t01,i01,AP hx,AP hz,Tok.pc,he1,he2]
      exact oth _
     |false=>
      simp -implicitDefEqProofs only [↓yP,yT,Nat.reduceAdd,reduceCtorEq,t2,t00,i00,AP hx,Tok.pc,he1]
      exact oth _
    ·have t2:AJ (L.length:Nat) 2=false:=AF (by omega)
     simp -implicitDefEqProofs only [↓yP,yT,reduceCtorEq,t2]
     exact oth _
   |false=>
    simp -implicitDefEqProofs only [↓yP,yT,reduceCtorEq,h9]
    exact oth _
  |false=>
   have h9:AJ t.kind 9=true:=by rw [h6] at h69;exact h69
   simp -implicitDefEqProofs only [↓yP,yT,Nat.reduceAdd,h2,h3,h4,h5,h7,h6,h9]
   refine AB hln (by rfl) fun y hy=>?_
   subst hy
   cases lb:Cd t with
   |true=>
    have s1:=Cc (AA t.text) [10] (by simp;omega)
    rw [Dn] at s1
    have k10:(⟨#[10]⟩:ByteArray)=AI [10]:=rfl
    obtain ⟨S,hS⟩:∃S,S=AI (AA t.text++[10]):=⟨_,rfl⟩
    have hSl:(AA S).length≤4801:=by rw [hS,AD];simp;omega
    rw [←hS] at s1
    have hb:(AA S).length≤70368744177664:=by omega
    have hsl:(Aj S).length=(AA S).length:=B4 S
    have hrl:=CN _ (Aj S) (Nat.le_refl _) 0
    have hll:=(Di _ (BI 0 (Aj S)) (Nat.le_refl _)).1
    simp -implicitDefEqProofs only [↓yP,yT,k10,s1,hb,Br]
    rw [←hsl]
    refine DC (Ts _ (Aj S)) (C7 (Aj S) (by omega)) (by rfl) fun y hy=>?_
    subst hy
    simp -implicitDefEqProofs only [yT]
    refine AB (DY _ (by omega)) (by rfl) fun y hy=>?_
    subst hy
    simp -implicitDefEqProofs only [yT]
    refine AB (Ep _ (by omega)) (by rfl) fun y hy=>?_
    subst hy
    generalize List.map bare (BO (BI 0 (Aj S)))=L
    simp -implicitDefEqProofs only [↓yP,yT,Nat.reduceAdd]
    refine A8 (by rw [C5];kernel_rfl) ?_
    by_cases hL:L.length=2
    ·obtain ⟨x,hx⟩:=get_lt (show 0<L.length by omega)
     obtain ⟨z,hz⟩:=get_lt (show 1<L.length by omega)
     have t2:AJ (L.length:Nat) 2=true:=by rw [hL];rfl
     have he1:=JK x (bare t)
     have he2:=JK z (AM 13 (AI [10]))
     simp only [Tok.vals,bare,AM,g1,g2] at he1 he2
     generalize II x _=q1 at he1
     generalize II z _=q2 at he2
     cases q1 with
     |true=>
      simp -implicitDefEqProofs only [↓yP,yT,Nat.reduceAdd,Nat.reduceLeDiff,reduceCtorEq,t2,t00,i00,t01,i01,AP hx,AP hz,Tok.pc,he1,he2]
      exact oth _
     |false=>
      simp -implicitDefEqProofs only [↓yP,yT,Nat.reduceAdd,reduceCtorEq,t2,t00,i00,AP hx,Tok.pc,he1]
      exact oth _
    ·have t2:AJ (L.length:Nat) 2=false:=AF (by omega)
     simp -implicitDefEqProofs only [↓yP,yT,reduceCtorEq,t2]
     exact oth _
   |false=>
    simp -implicitDefEqProofs only [↓yP,yT,Nat.reduceAdd,h9]
    have htl:=DD t.text t (by omega)
    simp only [Tok.yv,Tok.cs,Tok.pc,List.map_cons,List.map_nil,g1,g2] at htl
    refine AB htl (by rfl) fun y hy=>?_
    obtain ⟨b,rfl,hb⟩:=hy
    simp -implicitDefEqProofs only [↓yP,yT,reduceCtorEq]
    exact oth _
 |false=>
 rw [Bool.or_eq_false_iff] at h69
 obtain ⟨h6,h9⟩:=h69
 by_cases hs:14≤t.kind∧t.kind≤24
 ·have hk:t.kind=14∨t.kind=15∨t.kind=16∨t.kind=17∨t.kind=18∨t.kind=19∨t.kind=20∨t.kind=21∨t.kind=22∨t.kind=23∨t.kind=24:=by omega
  rcases hk with e|e|e|e|e|e|e|e|e|e|e
  all_goals
   rw [e] at h1 h2 h3 h4 h5 h6 h7 h8 h9 h13 h25 n10 n11 n12
   simp -implicitDefEqProofs only [↓yP,yT,reduceCtorEq,e,At,h2,h3,h4,h5,h6,h7,h8,h9,h13,h25,n10,n11,n12,BN,Int.reduceEq,decide_true,decide_false]
   exact ⟨_,rfl,fun _ h=>h.elim⟩
 ·have m:AJ t.kind 14=false∧AJ t.kind 15=false∧AJ t.kind 16=false∧AJ t.kind 17=false∧AJ t.kind 18=false∧AJ t.kind 19=false∧AJ t.kind 20=false∧AJ t.kind 21=false∧AJ t.kind 22=false∧AJ t.kind 23=false∧AJ t.kind 24=false:=
   ⟨AF (by omega),AF (by omega),AF (by omega),AF (by omega),AF (by omega),AF (by omega),AF (by omega),AF (by omega),AF (by omega),AF (by omega),AF (by omega)⟩
  simp -implicitDefEqProofs only [↓yP,yT,reduceCtorEq,h2,h3,h4,h5,h6,h7,h8,h9,h13,h25,n10,n11,n12,m]
  exact oth _
end Go.Vx.Seat
end
section
open Go Go.Vx Go.Proofs
set_option maxRecDepth 10000
set_option maxHeartbeats 16000000
namespace Go.Vx.Seat
section
variable {C:Cx} {pin:Nat} {e:List YV} {fs:List Fr} {Q:FI} {gs:List (Option Nat)} {rest:List Oper} {d:Option Nat}
theorem Y6 {f:FuncId} {args:List YV} {s:BH} {K:YV→BH→Prop} (h:YC C false f args s K) (hK:∀y s',K y s'→Rg C pin false gs rest fs Q (yput e d y) s'):Av C pin false gs d rest fs Q e f args s:=YC.mono h hK
end
attribute [local irreducible] Rg Rt Ro Ri Rc Ds Dt Dw Dx Rw Rl Rd Av An kf
theorem pS:By C1.P.funcs.toList 45=some Try.f45:=by kernel_rfl
theorem pB:By C1.P.funcs.toList 20=some Try.f20:=by kernel_rfl
theorem Ug (l:List Tok) (hl:l.length≤200000000):YC C1 false 39 [.c (.p (rT l))] [] fun y s=>y=.c (.own 0 13 0 l.length)∧s=[.row 13 ((l.map bare).map Tok.pc)]:=by
 refine oW [] (by rfl) (by rfl) mE (by rfl) ?_
 simp only [Try.f39,List.length_cons,List.length_nil,List.replicate,List.cons_append,List.nil_append]
 simp -implicitDefEqProofs only [↓yP,yT]
 refine Cb 3 13 (by decide) rfl ?_
 refine Ah (fun d e s=>∃(i:Nat) (out:List Tok),e=([.c (.p (rT l)),Tp,Tp,.c (.own 0 13 0 out.length),yd (.int .i64 (i:Nat)),Tp,Tp,Tp,Tp,Tp,Tp,Tp,Tp,Tp,Tp,Tp,Tp,Tp,Tp,Tp,Tp,Tp])∧s=[.row 13 (out.map Tok.pc)]∧i+d=l.length∧out=(l.take i).map bare)
  [true,false,false,true,true] l.length [0] (by decide) (AC _) ⟨0,[],by (simp only [yE];try rfl),by (simp only [yE];try rfl),by omega,by simp⟩ ?_
 rintro d e s ⟨i,out,rfl,rfl,hd,hout⟩
 by_cases hi:i<l.length
 ·obtain ⟨t,ht⟩:=get_lt hi
  have t1:AN (l.length:Nat) (i:Nat)=false:=AE (by omega)
  have w1:AG .i64 ((i:Int)+1)=((i+1:Nat):Int):=AK (by omega)
  have hlen:out.length=i:=by rw [hout];simp;omega
  have b1:(out.length+1)*128≤70368744177664:=by rw [hlen];omega
  simp -implicitDefEqProofs only [↓yP,yT,Nat.reduceAdd,Nat.reduceMul,Nat.reduceLeDiff,reduceCtorEq,t1,AP ht,Tok.pc,b1,w1]
  refine ⟨d - 1,[3],by omega,by decide,AC _,i+1,out++[bare t],by (simp only [yE];try rfl),?_,by omega,by rw [hout,List.take_add_one,ht];simp⟩
  simp only [yE,List.map_append];rfl
 ·have t1:AN (l.length:Nat) (i:Nat)=true:=AH (by omega)
  have hlen:l.take i=l:=List.take_of_length_le (by omega)
  rw [hlen] at hout
  subst hout
  simp -implicitDefEqProofs only [↓yP,yT,reduceCtorEq,t1]
  refine ⟨[0],by decide,AC _,?_,?_⟩
  ·simp only [yE];try rfl
  ·(simp only [yE];try rfl)
def B9 (l:List ByteArray):List UInt8:=l.flatMap AA
theorem LM {K:Nat}:∀(l:List ByteArray),(∀s,s∈l→(AA s).length≤K)→(B9 l).length≤K*l.length
 |[],_=>by simp [B9]
 |s::l,h=>by
  have h1:=h s (List.mem_cons_self ..)
  have h2:=LM l fun x hx=>h x (List.mem_cons_of_mem _ hx)
  rw [B9,List.flatMap_cons,List.length_append]
  rw [B9] at h2
  rw [List.length_cons,Nat.mul_succ];omega
theorem TK (a b:List ByteArray):B9 (a++b)=B9 a++B9 b:=List.flatMap_append ..
theorem S3 {st:BH} {k:Nat} {bs:List Int} (h:By st k=some (.row 1 (bs.map eb))):IT st (.own k 1 0 bs.length)=some (.p (rB bs),st.set k .dead):=by
 simp [IT,ES,h,List.take_of_length_le]
theorem aA {st:BH} {id n:Nat} {W:List Tok} {x:PC} (h:By st id=some (.row 13 (W.map Tok.pc))) (hn:n=W.length):[YV.c (.p x),YV.c (.own id 13 0 n)].map (IV st)=[.c (.p x),.c (.p (rT W))]:=by
 subst hn
 simp [IV,Qk,ES,h,Ch]
theorem nL {st:BH} {id n:Nat} {out:List ByteArray} {x:PC} (h:By st id=some (.row 1 (out.map es))) (hn:n=out.length):[YV.c (.own id 1 0 n),YV.c (.p x)].map (IV st)=[.c (.p (rS out)),.c (.p x)]:=by
 subst hn
 simp [IV,Qk,ES,h,List.take_of_length_le]
noncomputable def Mr (t:Tok):Bool:=AJ t.kind 2&&(AA (Lf t.text)==AA ⟨#[117,114,108]⟩)
theorem T5 (l:List ByteArray) (ts:List Tok) (hlen:l.length=ts.length) (hn:ts.length≤300) (hs:∀s,s∈l→(AA s).length≤500000) (ht:∀t,t∈ts→(AA t.text).length≤4800):
  AS C1 45 [.c (.p (rS l)),.c (.p (rT ts))] fun y=>∃b:Bool,y=yd (.bool b)∧(b=true→(∀t,t∈ts→Cd t=false∧Mr t=false)→(BO (BI 0 (Aj (AI (B9 l))))).map bare=ts.map bare):=by
 have q0:AJ (l.length:Nat) (ts.length:Nat)=true:=by rw [hlen,CV]
 have hcl:(B9 l).length≤150000000:=Nat.le_trans (LM l hs) (by rw [hlen];omega)
 refine Pf (by rfl) (by rfl) pS (by rfl) ?_
 simp only [Try.f45,List.length_cons,List.length_nil,List.replicate,List.cons_append,List.nil_append]
 simp -implicitDefEqProofs only [↓yP,yT,q0]
 refine Ah (fun d e st=>∃i:Nat,e=[.c (.p (rS l)),.c (.p (rT ts)),Tp,Tp,Tp,yd (.string (AI (B9 (l.take i)))),yd (.int .i64 (i:Nat)),Tp,Tp,Tp,Tp,Tp,Tp,Tp,Tp,Tp,Tp,Tp,Tp,Tp,Tp,Tp,Tp,Tp,Tp,Tp,Tp,Tp,Tp,Tp,Tp,Tp,Tp,Tp,Tp,Tp,Tp,Tp,Tp,Tp,Tp,Tp,Tp,Tp,Tp,Tp,Tp,Tp,Tp,Tp,Tp,Tp,Tp,Tp,Tp,Tp,Tp,Tp,Tp,Tp,Tp,Tp,Tp,Tp,Tp,Tp,Tp,Tp,Tp]∧st=[]∧i+d=l.length) [true,true,false,false,false,true,true] l.length [] (by decide) (AC _) ⟨0,by (simp only [yE];try rfl),by (simp only [yE];try rfl),by omega⟩ ?_
 rintro d e st ⟨i,rfl,rfl,hd⟩
 by_cases hi:i<l.length
 ·obtain ⟨x,hx⟩:=get_lt hi
  have t1:AN (l.length:Nat) (i:Nat)=false:=AE (by omega)
  have w1:AG .i64 ((i:Int)+1)=((i+1:Nat):Int):=AK (by omega)
  have hti:(B9 (l.take i)).length≤500000*i:=Nat.le_trans (LM _ fun s h=>hs s (List.mem_of_mem_take h)) (Nat.mul_le_mul_left _ (by rw [List.length_take];omega))
  have hxl:=hs x (List.mem_of_getElem? hx)
  have s1:=Cc (B9 (l.take i)) (AA x) (by omega)
  rw [Dn] at s1
  have e1:B9 (l.take i)++AA x=B9 (l.take (i+1)):=by rw [List.take_add_one,hx,TK];simp [B9]
  rw [e1] at s1
  simp -implicitDefEqProofs only [↓yP,yT,t1,AP hx,es,s1,w1]
  exact ⟨d - 1,[],by omega,by decide,AC _,i+1,by (simp only [yE];try rfl),by (simp only [yE];try rfl),by omega⟩
 ·have t1:AN (l.length:Nat) (i:Nat)=true:=AH (by omega)
  have hlt:l.take i=l:=List.take_of_length_le (by omega)
  rw [hlt]
  simp -implicitDefEqProofs only [↓yP,yT,t1]
  refine Y6 (Ug ts (by omega)) fun y s1 h1=>?_
  obtain ⟨rfl,rfl⟩:=h1
  obtain ⟨W,hW⟩:∃W,W=ts.map bare:=⟨_,rfl⟩
  have hWl:ts.length=W.length:=by rw [hW,List.length_map]
  rw [←hW]
  by_cases h0:0<ts.length
  ·obtain ⟨t,hx⟩:=get_lt (show W.length - 1<ts.length by omega)
   have htm:=List.mem_of_getElem? hx
   have htl:=ht t htm
   have t2:AN (W.length:Nat) 0=false:=AE (by omega)
   have wp:=Bq (show 0<W.length by omega) (show W.length<9000000000000000000 by omega)
   have b1:(W.length+1)*128≤70368744177664:=by omega
   have hln:=Na t
   simp only [Tok.yv,Tok.cs,Tok.pc,List.map_cons,List.map_nil] at hln
   simp -implicitDefEqProofs only [↓yP,yT,Nat.reduceAdd,reduceCtorEq,t2,wp,AP hx,Tok.pc,hWl]
   refine AB hln (by rfl) fun y hy=>?_
   subst hy
   cases lb:Cd t with
   |true=>
    have s1:=Cc (B9 l) [10] (by simp;omega)
    have k10:(⟨#[10]⟩:ByteArray)=AI [10]:=rfl
    simp -implicitDefEqProofs only [↓yP,yT,Nat.reduceAdd,Nat.reduceMul,Nat.reduceLeDiff,reduceCtorEq,k10,s1,b1]
    have hsl:(Aj (AI (B9 l++[10]))).length=(AA (AI (B9 l++[10]))).length:=B4 _
    have hSl:(AA (AI (B9 l++[10]))).length≤150000002:=by rw [AD];(try simp);omega
    have hrl:=CN _ (Aj (AI (B9 l++[10]))) (Nat.le_refl _) 0
    have hll:=(Di _ (BI 0 (Aj (AI (B9 l++[10])))) (Nat.le_refl _)).1
    have hb:(AA (AI (B9 l++[10]))).length≤70368744177664:=by omega
    simp -implicitDefEqProofs only [yT,hb,Br]
    rw [←hsl]
    refine DC (S3 (bs:=Aj (AI (B9 l++[10]))) rfl) (C7 (Aj (AI (B9 l++[10]))) (by omega)) (by rfl) fun y hy=>?_
    subst hy
    simp -implicitDefEqProofs only [yT]
    refine AB (DY _ (by omega)) (by rfl) fun y hy=>?_
    subst hy
    simp -implicitDefEqProofs only [yT]
    refine AB (Ep _ (by omega)) (by rfl) fun y hy=>?_
    subst hy
    simp -implicitDefEqProofs only [yT]
    refine BV (aA (W:=W++[AM 13 (AI [10])]) (by rw [List.map_append];rfl) (by simp)) (E2 _ (W++[AM 13 (AI [10])]) (by rw [List.length_map];omega)) (by rfl) fun y hy=>⟨by obtain ⟨_,rfl,_⟩:=hy;rfl,?_⟩
    obtain ⟨b,rfl,hb⟩:=hy
    simp -implicitDefEqProofs only [↓yP,yT,reduceCtorEq]
    refine ⟨b,rfl,fun h1 h=>?_⟩
    have:=(h t htm).1;rw [lb] at this;cases this
   |false=>
    cases k2:AJ t.kind 2 with
    |true=>
     simp -implicitDefEqProofs only [↓yP,yT,k2]
     refine AB (Lh t.text (by omega)) (by rfl) fun y hy=>?_
     subst hy
     cases ku:(AA (Lf t.text)==AA ⟨#[117,114,108]⟩) with
     |true=>
      have s1:=Cc (B9 l) [34,34] (by simp;omega)
      have k34:(⟨#[34,34]⟩:ByteArray)=AI [34,34]:=rfl
      simp -implicitDefEqProofs only [↓yP,yT,Nat.reduceAdd,Nat.reduceMul,Nat.reduceLeDiff,reduceCtorEq,At,ku,k34,s1,b1]
      have hsl:(Aj (AI (B9 l++[34,34]))).length=(AA (AI (B9 l++[34,34]))).length:=B4 _
      have hSl:(AA (AI (B9 l++[34,34]))).length≤150000002:=by rw [AD];(try simp);omega
      have hrl:=CN _ (Aj (AI (B9 l++[34,34]))) (Nat.le_refl _) 0
      have hll:=(Di _ (BI 0 (Aj (AI (B9 l++[34,34])))) (Nat.le_refl _)).1
      have hb:(AA (AI (B9 l++[34,34]))).length≤70368744177664:=by omega
      simp -implicitDefEqProofs only [yT,hb,Br]
      rw [←hsl]
      refine DC (S3 (bs:=Aj (AI (B9 l++[34,34]))) rfl) (C7 (Aj (AI (B9 l++[34,34]))) (by omega)) (by rfl) fun y hy=>?_
      subst hy
      simp -implicitDefEqProofs only [yT]
      refine AB (DY _ (by omega)) (by rfl) fun y hy=>?_
      subst hy
      simp -implicitDefEqProofs only [yT]
      refine AB (Ep _ (by omega)) (by rfl) fun y hy=>?_
      subst hy
      simp -implicitDefEqProofs only [yT]
      refine BV (aA (W:=W++[AM 5 ⟨#[]⟩]) (by rw [List.map_append];rfl) (by simp)) (E2 _ (W++[AM 5 ⟨#[]⟩]) (by rw [List.length_map];omega)) (by rfl) fun y hy=>⟨by obtain ⟨_,rfl,_⟩:=hy;rfl,?_⟩
      obtain ⟨b,rfl,hb⟩:=hy
      simp -implicitDefEqProofs only [↓yP,yT,reduceCtorEq]
      refine ⟨b,rfl,fun h1 h=>?_⟩
      have:=(h t htm).2;rw [Mr,k2,ku] at this;cases this
     |false=>
      simp -implicitDefEqProofs only [↓yP,yT,Nat.reduceAdd,At,ku]
      have hsl:(Aj (AI (B9 l))).length=(AA (AI (B9 l))).length:=B4 _
      have hSl:(AA (AI (B9 l))).length≤150000002:=by rw [AD];(try simp);omega
      have hrl:=CN _ (Aj (AI (B9 l))) (Nat.le_refl _) 0
      have hll:=(Di _ (BI 0 (Aj (AI (B9 l)))) (Nat.le_refl _)).1
      have hb:(AA (AI (B9 l))).length≤70368744177664:=by omega
      simp -implicitDefEqProofs only [yT,hb,Br]
      rw [←hsl]
      refine DC (S3 (bs:=Aj (AI (B9 l))) rfl) (C7 (Aj (AI (B9 l))) (by omega)) (by rfl) fun y hy=>?_
      subst hy
      simp -implicitDefEqProofs only [yT]
      refine AB (DY _ (by omega)) (by rfl) fun y hy=>?_
      subst hy
      simp -implicitDefEqProofs only [yT]
      refine AB (Ep _ (by omega)) (by rfl) fun y hy=>?_
      subst hy
      simp -implicitDefEqProofs only [yT]
      refine BV (aA (W:=W) (by rfl) (by simp)) (E2 _ (W) (by rw [List.length_map];omega)) (by rfl) fun y hy=>⟨by obtain ⟨_,rfl,_⟩:=hy;rfl,?_⟩
      obtain ⟨b,rfl,hb⟩:=hy
      simp -implicitDefEqProofs only [↓yP,yT,reduceCtorEq]
      refine ⟨b,rfl,fun h1 h=>?_⟩
      exact hb.mp h1
    |false=>
     simp -implicitDefEqProofs only [↓yP,yT,Nat.reduceAdd,k2]
     have hsl:(Aj (AI (B9 l))).length=(AA (AI (B9 l))).length:=B4 _
     have hSl:(AA (AI (B9 l))).length≤150000002:=by rw [AD];(try simp);omega
     have hrl:=CN _ (Aj (AI (B9 l))) (Nat.le_refl _) 0
     have hll:=(Di _ (BI 0 (Aj (AI (B9 l)))) (Nat.le_refl _)).1
     have hb:(AA (AI (B9 l))).length≤70368744177664:=by omega
     simp -implicitDefEqProofs only [yT,hb,Br]
     rw [←hsl]
     refine DC (S3 (bs:=Aj (AI (B9 l))) rfl) (C7 (Aj (AI (B9 l))) (by omega)) (by rfl) fun y hy=>?_
     subst hy
     simp -implicitDefEqProofs only [yT]
     refine AB (DY _ (by omega)) (by rfl) fun y hy=>?_
     subst hy
     simp -implicitDefEqProofs only [yT]
     refine AB (Ep _ (by omega)) (by rfl) fun y hy=>?_
     subst hy
     simp -implicitDefEqProofs only [yT]
     refine BV (aA (W:=W) (by rfl) (by simp)) (E2 _ (W) (by rw [List.length_map];omega)) (by rfl) fun y hy=>⟨by obtain ⟨_,rfl,_⟩:=hy;rfl,?_⟩
     obtain ⟨b,rfl,hb⟩:=hy
     simp -implicitDefEqProofs only [↓yP,yT,reduceCtorEq]
     refine ⟨b,rfl,fun h1 h=>?_⟩
     exact hb.mp h1
  ·have t2:AN (W.length:Nat) 0=true:=AH (by omega)
   simp -implicitDefEqProofs only [↓yP,yT,hWl,t2]
   have hsl:(Aj (AI (B9 l))).length=(AA (AI (B9 l))).length:=B4 _
   have hSl:(AA (AI (B9 l))).length≤150000002:=by rw [AD];(try simp);omega
   have hrl:=CN _ (Aj (AI (B9 l))) (Nat.le_refl _) 0
   have hll:=(Di _ (BI 0 (Aj (AI (B9 l)))) (Nat.le_refl _)).1
   have hb:(AA (AI (B9 l))).length≤70368744177664:=by omega
   simp -implicitDefEqProofs only [yT,hb,Br]
   rw [←hsl]
   refine DC (S3 (bs:=Aj (AI (B9 l))) rfl) (C7 (Aj (AI (B9 l))) (by omega)) (by rfl) fun y hy=>?_
   subst hy
   simp -implicitDefEqProofs only [yT]
   refine AB (DY _ (by omega)) (by rfl) fun y hy=>?_
   subst hy
   simp -implicitDefEqProofs only [yT]
   refine AB (Ep _ (by omega)) (by rfl) fun y hy=>?_
   subst hy
   simp -implicitDefEqProofs only [yT]
   refine BV (aA (W:=W) (by rfl) (by simp)) (E2 _ (W) (by rw [List.length_map];omega)) (by rfl) fun y hy=>⟨by obtain ⟨_,rfl,_⟩:=hy;rfl,?_⟩
   obtain ⟨b,rfl,hb⟩:=hy
   simp -implicitDefEqProofs only [↓yP,yT,reduceCtorEq]
   refine ⟨b,rfl,fun h1 h=>?_⟩
   exact hb.mp h1
def Zs (t:Tok):Prop:=
 (nums t.kind→Jt t≠[]∧(t.sign&&t.neg)=false∧(BO (BI 0 (Aj (Lg t)))).map bare=[bare t])∧((t.kind=1∨t.kind=2∨t.kind=3∨t.kind=4)→AA t.text≠[])
theorem O9 (t:Tok) (g:Good t):AS C1 44 [t.yv] fun y=>∃b:Bool,y=yd (.bool b)∧(b=true→Zs t):=by
 by_cases hk:nums t.kind
 ·exact (Oa t g hk).mono fun y ⟨b,h1,h2⟩=>⟨b,h1,fun h=>⟨fun _=>h2 h,fun h3=>by unfold nums at hk;omega⟩⟩
 ·exact (Mq t g (AF fun h=>hk (.inl h)) (AF fun h=>hk (.inr (.inl h))) (AF fun h=>hk (.inr (.inr h)))).mono fun y ⟨b,h1,h2⟩=>⟨b,h1,fun h=>⟨fun h3=>absurd h3 hk,h2 h⟩⟩
theorem T6 (ts:List Tok) (hn:ts.length≤300) (hg:∀t,t∈ts→Good t):AS C1 20 [.c (.p (rT ts))] fun y=>∃b:Bool,y=yd (.bool b)∧
  (b=true→(∀t,t∈ts→Zs t)∧((∀t,t∈ts→Cd t=false∧Mr t=false)→(BO (BI 0 (Aj (AI (B9 (ts.map Lg)))))).map bare=ts.map bare)):=by
 refine Pf (by rfl) (by rfl) pB (by rfl) ?_
 simp only [Try.f20,List.length_cons,List.length_nil,List.replicate,List.cons_append,List.nil_append]
 simp -implicitDefEqProofs only [↓yP,yT]
 refine Cb 3 1 (by decide) rfl ?_
 refine Ah (fun d e st=>∃(i:Nat) (out:List ByteArray),e=[.c (.p (rT ts)),Tp,Tp,.c (.own 0 1 0 out.length),yd (.int .i64 (i:Nat)),Tp,Tp,Tp,Tp,Tp,Tp,Tp,Tp,Tp,Tp,Tp,Tp,Tp,Tp,Tp,Tp,Tp,Tp,Tp,Tp,Tp,Tp,Tp]∧st=[.row 1 (out.map es)]∧i+d=ts.length∧out=(ts.take i).map Lg∧∀t,t∈ts.take i→Zs t) [true,false,false,true,true] ts.length [0] (by decide) (AC _) ⟨0,[],by (simp only [yE];try rfl),by (simp only [yE];try rfl),by omega,by simp,by simp⟩ ?_
 rintro d e st ⟨i,out,rfl,rfl,hd,hout,hR⟩
 by_cases hi:i<ts.length
 ·obtain ⟨t,hx⟩:=get_lt hi
  have htm:=List.mem_of_getElem? hx
  have g:=hg t htm
  have t1:AN (ts.length:Nat) (i:Nat)=false:=AE (by omega)
  have w1:AG .i64 ((i:Int)+1)=((i+1:Nat):Int):=AK (by omega)
  have hrt:=O9 t g
  obtain ⟨hwr,_,_⟩:=FZ t g
  simp only [Tok.yv,Tok.cs,Tok.pc,List.map_cons,List.map_nil] at hrt hwr
  have htk:ts.take (i+1)=ts.take i++[t]:=by rw [List.take_add_one,hx];rfl
  have hol:out.length≤300:=by rw [hout,List.length_map,List.length_take];omega
  have b1:(out.length+1)*16≤70368744177664:=by omega
  simp -implicitDefEqProofs only [↓yP,yT,Nat.reduceAdd,reduceCtorEq,t1,AP hx,Tok.pc]
  refine AB hrt (by rfl) fun y hy=>?_
  obtain ⟨b,rfl,hb⟩:=hy
  cases b with
  |false=>
   simp -implicitDefEqProofs only [↓yP,yT,reduceCtorEq]
   exact ⟨false,rfl,fun h=>by cases h⟩
  |true=>
   simp -implicitDefEqProofs only [↓yP,yT,Nat.reduceAdd,reduceCtorEq,AP hx,Tok.pc]
   refine AB hwr (by rfl) fun y hy=>?_
   subst hy
   simp -implicitDefEqProofs only [↓yP,yT,Nat.reduceAdd,Nat.reduceMul,Nat.reduceLeDiff,reduceCtorEq,b1,w1]
   refine ⟨d - 1,[2],by omega,by decide,AC _,i+1,out++[Lg t],by (simp only [yE];try rfl),?_,by omega,by rw [htk,List.map_append,hout];rfl,fun u hu=>?_⟩
   ·simp only [yE,List.map_append];rfl
   ·rw [htk] at hu
    rcases List.mem_append.mp hu with hu|hu
    ·exact hR u hu
    ·rw [List.mem_singleton.mp hu];exact hb rfl
 ·have t1:AN (ts.length:Nat) (i:Nat)=true:=AH (by omega)
  rw [List.take_of_length_le (by omega)] at hR hout
  subst hout
  have htx:=T5 (ts.map Lg) ts (by rw [List.length_map]) hn (fun s hs=>by obtain ⟨t,ht,rfl⟩:=List.mem_map.mp hs;exact (FZ t (hg t ht)).2.2) (fun t ht=>by have g:=hg t ht;rw [g.htx,AW];have:=(Bx (My t)).2;have:=g.hll;omega)
  simp -implicitDefEqProofs only [↓yP,yT,t1]
  refine BV (args0:=[.c (.p (rS (ts.map Lg))),.c (.p (rT ts))]) (nL rfl (by simp)) htx (by rfl) fun y hy=>⟨by obtain ⟨_,rfl,_⟩:=hy;rfl,?_⟩
  obtain ⟨b,rfl,hb⟩:=hy
  simp -implicitDefEqProofs only [↓yP,yT,reduceCtorEq]
  exact ⟨b,rfl,fun h=>⟨hR,hb h⟩⟩
end Go.Vx.Seat
end
section
open Go Go.Vx Go.Proofs
namespace Go.Vx.Seat
theorem Pc.kind9 {t:Tok} {P:List Int} (h:Pc t P):t.kind≠9:=by
 cases h with
 |num hP h=>
  rcases h.un with ⟨k,_⟩|⟨k,_⟩|⟨k,_⟩<;>(rw [k];decide)
 |sign hc=>exact hc
 |ident=>exact (by decide:(1:Int)≠9)
 |func=>exact (by decide:(2:Int)≠9)
 |«at»=>exact (by decide:(3:Int)≠9)
 |hash=>exact (by decide:(4:Int)≠9)
 |str=>exact (by decide:(5:Int)≠9)
 |url=>exact (by decide:(7:Int)≠9)
 |comm=>exact (by decide:(25:Int)≠9)
 |nl=>exact (by decide:(13:Int)≠9)
 |sp=>exact (by decide:(13:Int)≠9)
 |cdo=>exact (by decide:(14:Int)≠9)
 |cdc=>exact (by decide:(15:Int)≠9)
def mZ (t:Tok) (c:Int):Prop:=
 ((t.kind=1∨t.kind=2)∧(DB c=true∨c=92)∧AL c=false)∨(nums t.kind∧(AL c=true∨c=43∨c=45∨c=46))∨
 (t.kind=7∧c=117)∨(t.kind=15∧c=45)∨(t.kind=13∧(c=10∨c=32))∨((t.kind=3∨t.kind=4∨t.kind=5∨t.kind=25∨t.kind=14)∧(c=64∨c=35∨c=34∨c=39∨c=47∨c=60))∨
 (16≤t.kind∧t.kind≤24∧(c=58∨c=59∨c=44∨c=123∨c=125∨c=40∨c=41∨c=91∨c=93))
theorem Fx {c:Int} (h:Bp c≠9):16≤Bp c∧Bp c≤24∧(c=58∨c=59∨c=44∨c=123∨c=125∨c=40∨c=41∨c=91∨c=93):=by
 have hx:c=58∨c=59∨c=44∨c=123∨c=125∨c=40∨c=41∨c=91∨c=93:=by
  simp only [Bp,BN] at h
  by_cases a1:c=58;· omega
  by_cases a2:c=59;· omega
  by_cases a3:c=44;· omega
  by_cases a4:c=123;· omega
  by_cases a5:c=125;· omega
  by_cases a6:c=40;· omega
  by_cases a7:c=41;· omega
  by_cases a8:c=91;· omega
  by_cases a9:c=93;· omega
  exfalso;apply h;simp [a1,a2,a3,a4,a5,a6,a7,a8,a9]
 refine ⟨?_,?_,hx⟩<;>(rcases hx with e|e|e|e|e|e|e|e|e<;>(rw [e];decide))
theorem i6 {t:Tok} {s A B C V:List Rn} (h:Nu t s A B C V):∃x L,s++(A++(B++(C++V)))=x::L∧(AL x.r=true∨x.r=43∨x.r=45∨x.r=46)∧(s=[]→A=[]→x.r=46)∧(s=[]→A≠[]→AL x.r=true∧hd A=x.r)∧(s≠[]→hd s=x.r):=by
 rcases h.cut.sg with rfl|⟨z,rfl,hz⟩
 ·cases hA:A with
  |nil=>
   rcases h.cut.pt with rfl|⟨p,F,rfl,hp,_⟩
   ·rcases h.cut.ne with k|k
    ·exact absurd hA k
    ·exact absurd rfl k
   ·exact ⟨p,F++(C++V),rfl,.inr (.inr (.inr hp)),fun _ _=>hp,fun _ k=>absurd rfl k,fun k=>absurd rfl k⟩
  |cons x A'=>
   have hx:AL x.r=true:=h.cut.dg x (by rw [hA];exact List.mem_cons_self ..)
   exact ⟨x,A'++(B++(C++V)),rfl,.inl hx,fun _ k=>(by cases k),fun _ _=>⟨hx,rfl⟩,fun k=>absurd rfl k⟩
 ·exact ⟨z,A++(B++(C++V)),rfl,by rcases hz with k|k;exact .inr (.inl k);exact .inr (.inr (.inl k)),fun k=>(by cases k),fun k=>(by cases k),fun _=>rfl⟩
theorem Pc.head {t:Tok} {P:List Int} (h:Pc t P):∃c u,P=c::u∧mZ t c:=by
 cases h with
 |ident hl hv=>
  obtain ⟨c,u,e,h1,h2⟩:=LV hl
  exact ⟨c,u,e,.inl ⟨.inl rfl,h1,h2⟩⟩
 |func hl hv hn=>
  obtain ⟨c,u,e,h1,h2⟩:=LV hl
  exact ⟨c,u++[40],by rw [e];rfl,.inl ⟨.inr rfl,h1,h2⟩⟩
 |«at» hl hv=>exact ⟨64,_,rfl,.inr (.inr (.inr (.inr (.inr (.inl ⟨.inl rfl,.inl rfl⟩)))))⟩
 |hash f hl hv=>exact ⟨35,_,rfl,.inr (.inr (.inr (.inr (.inr (.inl ⟨.inr (.inl rfl),.inr (.inl rfl)⟩)))))⟩
 |str hq hv=>exact ⟨_,_,rfl,.inr (.inr (.inr (.inr (.inr (.inl ⟨.inr (.inr (.inl rfl)),by rcases hq with k|k;exact .inr (.inr (.inl k));exact .inr (.inr (.inr (.inl k)))⟩)))))⟩
 |url hv=>exact ⟨117,_,rfl,.inr (.inr (.inl ⟨rfl,rfl⟩))⟩
 |num hP h=>
  obtain ⟨x,L,e,hx,_⟩:=i6 h
  rw [e] at hP
  cases P with
  |nil=>cases hP
  |cons c u=>
   rw [Qh] at hP
   injection hP with h1 h2
   refine ⟨c,u,rfl,.inr (.inl ⟨?_,?_⟩)⟩
   ·rcases h.un with ⟨k,_⟩|⟨k,_⟩|⟨k,_⟩
    ·exact .inl k
    ·exact .inr (.inl k)
    ·exact .inr (.inr k)
   ·rw [←h1] at hx;exact hx
 |comm hv=>exact ⟨47,_,rfl,.inr (.inr (.inr (.inr (.inr (.inl ⟨.inr (.inr (.inr (.inl rfl))),.inr (.inr (.inr (.inr (.inl rfl))))⟩)))))⟩
 |nl=>exact ⟨10,_,rfl,.inr (.inr (.inr (.inr (.inl ⟨rfl,.inl rfl⟩))))⟩
 |sp=>exact ⟨32,_,rfl,.inr (.inr (.inr (.inr (.inl ⟨rfl,.inr rfl⟩))))⟩
 |cdo=>exact ⟨60,_,rfl,.inr (.inr (.inr (.inr (.inr (.inl ⟨.inr (.inr (.inr (.inr rfl))),.inr (.inr (.inr (.inr (.inr rfl))))⟩)))))⟩
 |cdc=>exact ⟨45,_,rfl,.inr (.inr (.inr (.inl ⟨rfl,rfl⟩)))⟩
 |sign hc=>
  obtain ⟨h1,h2,h3⟩:=Fx hc
  exact ⟨_,[],rfl,.inr (.inr (.inr (.inr (.inr (.inr ⟨h1,h2,h3⟩)))))⟩
theorem jV {t:Tok} {c:Int} (h:mZ t c):c≠62:=by
 rintro rfl
 rcases h with ⟨_,h|h,_⟩|⟨_,h|h|h|h⟩|⟨_,h⟩|⟨_,h⟩|⟨_,h|h⟩|⟨_,h⟩|⟨_,_,h⟩
 all_goals first
  |exact absurd h (by decide)
def Nx (S:List Rn):Prop:=S=[]∨∃t P Y,Pc t P∧S=rn P++Y
theorem Nx.ne62 {S:List Rn} (h:Nx S):hd S≠62:=by
 rcases h with rfl|⟨t,P,Y,hp,rfl⟩
 ·decide
 ·obtain ⟨c,u,rfl,hc⟩:=hp.head
  exact jV hc
inductive Al (S X:List Rn):Prop where
 |nil (h:X=[])
 |blank (h:Ad (hd X)=true)
 |same {t:Tok} {P:List Int} {Y Y':List Rn} (hp:Pc t P) (hS:S=rn P++Y) (hX:X=rn P++Y') (h1:(Ak S).1=t) (h2:(Ak X).1=t)
theorem Al.hd {S X:List Rn} (h:Al S X):Seat.hd X= -1∨Ad (Seat.hd X)=true∨Seat.hd X=Seat.hd S:=by
 cases h with
 |nil h=>exact .inl (by rw [h];rfl)
 |blank h=>exact .inr (.inl h)
 |same hp hS hX h1 h2=>
  obtain ⟨c,u,rfl,hc⟩:=hp.head
  exact .inr (.inr (by rw [hS,hX];rfl))
theorem Al.ne {S X:List Rn} (h:Al S X) {c:Int} (hS:Seat.hd S≠c) (h1:c≠ -1) (h2:Ad c=false):Seat.hd X≠c:=by
 rcases h.hd with k|k|k
 ·rw [k];exact fun e=>h1 e.symm
 ·intro e;rw [e,h2] at k;cases k
 ·rw [k];exact hS
theorem HT {S:List Rn} (h:(AT S).1=[]):AT S=([],S)∧DB (hd S)=false∧esc0 S=false:=by
 cases S with
 |nil=>exact ⟨BU,rfl,rfl⟩
 |cons x r=>
  cases h1:DB x.r with
  |true=>
   rw [BM h1] at h
   have:=(Bj x.r).1
   have h2:=(List.append_eq_nil_iff.mp h).1
   rw [h2] at this;simp at this
  |false=>
   cases h2:esc0 (x::r) with
   |true=>
    rw [Cj h1 h2] at h
    have:=(Bj (BZ r).1).1
    have h3:=(List.append_eq_nil_iff.mp h).1
    rw [h3] at this;simp at this
   |false=>exact ⟨Cw h1 h2,h1,rfl⟩
theorem Pk {X:List Rn} (h1:DB (hd X)=false) (h2:esc0 X=false):AT X=([],X):=by
 cases X with
 |nil=>exact BU
 |cons x r=>exact Cw h1 h2
theorem Rk {r:Int} (h:Ad r=true):DB r=false∧r≠92:=by
 rcases Kz h with e|e|e<;>(rw [e];decide)
theorem Yo {S:List Rn} (h:hd S=92) (h2:esc0 S=false):(Ak S).1.kind=9:=by
 have hb:Ag S=false:=by
  cases S with
  |nil=>rfl
  |cons x r=>
   have hx:x.r=92:=h
   show (if AJ x.r 45=true then _ else Bm x.r||esc0 (x::r))=false
   rw [h2,hx];rfl
 unfold Ak
 rw [FV (by rw [h];decide),Hr (by rw [h];decide) (by rw [h];decide) (by rw [h];decide) (by rw [h];decide),Qd (by rw [h];decide),Q8 (by rw [h];decide),hb,h]
 rfl
theorem Al.take {S X:List Rn} (h:Al S X) (hS:(AT S).1=[]):AT X=([],X)∧DB (Seat.hd X)=false∧esc0 X=false:=by
 obtain ⟨_,a,b⟩:=HT hS
 have key:DB (Seat.hd X)=false∧esc0 X=false:=by
  cases h with
  |nil h=>rw [h];exact ⟨rfl,rfl⟩
  |blank h=>
   obtain ⟨k1,k2⟩:=Rk h
   refine ⟨k1,?_⟩
   rw [esc0,AF k2];rfl
  |same hp hS' hX h1 h2=>
   have h1k:=hp.kind9
   obtain ⟨c,u,rfl,hc⟩:=hp.head
   have e1:Seat.hd S=c:=by rw [hS'];rfl
   have e2:Seat.hd X=c:=by rw [hX];rfl
   rw [e2,←e1]
   refine ⟨a,?_⟩
   cases k:esc0 X with
   |false=>rfl
   |true=>
    exfalso
    have hx:Seat.hd X=92:=by
     rw [esc0,Bool.and_eq_true] at k;exact AQ k.1
    rw [←h1] at h1k
    exact h1k (Yo (by rw [e1,←e2];exact hx) b)
 exact ⟨Pk key.1 key.2,key.1,key.2⟩
theorem GA {a b:List Int} (h:AO (a++b)=AO a):b=[]:=by
 have:=congrArg (fun s=>(AA s).length) h
 simp only [AW,List.length_append] at this
 exact List.eq_nil_of_length_eq_zero (by omega)
theorem IZ {k:Int} {a b:ByteArray} (h:AM k a=AM k b):a=b:=congrArg Tok.text h
theorem S2 {c:Int} {u:List Rn} (h1:DB c=true∨c=92):Pre (⟨c,0⟩::u)∧hd (⟨c,0⟩::u)≠60:=by
 have key:∀k:Int,DB k=false→k≠92→c≠k:=fun k a b e=>by
  subst e
  rcases h1 with h1|h1
  ·rw [a] at h1;cases h1
  ·exact b h1
 refine ⟨⟨key 47 rfl (by decide),?_,key 34 rfl (by decide),key 39 rfl (by decide),key 35 rfl (by decide)⟩,key 60 rfl (by decide)⟩
 exact E5 (key 32 rfl (by decide)) (key 9 rfl (by decide)) (key 10 rfl (by decide))
theorem NG {l:List Int} (hl:l≠[]) (Y:List Rn) {X:List Rn} (hX:hd X≠62):Ak (rn (DL true l)++X)=BG (rn (DL true l)++X):=by
 obtain ⟨c,u,e,h1,h2⟩:=LV hl
 obtain ⟨b1,b2,b3⟩:=FC hl X
 have hp:Pre (rn (DL true l)++X)∧hd (rn (DL true l)++X)≠60:=by rw [e];exact S2 h1
 exact QG hp.1 b2 (b3 hX) hp.2 b1
theorem XQ {L:List Rn} {a:List Int} {b:List Rn} (h:AT L=(a,b)) (hb:hd b=40) (hn:(AA (Lf (AO a))==AA ⟨#[117,114,108]⟩)=false):BG L=(AM 2 (AO a),b.drop 1):=by
 unfold BG
 simp only [h]
 rw [hb,hn];rfl
theorem Pe {L:List Rn} {a:List Int} {b:List Rn} (h:AT L=(a,b)) (hb:hd b≠40):BG L=(AM 1 (AO a),b):=by
 unfold BG
 simp only [h]
 rw [AF hb];rfl
theorem Tu {L:List Rn} (h:(BG L).1.kind=1):hd (AT L).2≠40:=by
 intro e
 unfold BG at h
 simp only at h
 rw [e] at h
 simp only [show AJ 40 40=true from rfl,if_true] at h
 revert h
 refine AZ (p:=fun q:Tok×List Rn=>q.1.kind=1→False) (fun _ h=>?_) fun _ h=>absurd h (by decide:(2:Int)≠1)
 rcases Lu L ((AT L).2.drop 1) with k|k<;>(rw [k] at h;exact absurd h (by decide))
end Go.Vx.Seat
end
section
open Go Go.Vx Go.Proofs
namespace Go.Vx.Seat
theorem OC (l:List Int):A9 (rn l)=enc l:=by
 induction l with
 |nil=>rfl
 |cons r l ih=>rw [Qh,Aa,←ih];rfl
theorem B1 {α β:Type} {a c:α} {b d:β} (h:(a,b)=(c,d)):a=c∧b=d:=by cases h;exact ⟨rfl,rfl⟩
theorem Tx {q:Bool} {r:Int} (L:List Rn):(DB (hd (rn (Km q r)++L))||esc0 (rn (Km q r)++L))=true:=by
 obtain ⟨c,u,e,hc⟩:=D5 q (r:=r)
 rw [e]
 rcases hc with ⟨rfl,hi,rfl,_⟩|⟨rfl,d,v,rfl,hd⟩
 ·show (DB c||_)=true
  rw [hi];rfl
 ·show (DB 92||(AJ 92 92&& !AJ d 10))=true
  rw [AF hd];rfl
theorem jX {f:Bool} {l:List Int} (hl:l≠[]) (X:List Rn):(DB (hd (rn (DL f l)++X))||esc0 (rn (DL f l)++X))=true:=by
 cases l with
 |nil=>exact absurd rfl hl
 |cons r l=>
  cases f with
  |false=>
   show (DB (hd (rn (Km false r++KX l)++X))||esc0 (rn (Km false r++KX l)++X))=true
   rw [Cu,List.append_assoc];exact Tx _
  |true=>
   cases l with
   |nil=>
    simp only [DL]
    by_cases k:AJ r 45=true
    ·rw [if_pos k];rfl
    ·rw [if_neg k];exact Tx X
   |cons s l=>
    simp only [DL]
    rw [Cu,List.append_assoc];exact Tx _
theorem U9 {l:List Int} (hl:l≠[]) {S X:List Rn} (hS:DB (hd S)=false∧esc0 S=false) (hX:DB (hd X)=false∧esc0 X=false):Ag (rn (KX l)++X)=Ag (rn (KX l)++S):=by
 have stop:∀Y:List Rn,DB (hd Y)=false∧esc0 Y=false→(Bm (hd Y)||AJ (hd Y) 45||esc0 Y)=false:=fun Y ⟨a,b⟩=>by
  simp only [DB,Bool.or_eq_false_iff] at a
  rw [a.1.1,a.2,b];rfl
 cases l with
 |nil=>exact absurd rfl hl
 |cons r l=>
  obtain ⟨c,u,e,hc⟩:=D5 false (r:=r)
  rw [KX,e]
  rcases hc with ⟨rfl,hi,rfl,_⟩|⟨rfl,d,v,rfl,hd⟩
  ·have h92:c≠92:=by rintro rfl;exact absurd hi (by decide)
   have e0:∀Y:List Rn,Ag (rn ([c]++KX l)++Y)=if AJ c 45=true then Bm (Seat.hd (rn (KX l)++Y))||AJ (Seat.hd (rn (KX l)++Y)) 45||esc0 (rn (KX l)++Y) else Bm c||(AJ c 92&& !AJ (Seat.hd (rn (KX l)++Y)) 10):=fun Y=>rfl
   rw [e0,e0,AF h92]
   simp only [Bool.false_and]
   cases l with
   |nil=>
    have a:=stop S hS
    have b:=stop X hX
    show (if AJ c 45=true then Bm (Seat.hd X)||AJ (Seat.hd X) 45||esc0 X else _)=(if AJ c 45=true then Bm (Seat.hd S)||AJ (Seat.hd S) 45||esc0 S else _)
    rw [a,b]
   |cons z l=>
    obtain ⟨c2,u2,e2,hc2⟩:=D5 false (r:=z)
    rw [KX,e2]
    rcases hc2 with ⟨rfl,hi2,rfl,_⟩|⟨rfl,d2,v2,rfl,hd2⟩
    ·have h92':c2≠92:=by rintro rfl;exact absurd hi2 (by decide)
     have e3:∀Y:List Rn,esc0 (rn ([c2]++KX l)++Y)=false:=fun Y=>by
      show (AJ c2 92&&_)=false
      rw [AF h92'];rfl
     rw [e3,e3];rfl
    ·rfl
  ·rfl
theorem W8 (Y:List Rn):AT (rn [117,114,108,40]++Y)=([117,114,108],⟨40,0⟩::Y):=by
 show AT (⟨117,0⟩::⟨114,0⟩::⟨108,0⟩::⟨40,0⟩::Y)=_
 rw [BM rfl,BM rfl,BM rfl,Cw rfl rfl]
 rfl
theorem FQ {Y:List Rn} (h:Ad (hd Y)=false):Aq Y=Y:=by
 cases Y with
 |nil=>rfl
 |cons x Y=>
  have hx:Ad x.r=false:=h
  rw [Aq,List.dropWhile_cons_of_neg (by simp [hx])]
theorem Oi {l:List Int} (hv:IM l) (X:List Rn):BG (rn ([117,114,108,40]++(Gg l++[41]))++X)=if (AA (Lf (AO [117,114,108]))==AA ⟨#[117,114,108]⟩)=true then (AM 7 (AO (enc l)),X) else (AM 2 (AO [117,114,108]),rn (Gg l++[41])++X):=by
 obtain ⟨h1,h2,h3⟩:=Z7 l X
 rw [Cu,List.append_assoc]
 unfold BG
 simp only [W8]
 show (if AJ 40 40=true then if ((AA (Lf (AO [117,114,108]))==AA ⟨#[117,114,108]⟩)&& !AJ (hd (Aq (rn (Gg l++[41])++X))) 34&& !AJ (hd (Aq (rn (Gg l++[41])++X))) 39)=true then D7 _ (rn (Gg l++[41])++X) else (AM 2 (AO [117,114,108]),rn (Gg l++[41])++X) else _)=_
 rw [if_pos (by rfl),FQ h1,h2,h3]
 simp only [Bool.not_false,Bool.and_true]
 by_cases k:(AA (Lf (AO [117,114,108]))==AA ⟨#[117,114,108]⟩)=true
 ·rw [if_pos k,if_pos k]
  unfold D7
  rw [FQ h1,SW X l hv]
 ·rw [if_neg k,if_neg k]
theorem VQ {l:List Int} (hv:IM l) (X:List Rn):Ak (rn ([117,114,108,40]++(Gg l++[41]))++X)=BG (rn ([117,114,108,40]++(Gg l++[41]))++X):=by
 obtain ⟨b1,b2,b3⟩:=H0 (r:=117) (v:=⟨114,0⟩::⟨108,0⟩::⟨40,0⟩::(rn (Gg l++[41])++X)) rfl rfl (by decide)
 have hp:=S2 (c:=117) (u:=⟨114,0⟩::⟨108,0⟩::⟨40,0⟩::(rn (Gg l++[41])++X)) (.inl rfl)
 exact QG hp.1 b2 b3 hp.2 b1
theorem eV (X:List Rn):Ak (rn [60,33,45,45]++X)=(AM 14 ⟨#[]⟩,X):=by
 have h:hd (rn [60,33,45,45]++X)=60:=rfl
 have hc:Ay (rn [60,33,45,45]++X) (AA ⟨#[60,33,45,45]⟩)=true:=rfl
 unfold Ak
 rw [FV (by rw [h];decide),Hr (by rw [h];decide) (by rw [h];decide) (by rw [h];decide) (by rw [h];decide),Qd (by rw [h];decide),hc,h]
 rfl
theorem Yy (X:List Rn):Ak (rn [45,45,62]++X)=(AM 15 ⟨#[]⟩,X):=by
 have hp:Pre (rn [45,45,62]++X):=⟨by show (45:Int)≠47;decide,rfl,by show (45:Int)≠34;decide,by show (45:Int)≠39;decide,by show (45:Int)≠35;decide⟩
 exact cR hp rfl rfl
theorem VC {t:Tok} {P:List Int} {S r:List Rn} (hp:Pc t P) (hk:¬nums t.kind) (hk13:t.kind≠13) (hn:Nx S) (h:Ak (rn P++S)=(t,r)):r=S∧∀X,Al S X→Ak (rn P++X)=(t,X):=by
 have fixed:(∀X,Ak (rn P++X)=(t,X))→r=S∧∀X,Al S X→Ak (rn P++X)=(t,X):=fun k=>by
  rw [k S] at h
  exact ⟨(B1 h).2.symm,fun X _=>k X⟩
 cases hp with
 |@ident l hl hv=>
  have h62:=hn.ne62
  have ht:=GI true hv S
  rw [NG hl S h62] at h
  have h40:=Tu (L:=rn (DL true l)++S) (by rw [h];rfl)
  rw [ht] at h40
  rw [Pe ht h40] at h
  obtain ⟨e1,e2⟩:=B1 h
  have hnil:=GA (IZ e1)
  obtain ⟨k1,k2,k3⟩:=HT hnil
  rw [k1] at e2 h40
  refine ⟨e2.symm,fun X hX=>?_⟩
  have hx:=(hX.take hnil).1
  rw [NG hl S (hX.ne h62 (by decide) rfl),Pe (GI true hv X) (by rw [hx];exact hX.ne h40 (by decide) rfl),hx,List.append_nil]
 |@func l hl hv hlow=>
  refine fixed fun X=>?_
  rw [Cu,List.append_assoc]
  have h62:hd (rn [40]++X)≠62:=by show (40:Int)≠62;decide
  have ht:=GI true hv (rn [40]++X)
  have h0:AT (rn [40]++X)=([],rn [40]++X):=Pk rfl rfl
  rw [h0,List.append_nil] at ht
  rw [NG hl S h62,XQ ht rfl hlow];rfl
 |@«at» l hl hv=>
  have h62:=hn.ne62
  have e0:∀X:List Rn,Ak (rn (64::DL true l)++X)=(AM 3 (AO (enc l++(AT X).1)),(AT X).2):=fun X=>by
   have:=j8 (l:=rn (64::DL true l)++X) rfl (FC hl X).1
   rw [this,show (rn (64::DL true l)++X).drop 1=rn (DL true l)++X from rfl,GI true hv X]
  rw [e0 S] at h
  obtain ⟨e1,e2⟩:=B1 h
  have hnil:=GA (IZ e1)
  obtain ⟨k1,k2,k3⟩:=HT hnil
  rw [k1] at e2
  refine ⟨e2.symm,fun X hX=>?_⟩
  rw [e0 X,(hX.take hnil).1,List.append_nil]
 |@hash l f hl hv=>
  have e0:∀X:List Rn,Ak (rn (35::DL f l)++X)=(⟨4,AO (enc l++(AT X).1),⟨#[]⟩,false,⟨#[]⟩,⟨#[]⟩,Ag (rn (DL f l)++X),false,0,0,0,0,0⟩,(AT X).2):=fun X=>by
   have:=Zb (l:=rn (35::DL f l)++X) rfl (jX hl X)
   rw [this,show (rn (35::DL f l)++X).drop 1=rn (DL f l)++X from rfl,GI f hv X]
  rw [e0 S] at h
  obtain ⟨e1,e2⟩:=B1 h
  have hnil:=GA (congrArg Tok.text e1)
  have hfl:Ag (rn (DL f l)++S)=f:=congrArg Tok.flag e1
  obtain ⟨k1,k2,k3⟩:=HT hnil
  rw [k1] at e2
  refine ⟨e2.symm,fun X hX=>?_⟩
  obtain ⟨x1,x2,x3⟩:=hX.take hnil
  have hfx:Ag (rn (DL f l)++X)=f:=by
   cases f with
   |true=>exact (FC hl X).1
   |false=>exact (U9 hl ⟨k2,k3⟩ ⟨x2,x3⟩).trans hfl
  rw [e0 X,x1,List.append_nil,hfx]
 |@str l q hq hv=>
  refine fixed fun X=>?_
  have hh:hd (rn (O2 q l)++X)=34∨hd (rn (O2 q l)++X)=39:=hq
  rw [Xh hh]
  unfold CH
  rw [show hd (rn (O2 q l)++X)=q from rfl,show (rn (O2 q l)++X).drop 1=rn (HM q l++[q])++X from rfl,MQ hq X l hv]
  rfl
 |@url l hv=>
  rw [VQ hv,Oi hv] at h
  by_cases k:(AA (Lf (AO [117,114,108]))==AA ⟨#[117,114,108]⟩)=true
  ·rw [if_pos k] at h
   refine ⟨(B1 h).2.symm,fun X _=>?_⟩
   rw [VQ hv,Oi hv,if_pos k]
  ·rw [if_neg k] at h
   have:=congrArg Tok.kind (B1 h).1
   exact absurd this (by decide:(2:Int)≠7)
 |num hP h'=>
  exfalso
  rcases h'.un with ⟨k,_⟩|⟨k,_⟩|⟨k,_⟩
  ·exact hk (.inl k)
  ·exact hk (.inr (.inl k))
  ·exact hk (.inr (.inr k))
 |@comm l hv=>
  have e0:∀X:List Rn,Ak (rn (47::42::(l++[42,47]))++X)=(AM 25 (AO (A9 (Bc (rn l++⟨42,0⟩::⟨47,0⟩::X)).1)),(Bc (rn l++⟨42,0⟩::⟨47,0⟩::X)).2):=fun X=>by
   have hd2:(rn (47::42::(l++[42,47]))++X).drop 2=rn l++⟨42,0⟩::⟨47,0⟩::X:=by
    show rn (l++[42,47])++X=_
    rw [Cu,List.append_assoc];rfl
   have:=TC (l:=rn (47::42::(l++[42,47]))++X) rfl
   rw [this,hd2]
  rw [e0 S] at h
  obtain ⟨e1,e2⟩:=B1 h
  have e3:=congrArg (fun s=>(AA s).length) (IZ e1)
  simp only [AW] at e3
  rw [←OC] at e3
  refine fixed fun X=>?_
  rw [e0 X,XG e3 X,OC]
 |nl=>exact absurd rfl hk13
 |sp=>exact absurd rfl hk13
 |cdo=>exact fixed eV
 |cdc=>exact fixed Yy
 |sign hc=>exact fixed fun X=>Th X hc
end Go.Vx.Seat
end
section
open Go Go.Vx Go.Proofs
namespace Go.Vx.Seat
structure RdOk:Prop where
 mant:∀s A B A' C:List Rn,IU s→Fw A→HJ B→B≠[]→Fw A'→A'≠[]→hd A'≠48→Ft C→(AA (CA s A (B++A') C)).length≤800000000→(Du (CA s A (B++A') C)).2.1≠(Du (CA s A B [])).2.1
 expo:∀s A B C A':List Rn,IU s→Fw A→HJ B→(A≠[]∨B≠[])→Ft C→C≠[]→Fw A'→A'≠[]→hd A'≠48→(AA (CA s A B (C++A'))).length≤800000000→(Du (CA s A B C)).2.1≠⟨#[]⟩→(Du (CA s A B (C++A'))).2.2.1≠(Du (CA s A B C)).2.2.1
structure Adj (t u:Tok):Prop where
 a1:t.kind=10∨t.kind=12→¬(u.kind=1∨u.kind=2∨u.kind=7∨u.kind=15)
 a2:t.kind=10→nums u.kind→u.sign=false→u.neg=false→t.flag=false∧u.flag=false
 a3:t.kind=12→nums u.kind→u.neg=false∧(u.sign=false→u.flag=false)
 a4:t.kind=13→u.kind≠13
abbrev Wa:=List (Tok×List Int)
def CZ (l:Wa):List Rn:=l.flatMap fun p=>rn p.2
def Wb:Wa→Prop
 |[]=>True
 |p::l=>Pc p.1 p.2∧(∀q,l.head?=some q→Adj p.1 q.1)∧Wb l
theorem EC (p:Tok×List Int) (l:Wa):CZ (p::l)=rn p.2++CZ l:=rfl
theorem Wb.nx:∀{l:Wa},Wb l→Nx (CZ l)
 |[],_=>.inl rfl
 |p::l,h=>.inr ⟨p.1,p.2,CZ l,h.1,rfl⟩
theorem Zy (a R:List Rn):used (a++R) R=a:=by
 unfold used
 rw [List.length_append,Nat.add_sub_cancel];simp
theorem lC {s A B C R:List Rn} (h:Cut s A B C R):AJ (hd (s++(A++(B++(C++R))))) 43=AJ (hd s) 43:=by
 rcases h.sg with rfl|⟨z,rfl,_⟩
 ·by_cases hA:A=[]
  ·subst hA
   rcases h.pt with rfl|⟨p,F,rfl,hp,_⟩
   ·rcases h.ne with k|k<;>exact absurd rfl k
   ·show AJ p.r 43=AJ (-1) 43
    rw [hp];rfl
  ·have:=C6 (CX h.dg hA (B++(C++R)))
   rw [List.nil_append,AF (by omega)];rfl
 ·rfl
theorem cW {s A B C R:List Rn} (h:Cut s A B C R):E8 (s++(A++(B++(C++R))))=EP (AJ (hd s) 43) (B.isEmpty&&C.isEmpty) (CA s A B C) R:=by
 unfold E8
 rw [eJ h,lC h]
 have:used (s++(A++(B++(C++R)))) R=s++(A++(B++C)):=by
  have e:s++(A++(B++(C++R)))=(s++(A++(B++C)))++R:=by simp
  rw [e,Zy]
 simp only [this]
 rfl
theorem Us {s A B C R:List Rn} (h:Cut s A B C R):BT (s++(A++(B++(C++R))))=true:=by
 have hsn:Ai (A++(B++(C++R)))=false:=by
  by_cases hA:A=[]
  ·subst hA
   rcases h.pt with rfl|⟨p,F,rfl,hp,_⟩
   ·rcases h.ne with k|k<;>exact absurd rfl k
   ·show (AJ p.r 43||AJ p.r 45)=false
    rw [hp];decide
  ·exact G1 (CX h.dg hA _)
 unfold BT
 rw [NC h.sg hsn]
 by_cases hA:A=[]
 ·subst hA
  rcases h.pt with rfl|⟨p,F,rfl,hp,hF,hD⟩
  ·rcases h.ne with k|k<;>exact absurd rfl k
  ·show (AL p.r||(AJ p.r 46&&AL (hd (F++(C++R)))))=true
   rw [hp,CX hD hF];rfl
 ·have e:=CX h.dg hA (B++(C++R))
  simp only [e,Bool.true_or]
theorem d7 {s A B C R:List Rn} (h:Cut s A B C R):Pre (s++(A++(B++(C++R)))):=by
 have key:∃c,hd (s++(A++(B++(C++R))))=c∧(c=43∨c=45∨c=46∨(48≤c∧c≤57)):=by
  refine ⟨_,rfl,?_⟩
  rcases h.sg with rfl|⟨z,rfl,hz⟩
  ·by_cases hA:A=[]
   ·subst hA
    rcases h.pt with rfl|⟨p,F,rfl,hp,_⟩
    ·rcases h.ne with k|k<;>exact absurd rfl k
    ·exact .inr (.inr (.inl hp))
   ·exact .inr (.inr (.inr (C6 (CX h.dg hA (B++(C++R))))))
  ·rcases hz with k|k
   ·exact .inl k
   ·exact .inr (.inl k)
 obtain ⟨c,e,hc⟩:=key
 refine ⟨?_,?_,?_,?_,?_⟩
 ·rw [e];omega
 ·rw [e];exact E5 (by omega) (by omega) (by omega)
 ·rw [e];omega
 ·rw [e];omega
 ·rw [e];omega
theorem Fs {s A B C R:List Rn} (h:Cut s A B C R):Ak (s++(A++(B++(C++R))))=EP (AJ (hd s) 43) (B.isEmpty&&C.isEmpty) (CA s A B C) R:=by
 rw [d9 (d7 h) (Us h),cW h]
theorem RQ {sg f:Bool} {st:ByteArray} {R:List Rn} {t:Tok} {r:List Rn} (h:EP sg f st R=(t,r)) (hk:t.kind=10):Ag R=false∧hd R≠37∧r=R∧t=Fp 10 ⟨#[]⟩ (Du st).1 (Du st).2.1 (Du st).2.2.1 f sg:=by
 unfold EP at h
 by_cases k1:Ag R=true
 ·rw [if_pos k1] at h
  rw [←(B1 h).1] at hk;exact absurd hk (by show (12:Int)≠10;decide)
 ·rw [if_neg k1] at h
  by_cases k2:AJ (hd R) 37=true
  ·rw [if_pos k2] at h
   rw [←(B1 h).1] at hk;exact absurd hk (by show (11:Int)≠10;decide)
  ·rw [if_neg k2] at h
   exact ⟨by simpa using k1,A7 (by simpa using k2),(B1 h).2.symm,(B1 h).1.symm⟩
theorem Hq {sg f:Bool} {st:ByteArray} {R:List Rn} {t:Tok} {r:List Rn} (h:EP sg f st R=(t,r)) (hk:t.kind=12):Ag R=true∧r=(AT R).2∧t=Fp 12 (AO (AT R).1) (Du st).1 (Du st).2.1 (Du st).2.2.1 f sg:=by
 unfold EP at h
 by_cases k1:Ag R=true
 ·rw [if_pos k1] at h
  exact ⟨k1,(B1 h).2.symm,(B1 h).1.symm⟩
 ·rw [if_neg k1] at h
  by_cases k2:AJ (hd R) 37=true
  ·rw [if_pos k2] at h
   rw [←(B1 h).1] at hk;exact absurd hk (by show (11:Int)≠12;decide)
  ·rw [if_neg k2] at h
   rw [←(B1 h).1] at hk;exact absurd hk (by show (10:Int)≠12;decide)
theorem JV {sg f:Bool} {st:ByteArray} {R:List Rn} {t:Tok} {r:List Rn} (h:EP sg f st R=(t,r)):t.digits=(Du st).2.1∧t.exp=(Du st).2.2.1∧t.flag=f∧t.sign=sg:=by
 unfold EP at h
 by_cases k1:Ag R=true
 ·rw [if_pos k1] at h;rw [←(B1 h).1];exact ⟨rfl,rfl,rfl,rfl⟩
 ·rw [if_neg k1] at h
  by_cases k2:AJ (hd R) 37=true
  ·rw [if_pos k2] at h;rw [←(B1 h).1];exact ⟨rfl,rfl,rfl,rfl⟩
  ·rw [if_neg k2] at h;rw [←(B1 h).1];exact ⟨rfl,rfl,rfl,rfl⟩
theorem W5 {sg f:Bool} {st:ByteArray} {R:List Rn} (h1:Ag R=false) (h2:hd R≠37):EP sg f st R=(Fp 10 ⟨#[]⟩ (Du st).1 (Du st).2.1 (Du st).2.2.1 f sg,R):=by
 unfold EP
 rw [h1,AF h2];rfl
theorem XO {sg f:Bool} {st:ByteArray} {R:List Rn}:EP sg f st (⟨37,0⟩::R)=(Fp 11 ⟨#[]⟩ (Du st).1 (Du st).2.1 (Du st).2.2.1 f sg,R):=by
 unfold EP
 rw [HW (l:=⟨37,0⟩::R) rfl (by show (37:Int)≠92;decide) (by show (37:Int)≠45;decide)];rfl
theorem XV {sg f:Bool} {st:ByteArray} {R:List Rn} (h1:Ag R=true):EP sg f st R=(Fp 12 (AO (AT R).1) (Du st).1 (Du st).2.1 (Du st).2.2.1 f sg,(AT R).2):=by
 unfold EP
 rw [h1];rfl
theorem Nu.tok {t:Tok} {s A B C V:List Rn} (h:Nu t s A B C V) (k:Int) (hk:t.kind=k):t=Fp k t.unit (Du (CA s A B C)).1 (Du (CA s A B C)).2.1 (Du (CA s A B C)).2.2.1 (B.isEmpty&&C.isEmpty) (AJ (hd s) 43):=by
 obtain ⟨r1,r2,r3⟩:=h.rd
 obtain ⟨q1,q2,q3,q4,q5,q6⟩:=h.rest
 have e1:=h.flag
 have e2:=h.sign
 cases t
 simp only at hk e1 e2 r1 r2 r3 q1 q2 q3 q4 q5 q6
 subst hk e1 e2 r1 r2 r3 q1 q2 q3 q4 q5 q6
 rfl
theorem kJ (Z:List Rn) (h:AL (hd Z)=false):∃C R,Z=C++R∧Ft C∧AL (hd R)=false∧(C=[]→expo R=false):=by
 cases k:expo Z with
 |false=>exact ⟨[],Z,rfl,.inl rfl,h,fun _=>k⟩
 |true=>
  rw [expo,Bool.and_eq_true] at k
  cases Z with
  |nil=>exact absurd k.1 (by decide)
  |cons e D=>
   obtain ⟨s2,e4,hs2,_⟩:=On D
   have k2:AL (hd (if Ai D then D.drop 1 else D))=true:=k.2
   generalize (if Ai D then D.drop 1 else D)=D1 at*
   obtain ⟨E,e5,hE,hE'⟩:=Hg D1
   refine ⟨e::(s2++E),digs D1,?_,.inr ⟨e,s2,E,rfl,?_,hs2,?_,hE⟩,hE',fun h=>by cases h⟩
   ·rw [List.cons_append,List.append_assoc,←e5,←e4]
   ·have k1:=k.1
    rw [Bool.or_eq_true] at k1
    rcases k1 with k|k
    ·exact .inl (AQ k)
    ·exact .inr (AQ k)
   ·rintro rfl
    rw [List.nil_append] at e5
    rw [e5,hE'] at k2;cases k2
theorem UQ {a:List Rn} (h:a≠[]) (b:List Rn):hd (a++b)=hd a:=by
 cases a with
 |nil=>exact absurd rfl h
 |cons x a=>rfl
theorem HJ.head {B:List Rn} (h:HJ B) (hn:B≠[]) (R:List Rn):hd (B++R)=46∧Lm (B++R)=true:=by
 rcases h with rfl|⟨p,F,rfl,hp,hF,hD⟩
 ·exact absurd rfl hn
 ·refine ⟨hp,?_⟩
  show (AJ p.r 46&&AL (hd (F++R)))=true
  rw [hp,CX hD hF];rfl
theorem HJ.app {B A':List Rn} (h:HJ B) (hn:B≠[]) (hA:Fw A'):HJ (B++A'):=by
 rcases h with rfl|⟨p,F,rfl,hp,hF,hD⟩
 ·exact absurd rfl hn
 ·exact .inr ⟨p,F++A',rfl,hp,fun e=>hF (List.append_eq_nil_iff.mp e).1,hD.app hA⟩
theorem Ft.head {C:List Rn} (h:Ft C) (hn:C≠[]) (R:List Rn):(hd (C++R)=101∨hd (C++R)=69)∧expo (C++R)=true:=by
 rcases h with rfl|⟨e,s,E,rfl,he,hs,hE,hD⟩
 ·exact absurd rfl hn
 ·have k:(AJ e.r 101||AJ e.r 69)=true:=by rcases he with k|k<;>(rw [k];rfl)
  have hE':=CX hD hE R
  have hsg:(if Ai (((s++E)++R)) then ((s++E)++R).drop 1 else (s++E)++R)=E++R:=by
   rw [List.append_assoc];exact NC hs (G1 hE')
  refine ⟨he,?_⟩
  show ((AJ e.r 101||AJ e.r 69)&&AL (hd (if Ai ((s++E)++R) then ((s++E)++R).drop 1 else (s++E)++R)))=true
  rw [hsg,hE',k];rfl
theorem Ft.app {C A':List Rn} (h:Ft C) (hn:C≠[]) (hA:Fw A'):Ft (C++A'):=by
 rcases h with rfl|⟨e,s,E,rfl,he,hs,hE,hD⟩
 ·exact absurd rfl hn
 ·exact .inr ⟨e,s,E++A',by simp,he,hs,fun k=>hE (List.append_eq_nil_iff.mp k).1,hD.app hA⟩
theorem eD {L:List Rn} (h:hd L=101∨hd L=69):Ag L=true:=by
 cases L with
 |nil=>rcases h with h|h<;>exact absurd h (by decide)
 |cons x L=>
  show (if AJ x.r 45=true then _ else Bm x.r||esc0 (x::L))=true
  have hx:x.r=101∨x.r=69:=h
  rcases hx with e|e<;>(rw [e];rfl)
theorem Ll {L:List Rn} (h:hd L=46∨hd L=37∨hd L=43):Ag L=false:=by
 rcases h with h|h|h<;>exact HW (by rw [h];decide) (by rw [h];decide) (by rw [h];decide)
theorem Kh {L:List Rn} (c:Int) (h:hd L=c) (hc:Bm c=false∧c≠92∧c≠45):Ag L=false:=HW (by rw [h];exact hc.1) (by rw [h];exact hc.2.1) (by rw [h];exact hc.2.2)
theorem SQ {c:Int} (h:AL c=true):Bm c=false∧c≠92∧c≠45:=by
 have:=C6 h
 refine ⟨?_,by omega,by omega⟩
 simp only [Bm,Bool.or_eq_false_iff,Bool.and_eq_false_iff]
 exact ⟨⟨⟨.inl (AE (by omega)),.inl (AE (by omega))⟩,AF (by omega)⟩,AE (by omega)⟩
theorem Za {z:Rn} {w:List Rn} (hz:z.r=45) (h:AL (hd w)=true∨hd w=46):Ag (z::w)=false:=by
 have h1:Bm (hd w)=false∧hd w≠92∧hd w≠45:=by
  rcases h with h|h
  ·exact SQ h
  ·rw [h];decide
 show (if AJ z.r 45=true then Bm (hd w)||AJ (hd w) 45||esc0 w else _)=false
 rw [hz,if_pos (by rfl),h1.1,AF h1.2.2,esc0,AF h1.2.1];rfl
theorem Qu {A B R:List Rn} (hA:Fw A) (hB:HJ B) (hn:A≠[]∨B≠[]):AL (hd (A++(B++R)))=true∨hd (A++(B++R))=46:=by
 by_cases k:A=[]
 ·subst k
  rcases hn with k|k
  ·exact absurd rfl k
  ·exact .inr (hB.head k R).1
 ·exact .inl (CX hA k _)
theorem jG {s A B C R:List Rn} (hs:IU s) (hA:Fw A) (hB:HJ B) (hn:A≠[]∨B≠[]):Ag (s++(A++(B++(C++R))))=false:=by
 have h2:=Qu (R:=C++R) hA hB hn
 rcases hs with rfl|⟨z,rfl,hz⟩
 ·rcases h2 with k|k
  ·exact Kh _ rfl (SQ k)
  ·exact Kh 46 k (by decide)
 ·rcases hz with k|k
  ·exact Kh 43 k (by decide)
  ·exact Za k h2
theorem Pn {t:Tok} {P:List Int} (h:Pc t P) {Y:List Rn} (hb:Ag (rn P++Y)=true):t.kind=1∨t.kind=2∨t.kind=7∨t.kind=15:=by
 cases h with
 |ident=>exact .inl rfl
 |func=>exact .inr (.inl rfl)
 |«at»=>rw [Kh 64 rfl (by decide)] at hb;cases hb
 |hash=>rw [Kh 35 rfl (by decide)] at hb;cases hb
 |@str l q hq hv=>
  rcases hq with rfl|rfl
  ·rw [Kh 34 rfl (by decide)] at hb;cases hb
  ·rw [Kh 39 rfl (by decide)] at hb;cases hb
 |url=>exact .inr (.inr (.inl rfl))
 |@num _ _ s A B C V hP h=>
  exfalso
  have e:rn P++Y=s++(A++(B++(C++(V++Y)))):=by rw [hP];simp
  rw [e,jG h.cut.sg h.cut.dg h.cut.pt h.cut.ne] at hb;cases hb
 |comm=>rw [Kh 47 rfl (by decide)] at hb;cases hb
 |nl=>rw [Kh 10 rfl (by decide)] at hb;cases hb
 |sp=>rw [Kh 32 rfl (by decide)] at hb;cases hb
 |cdo=>rw [Kh 60 rfl (by decide)] at hb;cases hb
 |cdc=>exact .inr (.inr (.inr rfl))
 |@sign c hc=>
  obtain ⟨_,_,h3⟩:=Fx hc
  have:Bm c=false∧c≠92∧c≠45:=by rcases h3 with e|e|e|e|e|e|e|e|e<;>(rw [e];decide)
  rw [Kh c rfl this] at hb;cases hb
end Go.Vx.Seat
end
section
open Go Go.Vx Go.Proofs
namespace Go.Vx.Seat
theorem Uu {u:Tok} {P:List Int} (h:Pc u P) (hk:nums u.kind):∃s A B C V,rn P=s++(A++(B++(C++V)))∧Nu u s A B C V:=by
 have no:∀k:Int,nums k→k=10∨k=11∨k=12:=fun k h=>h
 cases h with
 |num hP h=>exact ⟨_,_,_,_,_,hP,h⟩
 |@sign c hc=>
  have h1:=Fx hc
  have h2:Bp c=10∨Bp c=11∨Bp c=12:=hk
  omega
 |ident=>rcases hk with h|h|h<;>exact absurd (show (1:Int)=_ from h) (by decide)
 |func=>rcases hk with h|h|h<;>exact absurd (show (2:Int)=_ from h) (by decide)
 |«at»=>rcases hk with h|h|h<;>exact absurd (show (3:Int)=_ from h) (by decide)
 |hash=>rcases hk with h|h|h<;>exact absurd (show (4:Int)=_ from h) (by decide)
 |str=>rcases hk with h|h|h<;>exact absurd (show (5:Int)=_ from h) (by decide)
 |url=>rcases hk with h|h|h<;>exact absurd (show (7:Int)=_ from h) (by decide)
 |comm=>rcases hk with h|h|h<;>exact absurd (show (25:Int)=_ from h) (by decide)
 |nl=>rcases hk with h|h|h<;>exact absurd (show (13:Int)=_ from h) (by decide)
 |sp=>rcases hk with h|h|h<;>exact absurd (show (13:Int)=_ from h) (by decide)
 |cdo=>rcases hk with h|h|h<;>exact absurd (show (14:Int)=_ from h) (by decide)
 |cdc=>rcases hk with h|h|h<;>exact absurd (show (15:Int)=_ from h) (by decide)
theorem Wv {u:Tok} {c:Int} (h:mZ u c) (hc:AL c=true∨c=46∨c=43):nums u.kind:=by
 have hx:c=43∨(46≤c∧c≤57∧c≠47):=by
  rcases hc with k|k|k
  ·have:=C6 k;omega
  ·omega
  ·omega
 rcases h with ⟨_,h1,h2⟩|⟨h,_⟩|⟨_,h⟩|⟨_,h⟩|⟨_,h|h⟩|⟨_,h⟩|⟨_,_,h⟩
 ·exfalso
  rcases hc with k|k|k
  ·rw [h2] at k;cases k
  ·subst k;rcases h1 with k|k<;>exact absurd k (by decide)
  ·subst k;rcases h1 with k|k<;>exact absurd k (by decide)
 ·exact h
 all_goals (exfalso;omega)
theorem HQ {u:Tok} {P:List Int} (h:Pc u P) (Y:List Rn) (hc:AL (hd (rn P++Y))=true∨hd (rn P++Y)=46∨hd (rn P++Y)=43):∃s A B C V,rn P=s++(A++(B++(C++V)))∧Nu u s A B C V∧
  (AL (hd (rn P++Y))=true→s=[]∧A≠[])∧(hd (rn P++Y)=46→s=[]∧A=[]∧B≠[])∧(hd (rn P++Y)=43→∃z,s=[z]∧z.r=43):=by
 obtain ⟨c,w,hP,hc1⟩:=h.head
 have hh:hd (rn P++Y)=c:=by rw [hP];rfl
 rw [hh] at hc
 obtain ⟨s,A,B,C,V,e,hn⟩:=Uu h (Wv hc1 hc)
 refine ⟨s,A,B,C,V,e,hn,?_⟩
 have hh2:hd (s++(A++(B++(C++V))))=c:=by rw [←e,hP];rfl
 rw [hh]
 rcases hn.cut.sg with rfl|⟨z,rfl,hz⟩
 ·have h2:=Qu (R:=C++V) hn.cut.dg hn.cut.pt hn.cut.ne
  rw [List.nil_append] at hh2
  rw [hh2] at h2
  refine ⟨fun k=>⟨rfl,?_⟩,fun k=>⟨rfl,?_,?_⟩,fun k=>?_⟩
  ·rintro rfl
   rcases hn.cut.ne with q|q
   ·exact q rfl
   ·have:=(hn.cut.pt.head q (C++V)).1
    rw [List.nil_append] at hh2
    rw [hh2] at this;subst this;exact absurd k (by decide)
  ·by_cases q:A=[]
   ·exact q
   ·exfalso
    have:=CX hn.cut.dg q (B++(C++V))
    rw [hh2,k] at this;exact absurd this (by decide)
  ·intro q
   subst q
   have hA:A≠[]:=by rcases hn.cut.ne with q|q;exact q;exact absurd rfl q
   have:=CX hn.cut.dg hA ([]++(C++V))
   rw [hh2,k] at this;exact absurd this (by decide)
  ·exfalso
   rcases h2 with q|q
   ·rw [k] at q;exact absurd q (by decide)
   ·rw [k] at q;exact absurd q (by decide)
 ·have hz':z.r=c:=hh2
  refine ⟨fun k=>?_,fun k=>?_,fun k=>⟨z,rfl,by rw [hz'];exact k⟩⟩
  ·exfalso;rw [←hz'] at k;rcases hz with q|q<;>(rw [q] at k;exact absurd k (by decide))
  ·exfalso;rw [←hz'] at k;omega
theorem pJ {u:Tok} {P:List Int} (h:Pc u P) (Y:List Rn) (hc:hd (rn P++Y)=101∨hd (rn P++Y)=69):u.kind=1∨u.kind=2:=by
 obtain ⟨c,w,hP,hc1⟩:=h.head
 have hh:hd (rn P++Y)=c:=by rw [hP];rfl
 rw [hh] at hc
 rcases hc1 with ⟨h,_⟩|⟨_,h⟩|⟨_,h⟩|⟨_,h⟩|⟨_,h⟩|⟨_,h⟩|⟨_,_,h⟩
 ·exact h
 ·exfalso
  rcases h with h|h|h|h
  ·have:=C6 h;omega
  all_goals omega
 all_goals (exfalso;omega)
theorem YX {u:Tok} {P:List Int} (h:Pc u P) (Y:List Rn) (hc:hd (rn P++Y)=45):(u.kind=1∨u.kind=2∨u.kind=7∨u.kind=15)∨(nums u.kind∧u.neg=true):=by
 obtain ⟨c,w,hP,hc1⟩:=h.head
 have hh:hd (rn P++Y)=c:=by rw [hP];rfl
 rw [hh] at hc
 subst hc
 rcases hc1 with ⟨h,_⟩|⟨hk,_⟩|⟨h,_⟩|⟨h,_⟩|⟨_,h⟩|⟨_,h⟩|⟨_,_,h⟩
 ·rcases h with h|h
  ·exact .inl (.inl h)
  ·exact .inl (.inr (.inl h))
 ·right
  refine ⟨hk,?_⟩
  obtain ⟨s,A,B,C,V,e,hn⟩:=Uu h hk
  have hh2:hd (s++(A++(B++(C++V))))=45:=by rw [←e,hP];rfl
  rw [hn.neg]
  rcases hn.cut.sg with rfl|⟨z,rfl,hz⟩
  ·exfalso
   have h2:=Qu (R:=C++V) hn.cut.dg hn.cut.pt hn.cut.ne
   rw [List.nil_append] at hh2
   rw [hh2] at h2
   rcases h2 with k|k<;>exact absurd k (by decide)
  ·rw [show hd [z]=z.r from rfl,show z.r=45 from hh2];rfl
 ·exact .inl (.inr (.inr (.inl h)))
 ·exact .inl (.inr (.inr (.inr h)))
 all_goals (exfalso;omega)
theorem KW {p:Tok×List Int} {l:Wa} (hr:Wb (p::l)) (hd1:AL (hd (CZ l))=true):∃u P m A B C V,l=(u,P)::m∧CZ l=A++(B++(C++(V++CZ m)))∧Nu u [] A B C V∧A≠[]∧Wb m∧Wb ((u,P)::m)∧Adj p.1 u:=by
 cases l with
 |nil=>exact absurd hd1 (by decide)
 |cons q m=>
  obtain ⟨u,P⟩:=q
  obtain ⟨h1,h2,h3⟩:=hr
  obtain ⟨s,A,B,C,V,e,hn,f1,f2,f3⟩:=HQ h3.1 (CZ m) (.inl hd1)
  obtain ⟨rfl,hA⟩:=f1 hd1
  exact ⟨u,P,m,A,B,C,V,rfl,by rw [EC,e];simp,hn,hA,h3.2.2,h3,h2 _ rfl⟩
theorem Nu.nums {t:Tok} {s A B C V:List Rn} (h:Nu t s A B C V):Seat.nums t.kind:=by
 rcases h.un with ⟨k,_⟩|⟨k,_⟩|⟨k,_⟩
 ·exact .inl k
 ·exact .inr (.inl k)
 ·exact .inr (.inr k)
theorem Nu.un10 {t:Tok} {s A B C V:List Rn} (h:Nu t s A B C V) (k:t.kind=10):V=[]:=by
 rcases h.un with ⟨_,e,_⟩|⟨k',_⟩|⟨k',_⟩
 ·exact e
 ·omega
 ·omega
theorem Nu.un11 {t:Tok} {s A B C V:List Rn} (h:Nu t s A B C V) (k:t.kind=11):V=[⟨37,0⟩]:=by
 rcases h.un with ⟨k',_⟩|⟨_,e,_⟩|⟨k',_⟩
 ·omega
 ·exact e
 ·omega
theorem Nu.un12 {t:Tok} {s A B C V:List Rn} (h:Nu t s A B C V) (k:t.kind=12):∃l,l≠[]∧t.unit=AO (enc l)∧(∀X,AT (V++X)=(enc l++(AT X).1,(AT X).2))∧V≠[]∧∀X,Ag (V++X)=true:=by
 rcases h.un with ⟨k',_⟩|⟨k',_⟩|⟨_,e⟩
 ·omega
 ·omega
 ·exact e
theorem cN {l:List Int} (h:l≠[]):1≤(enc l).length:=by
 cases l with
 |nil=>exact absurd rfl h
 |cons r l=>rw [Aa,List.length_append];have:=(Bj r).1;omega
theorem NZ {t:Tok} {l:List Int} (h:t.unit=AO l):(AA t.unit).length=l.length:=by rw [h,AW]
theorem RG (l:List Rn):(BG l).1.kind=1∨(BG l).1.kind=2∨(BG l).1.kind=7∨(BG l).1.kind=8:=by
 unfold BG
 simp only
 refine AZ (p:=fun q:Tok×List Rn=>q.1.kind=1∨q.1.kind=2∨q.1.kind=7∨q.1.kind=8) (fun _=>?_) fun _=>.inl rfl
 exact AZ (p:=fun q:Tok×List Rn=>q.1.kind=1∨q.1.kind=2∨q.1.kind=7∨q.1.kind=8) (fun _=>.inr (.inr (Lu _ _))) fun _=>.inr (.inl rfl)
theorem Le (l:List Rn):(CH l).1.kind=5∨(CH l).1.kind=6:=by
 unfold CH
 simp only
 exact AZ (p:=fun q:Tok=>q.kind=5∨q.kind=6) (fun _=>.inr rfl) fun _=>.inl rfl
theorem Ra {L:List Rn} (h:nums (Ak L).1.kind):BT L=true∧Ak L=E8 L:=by
 have hv:=Hj L
 generalize hT:Ak L=T at*
 cases hv with
 |num hn=>exact ⟨hn,rfl⟩
 |comm _=>rcases h with h|h|h<;>exact absurd (show (25:Int)=_ from h) (by decide)
 |blank _=>rcases h with h|h|h<;>exact absurd (show (13:Int)=_ from h) (by decide)
 |quote _=>have:=Le L;rcases h with h|h|h<;>omega
 |hash _ _=>rcases h with h|h|h<;>exact absurd (show (4:Int)=_ from h) (by decide)
 |cdc _=>rcases h with h|h|h<;>exact absurd (show (15:Int)=_ from h) (by decide)
 |cdo _=>rcases h with h|h|h<;>exact absurd (show (14:Int)=_ from h) (by decide)
 |named _=>have:=RG L;rcases h with h|h|h<;>omega
 |«at» _ _=>rcases h with h|h|h<;>exact absurd (show (3:Int)=_ from h) (by decide)
 |delim=>rcases h with h|h|h<;>exact absurd (show (9:Int)=_ from h) (by decide)
 |sign hc=>
  have h1:=Fx hc
  have h2:Bp (hd L)=10∨Bp (hd L)=11∨Bp (hd L)=12:=h
  omega
theorem MI {x:Rn} {L:List Rn} {t:Tok} {ts:List Tok} (hx:x.a=0) (ht:t.start=0) (h:BO (x::L)=t::ts):{(Ak (x::L)).1 with start:=0}=t∧BO (Ak (x::L)).2=ts:=by
 rw [Eq,hx] at h
 exact List.cons.inj h
theorem XJ {A Z A2 R2:List Rn} (hA:Fw A) (hA2:Fw A2) (hR:AL (hd R2)=false) (h:A++Z=A2++R2):∃A3,A2=A++A3∧Z=A3++R2∧Fw A3:=by
 rcases List.append_eq_append_iff.mp h with ⟨u,e1,e2⟩|⟨u,e1,e2⟩
 ·exact ⟨u,e1,e2,fun x hx=>hA2 x (by rw [e1];exact List.mem_append_right _ hx)⟩
 ·cases u with
  |nil=>exact ⟨[],by rw [e1];simp,by rw [e2];rfl,.nil⟩
  |cons x u=>
   exfalso
   rw [e2] at hR
   have:=hA x (by rw [e1];simp)
   rw [show hd (x::u++Z)=x.r from rfl,this] at hR;cases hR
theorem M5 {A Z:List Rn} (hA:Fw A) (h:AL (hd (A++Z))=false):A=[]:=by
 cases A with
 |nil=>rfl
 |cons x A=>rw [show hd (x::A++Z)=x.r from rfl,hA x (List.mem_cons_self ..)] at h;cases h
theorem WO {C R:List Rn} (h:Ft C) (hn:C≠[]):2≤(AT (C++R)).1.length∨∃e z E,C=e::z::E∧z.r=43:=by
 rcases h with rfl|⟨e,s,E,rfl,he,hs,hE,hD⟩
 ·exact absurd rfl hn
 ·have hei:DB e.r=true:=by rcases he with k|k<;>(rw [k];rfl)
  have dig_in:∀c:Int,AL c=true→DB c=true:=fun c hc=>by simp [DB,hc]
  rcases hs with rfl|⟨z,rfl,hz⟩
  ·left
   cases E with
   |nil=>exact absurd rfl hE
   |cons d E=>
    show 2≤(AT (e::d::(E++R))).1.length
    rw [BM hei,BM (dig_in _ (hD d (List.mem_cons_self ..)))]
    simp only [List.length_append]
    have:=(Bj e.r).1;have:=(Bj d.r).1;omega
  ·rcases hz with k|k
   ·exact .inr ⟨e,z,E,rfl,k⟩
   ·left
    show 2≤(AT (e::z::(E++R))).1.length
    rw [BM hei,BM (by rw [k];rfl)]
    simp only [List.length_append]
    have:=(Bj e.r).1;have:=(Bj z.r).1;omega
theorem Ta {u:Tok} {s A B C V:List Rn} {m:Wa} {P:List Int} (hr:Wb ((u,P)::m)) (hn:Nu u s A B C V) {A3 R:List Rn} (hZ:B++(C++(V++CZ m))=A3++R) (hA3:Fw A3) (hR:AL (hd R)=false)
  (hb:Ag R=true) (h1:(AT R).1.length=1):A3=[]∧B=[]∧C=[]∧u.kind=12∧(AA u.unit).length=1∧R=V++CZ m∧(AT R).2=CZ m:=by
 by_cases hB:B=[]
 ·subst hB
  by_cases hC:C=[]
  ·subst hC
   rw [List.nil_append,List.nil_append] at hZ
   have hfl:u.flag=true:=hn.flag
   rcases hn.un with ⟨k,e,_⟩|⟨k,e,_⟩|⟨k,l,hl,e1,e2,e3,e4⟩
   ·exfalso
    subst e
    rw [List.nil_append] at hZ
    by_cases h3:A3=[]
    ·subst h3
     rw [List.nil_append] at hZ
     cases m with
     |nil=>rw [←hZ] at hb;exact absurd hb (by decide)
     |cons q m'=>
      have ha:=hr.2.1 q rfl
      rw [←hZ,EC] at hb
      exact ha.a1 (.inl k) (Pn hr.2.2.1 hb)
    ·have hd1:AL (hd (CZ m))=true:=by rw [hZ];exact CX hA3 h3 R
     obtain ⟨w,Pw,m2,A',B',C',V',e,_,hw,_,_,_,ha⟩:=KW hr hd1
     have:=ha.a2 k hw.nums (by rw [hw.sign];rfl) (by rw [hw.neg];rfl)
     rw [hfl] at this;exact absurd this.1 (by simp)
   ·exfalso
    subst e
    have h3:=M5 hA3 (Z:=R) (by rw [←hZ];rfl)
    subst h3
    rw [List.nil_append] at hZ
    rw [←hZ,Kh 37 rfl (by decide)] at hb;cases hb
   ·have h3:=M5 hA3 (Z:=R) (by rw [←hZ,UQ e3];exact hn.cut.e1)
    subst h3
    rw [List.nil_append] at hZ
    subst hZ
    rw [e2,List.length_append] at h1
    have:=cN hl
    have h0:(AT (CZ m)).1=[]:=List.eq_nil_of_length_eq_zero (by omega)
    refine ⟨rfl,rfl,rfl,k,?_,rfl,?_⟩
    ·rw [NZ e1];omega
    ·rw [e2,(HT h0).1]
  ·exfalso
   rw [List.nil_append] at hZ
   obtain ⟨k1,k2⟩:=hn.cut.ex.head hC (V++CZ m)
   have h3:=M5 hA3 (Z:=R) (by rw [←hZ];rcases k1 with k|k<;>(rw [k];decide))
   subst h3
   rw [List.nil_append] at hZ
   subst hZ
   rcases WO (R:=V++CZ m) hn.cut.ex hC with k|⟨e,z,E,k,kz⟩
   ·omega
   ·exact hn.minus e z E k kz
 ·exfalso
  obtain ⟨k1,k2⟩:=hn.cut.pt.head hB (C++(V++CZ m))
  have h3:=M5 hA3 (Z:=R) (by rw [←hZ,k1];decide)
  subst h3
  rw [List.nil_append] at hZ
  rw [←hZ,Ll (.inl k1)] at hb;cases hb
theorem gW:∀(m:Wa) (t:Tok),Wb m→t.start=0→t.kind=12→t.sign=true→t.flag=true→(AA t.unit).length=1→BO (CZ m)=t::m.map Prod.fst→False
 |[],t,_,_,_,_,_,_,h=>by rw [show CZ []=[] from rfl,C9] at h;cases h
 |(u,P)::m,t,hr,h0,hk,hs,hf,hu,h=>by
  have hr':=hr
  obtain ⟨h1,h2,h3⟩:=hr'
  obtain ⟨c,w,hP,hc1⟩:=h1.head
  simp only at h1 h2 h3 hP hc1
  have hcat:CZ ((u,P)::m)=rn P++CZ m:=rfl
  have hL:CZ ((u,P)::m)=⟨c,0⟩::(rn w++CZ m):=by rw [hcat,hP];rfl
  rw [hL] at h
  obtain ⟨ht,hrest⟩:=MI rfl h0 h
  rw [←hL] at ht hrest
  generalize hLL:CZ ((u,P)::m)=L at*
  have hkind:(Ak L).1.kind=12:=by rw [←hk,←ht]
  have hsign:(Ak L).1.sign=true:=by rw [←hs,←ht]
  have hflag:(Ak L).1.flag=true:=by rw [←hf,←ht]
  have hunit:(Ak L).1.unit=t.unit:=by rw [←ht]
  obtain ⟨hnum,hT⟩:=Ra (L:=L) (.inr (.inr hkind))
  obtain ⟨s2,A2,B2,C2,e,hcut,hfl,_⟩:=SD hnum
  generalize hR2:(Et L).2=R2 at*
  have hone:=Fs hcut
  rw [←e] at hone
  obtain ⟨T,r,hTr⟩:∃T r,Ak L=(T,r):=⟨_,_,rfl⟩
  rw [hTr] at hkind hsign hflag hunit ht hrest
  rw [hone] at hTr
  obtain ⟨q1,q2,q3⟩:=Hq hTr hkind
  obtain ⟨_,_,q4,q5⟩:=JV hTr
  simp only at hsign hflag hunit
  rw [q4] at hflag
  rw [q5] at hsign
  simp only [Bool.and_eq_true,List.isEmpty_iff] at hflag
  obtain ⟨rfl,rfl⟩:=hflag
  have hs2:∃z,s2=[z]∧z.r=43:=by
   rcases hcut.sg with rfl|⟨z,rfl,_⟩
   ·exact absurd hsign (by decide)
   ·exact ⟨z,rfl,AQ hsign⟩
  obtain ⟨z2,rfl,hz2⟩:=hs2
  have hhd:hd (rn P++CZ m)=43:=by rw [←hcat,e];exact hz2
  obtain ⟨s,A,B,C,V,eP,hn,_,_,f3⟩:=HQ h1 (CZ m) (.inr (.inr hhd))
  obtain ⟨z,rfl,hz⟩:=f3 hhd
  have e4:A++(B++(C++(V++CZ m)))=A2++R2:=by
   have:[z]++(A++(B++(C++(V++CZ m))))=[z2]++(A2++([]++([]++R2))):=by
    rw [←e,hcat,eP];simp
   injection this with _ h5
  obtain ⟨A3,e5,e6,hA3⟩:=XJ hn.cut.dg hcut.dg hcut.e1 e4
  have hlen:(AT R2).1.length=1:=by
   rw [q3] at hunit
   have:(AA (AO (AT R2).1)).length=1:=by rw [show AO (AT R2).1=t.unit from hunit];exact hu
   rwa [AW] at this
  obtain ⟨_,hB,hC,k1,k2,k3,k4⟩:=Ta hr hn e6 hA3 hcut.e1 q1 hlen
  subst hB hC
  simp only at hrest
  rw [q2,k4] at hrest
  exact gW m u h3 hn.rest.2.2.2.2.2 k1 (by rw [hn.sign];show AJ z.r 43=true;rw [hz];rfl) hn.flag k2 hrest
end Go.Vx.Seat
end
section
open Go Go.Vx Go.Proofs
namespace Go.Vx.Seat
theorem UW (g s:List Rn):(D7 g s).1.start=0:=by unfold D7;split<;>rfl
theorem Hh (L:List Rn):(Ak L).1.start=0:=by
 have hv:=Hj L
 generalize hT:Ak L=T at*
 cases hv with
 |quote _=>
  unfold CH
  simp only
  exact AZ (p:=fun q:Tok=>q.start=0) (fun _=>rfl) fun _=>rfl
 |named _=>
  unfold BG
  simp only
  refine AZ (p:=fun q:Tok×List Rn=>q.1.start=0) (fun _=>?_) fun _=>rfl
  exact AZ (p:=fun q:Tok×List Rn=>q.1.start=0) (fun _=>UW _ _) fun _=>rfl
 |num _=>
  unfold E8 EP
  refine AZ (p:=fun q:Tok×List Rn=>q.1.start=0) (fun _=>rfl) fun _=>?_
  exact AZ (p:=fun q:Tok×List Rn=>q.1.start=0) (fun _=>rfl) fun _=>rfl
 |_=>rfl
theorem GC {T:Tok} (h:T.start=0):{T with start:=0}=T:=by cases T;simp only at h;subst h;rfl
theorem Qi {t:Tok} {P:List Int} {l:Wa} (hp:Pc t P) (h0:t.start=0) (h:BO (CZ ((t,P)::l))=t::l.map Prod.fst):∃r,Ak (CZ ((t,P)::l))=(t,r)∧BO r=l.map Prod.fst:=by
 obtain ⟨c,w,hP,_⟩:=hp.head
 have hL:CZ ((t,P)::l)=⟨c,0⟩::(rn w++CZ l):=by rw [EC];simp only;rw [hP];rfl
 rw [hL] at h ⊢
 obtain ⟨ht,hrest⟩:=MI rfl h0 h
 rw [GC (Hh _)] at ht
 exact ⟨_,Prod.ext ht rfl,hrest⟩
theorem k7 {s A B C V:List Rn} (h:Cut s A B C V) (X:List Rn):Cut s A B C (⟨37,0⟩::X):=⟨h.sg,h.dg,h.pt,h.ex,h.ne,rfl,fun _ _=>rfl,fun _=>rfl⟩
theorem Lz {s A B C R L:List Rn} (h:L=s++(A++(B++(C++R)))) (hl:L.length≤180000000):(AA (CA s A B C)).length≤800000000:=by
 unfold CA
 rw [AW]
 have h1:=En (s++(A++(B++C)))
 rw [h] at hl
 simp only [List.length_append] at h1 hl ⊢
 omega
theorem Pp {V Z:List Rn} (h0:expo V=false) (h:expo (V++Z)=true) (hV:V≠[]):∃v,(v.r=101∨v.r=69)∧((V=[v]∧((Ai Z=false∧AL (hd Z)=true)∨(Ai Z=true∧AL (hd (Z.drop 1))=true)))∨
  ∃w,V=[v,w]∧(w.r=43∨w.r=45)∧AL (hd Z)=true):=by
 cases V with
 |nil=>exact absurd rfl hV
 |cons v V2=>
  have hv:(AJ v.r 101||AJ v.r 69)=true:=by
   rw [expo,Bool.and_eq_true] at h;exact h.1
  have hve:v.r=101∨v.r=69:=by
   rw [Bool.or_eq_true] at hv
   rcases hv with k|k
   ·exact .inl (AQ k)
   ·exact .inr (AQ k)
  refine ⟨v,hve,?_⟩
  have h1:AL (hd (if Ai (V2++Z) then (V2++Z).drop 1 else V2++Z))=true:=by
   rw [expo,Bool.and_eq_true] at h;exact h.2
  have h2:AL (hd (if Ai V2 then V2.drop 1 else V2))=false:=by
   have h0':((AJ v.r 101||AJ v.r 69)&&AL (hd (if Ai V2 then V2.drop 1 else V2)))=false:=h0
   rw [hv,Bool.true_and] at h0';exact h0'
  cases V2 with
  |nil=>
   left
   refine ⟨rfl,?_⟩
   rw [List.nil_append] at h1
   cases k:Ai Z with
   |false=>rw [k] at h1;exact .inl ⟨rfl,h1⟩
   |true=>rw [k] at h1;exact .inr ⟨rfl,h1⟩
  |cons w V3=>
   have hsg:Ai (w::V3++Z)=Ai (w::V3):=rfl
   rw [hsg] at h1
   cases k:Ai (w::V3) with
   |false=>
    rw [k] at h1 h2
    simp only [Bool.false_eq_true,if_false] at h1 h2
    rw [show hd (w::V3++Z)=hd (w::V3) from rfl,h2] at h1;cases h1
   |true=>
    rw [k] at h1 h2
    simp only [if_true] at h1 h2
    cases V3 with
    |nil=>
     right
     refine ⟨w,rfl,?_,h1⟩
     rw [Ai,Bool.or_eq_true] at k
     rcases k with k|k
     ·exact .inl (AQ k)
     ·exact .inr (AQ k)
    |cons y V4=>
     have:hd ((w::y::V4++Z).drop 1)=hd ((w::y::V4).drop 1):=rfl
     rw [this,h2] at h1;cases h1
theorem ML {c:Int} (h:AL c=true):DB c=true:=by simp [DB,h]
theorem Wc {L:List Rn} (h:hd L≠46):Lm L=false:=by rw [Lm,AF h];rfl
theorem cT {L:List Rn} (h1:hd L≠101) (h2:hd L≠69):expo L=false:=by rw [expo,AF h1,AF h2];rfl
theorem Al.digit {S X:List Rn} (h:Al S X) (hS:AL (Seat.hd S)=false):AL (Seat.hd X)=false:=by
 rcases h.hd with k|k|k
 ·rw [k];rfl
 ·rcases Kz k with e|e|e<;>(rw [e];rfl)
 ·rw [k];exact hS
theorem iP {s A B C Z X:List Rn} (h:Cut s A B C Z) (hb:Ag Z=false) (hx:Nx Z) (hX:Al Z X):Cut s A B C X∧Ag X=false:=by
 have hne:hd Z≠101∧hd Z≠69:=by
  constructor<;>(intro e;rw [eD (by omega)] at hb;cases hb)
 refine ⟨⟨h.sg,h.dg,h.pt,h.ex,h.ne,hX.digit h.e1,fun hB hC=>?_,fun hC=>cT (hX.ne hne.1 (by decide) rfl) (hX.ne hne.2 (by decide) rfl)⟩,?_⟩
 ·by_cases k:hd Z=46
  ·exfalso
   have h2:=h.e2 hB hC
   rcases hx with rfl|⟨u,P,Y,hp,rfl⟩
   ·exact absurd k (by decide)
   ·obtain ⟨s',A',B',C',V',e,hn,_,f2,_⟩:=HQ hp Y (.inr (.inl k))
    obtain ⟨rfl,rfl,hB'⟩:=f2 k
    have:rn P++Y=B'++(C'++(V'++Y)):=by rw [e];simp
    rw [this,(hn.cut.pt.head hB' _).2] at h2;cases h2
  ·exact Wc (hX.ne k (by decide) rfl)
 ·cases hX with
  |nil h=>rw [h];rfl
  |blank h=>exact Kh _ rfl (by rcases Kz h with e|e|e<;>(rw [e];decide))
  |@same u P Y Y' hp hS hX h1 h2=>
   cases k:Ag X with
   |false=>rfl
   |true=>
    exfalso
    rw [hX] at k
    rw [hS] at hb
    have hk:=Pn hp k
    cases hp with
    |ident hl hv=>rw [(FC hl Y).1] at hb;cases hb
    |func hl hv hn=>rw [Cu,List.append_assoc,(FC hl _).1] at hb;cases hb
    |url hv=>exact absurd hb (by show Ag (⟨117,0⟩::_)≠false;rw [(H0 (r:=117) rfl rfl (by decide)).1];decide)
    |cdc=>rw [show Ag (rn [45,45,62]++Y)=true from rfl] at hb;cases hb
    |num hP' h=>rcases h.un with ⟨q,_⟩|⟨q,_⟩|⟨q,_⟩<;>omega
    |sign hc=>have:=Fx hc;have e:∀c,(AM (Bp c) ⟨#[]⟩).kind=Bp c:=fun _=>rfl;rw [e] at hk;omega
    |«at»=>rcases hk with h|h|h|h<;>exact absurd (show (3:Int)=_ from h) (by decide)
    |hash=>rcases hk with h|h|h|h<;>exact absurd (show (4:Int)=_ from h) (by decide)
    |str=>rcases hk with h|h|h|h<;>exact absurd (show (5:Int)=_ from h) (by decide)
    |comm=>rcases hk with h|h|h|h<;>exact absurd (show (25:Int)=_ from h) (by decide)
    |nl=>rcases hk with h|h|h|h<;>exact absurd (show (13:Int)=_ from h) (by decide)
    |sp=>rcases hk with h|h|h|h<;>exact absurd (show (13:Int)=_ from h) (by decide)
    |cdo=>rcases hk with h|h|h|h<;>exact absurd (show (14:Int)=_ from h) (by decide)
theorem P4 {a b:List Int} (h:AO a=AO b):a.map (fun n=>UInt8.ofNat n.toNat)=b.map (fun n=>UInt8.ofNat n.toNat):=congrArg AA h
theorem Uc {u:Tok} {A B C V:List Rn} {m:Wa} (hn:Nu u [] A B C V) (hf:u.flag=false) {v:Rn} {w:List Rn} {unit:List Int} (hv:v.r=101∨v.r=69) (hw:w=[]∨∃z,w=[z]∧(z.r=43∨z.r=45))
  (hu:AT (v::w)=(unit,[])) (hb:Ag (B++(C++(V++CZ m)))=true) (he:AO (AT (B++(C++(V++CZ m)))).1=AO unit):False:=by
 have hvi:DB v.r=true:=by rcases hv with k|k<;>(rw [k];rfl)
 by_cases hB:B=[]
 ·subst hB
  have hC:C≠[]:=by
   rintro rfl
   rw [hn.flag] at hf;exact absurd hf (by decide)
  rw [List.nil_append] at hb he
  have hp1:∀r:Int,(r=101∨r=69∨r=45)→(Ao r).length=1:=fun r h=>by rcases h with rfl|rfl|rfl<;>rfl
  rcases hw with rfl|⟨z,rfl,hz⟩
  ·rw [BM hvi,BU] at hu
   have hu':=(B1 hu).1
   rcases WO (R:=V++CZ m) hn.cut.ex hC with k|⟨e,z,E,k,kz⟩
   ·have:=congrArg List.length (P4 he)
    simp only [List.length_map] at this
    rw [←hu',List.append_nil,hp1 v.r (by omega)] at this
    omega
   ·exact hn.minus e z E k kz
  ·rcases hz with hz|hz
   ·rw [BM hvi,Cw (by rw [hz];rfl) (by show (AJ z.r 92&&_)=false;rw [hz];rfl)] at hu
    have:=(B1 hu).2
    cases this
   ·rw [BM hvi,BM (by rw [hz];rfl),BU] at hu
    have hu':=(B1 hu).1
    have hul:unit=[v.r,45]:=by
     rw [←hu',List.append_nil,hz]
     rcases hv with k|k<;>(rw [k];rfl)
    have hinj:=P4 he
    rw [hul] at hinj
    rcases hn.cut.ex with rfl|⟨e,s,E,rfl,hee,hs,hE,hD⟩
    ·exact hC rfl
    ·have hei:DB e.r=true:=by rcases hee with k|k<;>(rw [k];rfl)
     have hpe:Ao e.r=[e.r]:=by rcases hee with k|k<;>(rw [k];rfl)
     rcases hs with rfl|⟨y,rfl,hy⟩
     ·cases E with
      |nil=>exact hE rfl
      |cons d E=>
       have hd':=hD d (List.mem_cons_self ..)
       have hdr:=C6 hd'
       have hpd:Ao d.r=[d.r]:=by
        obtain ⟨n,e1⟩:=Int.eq_ofNat_of_zero_le (show 0≤d.r by omega)
        rw [e1]
        exact E0 (n:=128) (p:=fun n=>Ao ((n:Nat):Int)=[((n:Nat):Int)]) (by decide+kernel) n (by omega)
       rw [show e::([]++d::E)++(V++CZ m)=e::d::(E++(V++CZ m)) from rfl,BM hei,BM (ML hd'),hpe,hpd] at hinj
       simp only [List.cons_append,List.nil_append,List.map_cons,List.map_nil,List.cons.injEq] at hinj
       have h2:=congrArg UInt8.toNat hinj.2.1
       simp only [UInt8.toNat_ofNat'] at h2
       have:(45:Int).toNat=45:=rfl
       omega
     ·rcases hy with k|k
      ·exact hn.minus e y E rfl k
      ·cases E with
       |nil=>exact hE rfl
       |cons d E=>
        have hd':=hD d (List.mem_cons_self ..)
        rw [show e::([y]++d::E)++(V++CZ m)=e::y::d::(E++(V++CZ m)) from rfl,BM hei,BM (by rw [k];rfl),BM (ML hd')] at hinj
        have:=congrArg List.length hinj
        simp only [List.length_map,List.length_append,List.length_cons,List.length_nil] at this
        have h1:=(Bj e.r).1;have h2:=(Bj y.r).1;have h3:=(Bj d.r).1
        omega
 ·rw [Ll (.inl (hn.cut.pt.head hB _).1)] at hb;cases hb
end Go.Vx.Seat
end
section
open Go Go.Vx Go.Proofs
namespace Go.Vx.Seat
theorem Fw.exok {v:Rn} {w A:List Rn} (hv:v.r=101∨v.r=69) (hw:w=[]∨∃z,w=[z]∧(z.r=43∨z.r=45)) (hA:Fw A) (hn:A≠[]):Ft (v::(w++A)):=.inr ⟨v,w,A,rfl,hv,hw,hn,hA⟩
theorem U0 (H:RdOk) {t:Tok} {P:List Int} {l:Wa} {s A B C V:List Rn} (hr:Wb ((t,P)::l)) (hP:rn P=s++(A++(B++(C++V)))) (hn:Nu t s A B C V) (hk:t.kind=10) (hlen:(CZ ((t,P)::l)).length≤180000000)
  {r:List Rn} (h:Ak (CZ ((t,P)::l))=(t,r)):r=CZ l∧∀X,Al (CZ l) X→Ak (rn P++X)=(t,X):=by
 have hV:=hn.un10 hk
 subst hV
 have hcat:∀X,rn P++X=s++(A++(B++(C++X))):=fun X=>by rw [hP];simp
 have hc0:=hn.cut
 rw [EC,hcat] at h hlen
 cases hd1:AL (hd (CZ l)) with
 |true=>
  exfalso
  obtain ⟨u,Pu,m,A',B',C',V',e,ec,hw,hA',_,hru,hadj⟩:=KW hr hd1
  obtain ⟨hf,hf'⟩:=hadj.a2 hk hw.nums (by rw [hw.sign];rfl) (by rw [hw.neg];rfl)
  have h48:=hw.no0 hf' hA'
  have hbc:B'≠[]∨C'≠[]:=by
   rw [hw.flag] at hf'
   simp only [Bool.and_eq_false_iff,List.isEmpty_eq_false_iff] at hf'
   exact hf'
  have hZ':AL (hd (B'++(C'++(V'++CZ m))))=false:=by
   by_cases k:B'=[]
   ·subst k
    obtain ⟨q,_⟩:=hw.cut.ex.head (by rcases hbc with q|q;exact absurd rfl q;exact q) (V'++CZ m)
    rw [List.nil_append]
    rcases q with q|q<;>(rw [q];decide)
   ·rw [(hw.cut.pt.head k _).1];decide
  rw [ec] at h hlen
  rw [hn.flag] at hf
  simp only [Bool.and_eq_false_iff,List.isEmpty_eq_false_iff] at hf
  by_cases hC:C=[]
  ·subst hC
   have hB:B≠[]:=by rcases hf with q|q;exact q;exact absurd rfl q
   obtain ⟨C2,R2,eZ,hC2,hR2,hE2⟩:=kJ _ hZ'
   have hcut:Cut s A (B++A') C2 R2:=⟨hc0.sg,hc0.dg,hc0.pt.app hB hw.cut.dg,hC2,.inr (by simp [hB]),hR2,fun q=>absurd (List.append_eq_nil_iff.mp q).1 hB,hE2⟩
   have eL:s++(A++(B++([]++(A'++(B'++(C'++(V'++CZ m)))))))=s++(A++((B++A')++(C2++R2))):=by rw [eZ];simp
   rw [eL] at h hlen
   rw [Fs hcut] at h
   have h1:=(JV h).1
   rw [hn.rd.2.1] at h1
   exact H.mant s A B A' C2 hc0.sg hc0.dg hc0.pt hB hw.cut.dg hA' h48 hC2 (Lz rfl hlen) h1.symm
  ·have hcut:Cut s A B (C++A') (B'++(C'++(V'++CZ m))):=⟨hc0.sg,hc0.dg,hc0.pt,hc0.ex.app hC hw.cut.dg,hc0.ne,hZ',fun _ q=>absurd (List.append_eq_nil_iff.mp q).1 hC,fun q=>absurd (List.append_eq_nil_iff.mp q).1 hC⟩
   have eL:s++(A++(B++(C++(A'++(B'++(C'++(V'++CZ m)))))))=s++(A++(B++((C++A')++(B'++(C'++(V'++CZ m)))))):=by simp
   rw [eL] at h hlen
   rw [Fs hcut] at h
   have h1:=(JV h).2.1
   rw [hn.rd.2.2] at h1
   have hz:=hn.zero hC
   rw [hn.rd.2.1] at hz
   exact H.expo s A B C A' hc0.sg hc0.dg hc0.pt hc0.ne hc0.ex hC hw.cut.dg hA' h48 (Lz rfl hlen) hz h1.symm
 |false=>
  have hcut:Cut s A B C (CZ l):=by
   refine ⟨hc0.sg,hc0.dg,hc0.pt,hc0.ex,hc0.ne,hd1,fun hB hC=>?_,fun hC=>?_⟩
   ·cases k:Lm (CZ l) with
    |false=>rfl
    |true=>
     exfalso
     have h46:hd (CZ l)=46:=by rw [Lm,Bool.and_eq_true] at k;exact AQ k.1
     cases l with
     |nil=>exact absurd h46 (by decide)
     |cons q m=>
      obtain ⟨s',A',B',C',V',e,hw,_,f2,_⟩:=HQ hr.2.2.1 (CZ m) (.inr (.inl h46))
      obtain ⟨rfl,rfl,_⟩:=f2 h46
      have:=(hr.2.1 q rfl).a2 hk hw.nums (by rw [hw.sign];rfl) (by rw [hw.neg];rfl)
      rw [hn.flag,hB,hC] at this
      exact absurd this.1 (by decide)
   ·cases k:expo (CZ l) with
    |false=>rfl
    |true=>
     exfalso
     have he:hd (CZ l)=101∨hd (CZ l)=69:=by
      rw [expo,Bool.and_eq_true,Bool.or_eq_true] at k
      rcases k.1 with q|q
      ·exact .inl (AQ q)
      ·exact .inr (AQ q)
     cases l with
     |nil=>rcases he with q|q<;>exact absurd q (by decide)
     |cons q m=>
      have:=pJ hr.2.2.1 (CZ m) he
      exact (hr.2.1 q rfl).a1 (.inl hk) (by rcases this with k|k;exact .inl k;exact .inr (.inl k))
  rw [Fs hcut] at h
  obtain ⟨q1,q2,q3,q4⟩:=RQ h hk
  refine ⟨q3,fun X hX=>?_⟩
  obtain ⟨hcx,hbx⟩:=iP hcut q1 hr.2.2.nx hX
  rw [hcat,Fs hcx,W5 hbx (hX.ne q2 (by decide) rfl),←q4]
theorem Tv {t:Tok} {P:List Int} {s A B C V S:List Rn} (hP:rn P=s++(A++(B++(C++V)))) (hn:Nu t s A B C V) (hk:t.kind=11) (X:List Rn):Ak (rn P++X)=(t,X):=by
 have hV:=hn.un11 hk
 subst hV
 have hcat:rn P++X=s++(A++(B++(C++(⟨37,0⟩::X)))):=by rw [hP];simp
 have hu:t.unit=⟨#[]⟩:=by
  rcases hn.un with ⟨k,_⟩|⟨_,_,e⟩|⟨k,_⟩
  ·omega
  ·exact e
  ·omega
 rw [hcat,Fs (k7 hn.cut X),XO,←hu,←hn.tok 11 hk]
theorem UA {t:Tok} {P:List Int} {l:Wa} {s A B C V:List Rn} (hr:Wb ((t,P)::l)) (hP:rn P=s++(A++(B++(C++V)))) (hn:Nu t s A B C V) (hk:t.kind=12)
  {r:List Rn} (h:Ak (CZ ((t,P)::l))=(t,r)) (hrest:BO r=l.map Prod.fst):r=CZ l∧∀X,Al (CZ l) X→Ak (rn P++X)=(t,X):=by
 obtain ⟨ul,hul,e1,e2,e3,e4⟩:=hn.un12 hk
 have hcat:∀X,rn P++X=s++(A++(B++(C++(V++X)))):=fun X=>by rw [hP];simp
 have hc0:=hn.cut
 have hVd:∀X,hd (V++X)=hd V:=fun X=>UQ e3 X
 have h46:hd V≠46:=fun k=>by have:=e4 [];rw [List.append_nil,Ll (.inl k)] at this;cases this
 have mk:∀X,(C=[]→expo (V++X)=false)→Cut s A B C (V++X):=fun X hx=>⟨hc0.sg,hc0.dg,hc0.pt,hc0.ex,hc0.ne,by rw [hVd];exact hc0.e1,fun _ _=>Wc (by rw [hVd];exact h46),hx⟩
 rw [EC] at h
 simp only at h
 have hVu:AT V=(enc ul,[]):=by have:=e2 [];rw [List.append_nil,BU,List.append_nil] at this;exact this
 by_cases hx:C=[]∧expo (V++CZ l)=true
 ·exfalso
  obtain ⟨hC,hx⟩:=hx
  subst hC
  rw [hcat] at h
  obtain ⟨v,hv,hcase⟩:=Pp (hc0.e3 rfl) hx e3
  have digits:∀w:List Rn,(w=[]∨∃z,w=[z]∧(z.r=43∨z.r=45))→V=v::w→AL (hd (CZ l))=true→False:=fun w hw hVw hd1=>by
   obtain ⟨u,Pu,m,A',B',C',V',e,ec,hwn,hA',_,hru,hadj⟩:=KW hr hd1
   obtain ⟨_,hf'⟩:=hadj.a3 hk hwn.nums
   have hf':=hf' (by rw [hwn.sign];rfl)
   have hbc:B'≠[]∨C'≠[]:=by
    rw [hwn.flag] at hf'
    simp only [Bool.and_eq_false_iff,List.isEmpty_eq_false_iff] at hf'
    exact hf'
   have hZ':AL (hd (B'++(C'++(V'++CZ m))))=false:=by
    by_cases k:B'=[]
    ·subst k
     obtain ⟨q,_⟩:=hwn.cut.ex.head (by rcases hbc with q|q;exact absurd rfl q;exact q) (V'++CZ m)
     rw [List.nil_append]
     rcases q with q|q<;>(rw [q];decide)
    ·rw [(hwn.cut.pt.head k _).1];decide
   have hcut:Cut s A B (v::(w++A')) (B'++(C'++(V'++CZ m))):=⟨hc0.sg,hc0.dg,hc0.pt,Fw.exok hv hw hwn.cut.dg hA',hc0.ne,hZ',fun _ q=>(by cases q),fun q=>(by cases q)⟩
   have eL:s++(A++(B++([]++(V++CZ l))))=s++(A++(B++((v::(w++A'))++(B'++(C'++(V'++CZ m)))))):=by rw [ec,hVw];simp
   rw [eL,Fs hcut] at h
   obtain ⟨q1,_,q3⟩:=Hq h hk
   have hun:t.unit=AO (AT (B'++(C'++(V'++CZ m)))).1:=by rw [q3];rfl
   rw [hVw] at hVu
   exact Uc hwn hf' hv hw hVu q1 (by rw [←hun,e1])
  rcases hcase with ⟨hVv,⟨_,hd1⟩|⟨hsg,hd1⟩⟩|⟨w,hVw,hw,hd1⟩
  ·exact digits [] (.inl rfl) hVv hd1
  ·
   cases l with
   |nil=>exact absurd hsg (by decide)
   |cons q m=>
    obtain ⟨u,Pu⟩:=q
    have hadj:=hr.2.1 _ rfl
    have hru:=hr.2.2
    have hsg':hd (rn Pu++CZ m)=43∨hd (rn Pu++CZ m)=45:=by
     rw [Ai,Bool.or_eq_true] at hsg
     rcases hsg with k|k
     ·exact .inl (AQ k)
     ·exact .inr (AQ k)
    rcases hsg' with h43|h45
    ·obtain ⟨s',A',B',C',V',eP,hw,_,_,f3⟩:=HQ hru.1 (CZ m) (.inr (.inr h43))
     obtain ⟨z,rfl,hz⟩:=f3 h43
     have ec:CZ ((u,Pu)::m)=z::(A'++(B'++(C'++(V'++CZ m)))):=by
      rw [EC];simp only;rw [eP];simp
     have hA':A'≠[]:=by
      rintro rfl
      have hB':B'≠[]:=by rcases hw.cut.ne with k|k;exact absurd rfl k;exact k
      rw [ec] at hd1
      have:=(hw.cut.pt.head hB' (C'++(V'++CZ m))).1
      rw [show (z::([]++(B'++(C'++(V'++CZ m))))).drop 1=B'++(C'++(V'++CZ m)) from rfl,this] at hd1
      exact absurd hd1 (by decide)
     obtain ⟨A3,eZ,hA3,hR3⟩:=Hg (B'++(C'++(V'++CZ m)))
     generalize digs (B'++(C'++(V'++CZ m)))=R3 at*
     have hcut:Cut s A B (v::([z]++(A'++A3))) R3:=⟨hc0.sg,hc0.dg,hc0.pt,Fw.exok hv (.inr ⟨z,rfl,.inl hz⟩) (hw.cut.dg.app hA3) (by simp [hA']),hc0.ne,hR3,fun _ q=>(by cases q),fun q=>(by cases q)⟩
     have eL:s++(A++(B++([]++(V++CZ ((u,Pu)::m)))))=s++(A++(B++((v::([z]++(A'++A3)))++R3))):=by
      rw [ec,eZ,hVv];simp
     rw [eL,Fs hcut] at h
     obtain ⟨q1,q2,q3⟩:=Hq h hk
     have hun:t.unit=AO (AT R3).1:=by rw [q3];rfl
     have hl1:(AT R3).1.length=1:=by
      have h1:=NZ hun
      have h2:=NZ e1
      have h3:(enc ul).length=1:=by
       rw [hVv,BM (by rcases hv with k|k<;>(rw [k];rfl)),BU] at hVu
       rw [←(B1 hVu).1,List.append_nil]
       rcases hv with k|k<;>(rw [k];rfl)
      omega
     obtain ⟨_,hB,hC,k1,k2,k3,k4⟩:=Ta hru hw eZ hA3 hR3 q1 hl1
     subst hB hC
     rw [q2,k4] at hrest
     exact gW m u hru.2.2 hw.rest.2.2.2.2.2 k1 (by rw [hw.sign];show AJ z.r 43=true;rw [hz];rfl) hw.flag k2 hrest
    ·rcases YX hru.1 (CZ m) h45 with k|⟨k1,k2⟩
     ·exact hadj.a1 (.inr hk) k
     ·rw [(hadj.a3 hk k1).1] at k2;cases k2
  ·exact digits [w] (.inr ⟨w,rfl,hw⟩) hVw hd1
 ·have hx':C=[]→expo (V++CZ l)=false:=fun hC=>by
   cases k:expo (V++CZ l) with
   |false=>rfl
   |true=>exact absurd ⟨hC,k⟩ hx
  rw [hcat,Fs (mk _ hx')] at h
  obtain ⟨q1,q2,q3⟩:=Hq h hk
  rw [e2] at q2 q3
  have hnil:(AT (CZ l)).1=[]:=by
   have:t.unit=AO (enc ul++(AT (CZ l)).1):=by rw [q3];rfl
   rw [e1] at this
   exact GA this.symm
  refine ⟨by rw [q2,(HT hnil).1],fun X hX=>?_⟩
  obtain ⟨x1,x2,x3⟩:=hX.take hnil
  have hxX:C=[]→expo (V++X)=false:=fun hC=>by
   cases k:expo (V++X) with
   |false=>rfl
   |true=>
    exfalso
    have hVe:expo V=false:=hc0.e3 hC
    have hno:AL (hd X)=true→False:=fun k=>by rw [ML k] at x2;cases x2
    obtain ⟨v,hv,hcase⟩:=Pp hVe k e3
    rcases hcase with ⟨hVv,⟨_,hd1⟩|⟨hsg,hd1⟩⟩|⟨w,hVw,hw,hd1⟩
    ·exact hno hd1
    ·have hsg':hd X=43∨hd X=45:=by
      rw [Ai,Bool.or_eq_true] at hsg
      rcases hsg with k|k
      ·exact .inl (AQ k)
      ·exact .inr (AQ k)
     rcases hsg' with h43|h45
     ·cases hX with
      |nil h=>rw [h] at h43;exact absurd h43 (by decide)
      |blank h=>rw [h43] at h;exact absurd h (by decide)
      |@same u Pu Y Y' hp hS hX' h1 h2=>
       have h43':hd (rn Pu++Y')=43:=by rw [←hX'];exact h43
       obtain ⟨s',A',B',C',V',eP,hw,_,_,f3⟩:=HQ hp Y' (.inr (.inr h43'))
       obtain ⟨z,rfl,hz⟩:=f3 h43'
       have eX:X=z::(A'++(B'++(C'++(V'++Y')))):=by rw [hX',eP];simp
       have eS:CZ l=z::(A'++(B'++(C'++(V'++Y)))):=by rw [hS,eP];simp
       have hA':A'≠[]:=by
        rintro rfl
        have hB':B'≠[]:=by rcases hw.cut.ne with k|k;exact absurd rfl k;exact k
        rw [eX] at hd1
        have:=(hw.cut.pt.head hB' (C'++(V'++Y'))).1
        rw [show (z::([]++(B'++(C'++(V'++Y'))))).drop 1=B'++(C'++(V'++Y')) from rfl,this] at hd1
        exact absurd hd1 (by decide)
       have hxs:=hx' hC
       have hve:(AJ v.r 101||AJ v.r 69)=true:=by rcases hv with k|k<;>(rw [k];rfl)
       have hzs:Ai (z::(A'++(B'++(C'++(V'++Y)))))=true:=by show (AJ z.r 43||_)=true;rw [hz];rfl
       rw [eS,hVv] at hxs
       have:expo ([v]++z::(A'++(B'++(C'++(V'++Y)))))=true:=by
        show ((AJ v.r 101||AJ v.r 69)&&AL (hd (if Ai (z::(A'++(B'++(C'++(V'++Y))))) then A'++(B'++(C'++(V'++Y))) else _)))=true
        rw [hve,hzs,Bool.true_and]
        exact CX hw.cut.dg hA' _
       rw [this] at hxs;cases hxs
     ·rw [h45] at x2;exact absurd x2 (by decide)
    ·exact hno hd1
  rw [hcat,Fs (mk X hxX),XV (e4 X),e2,x1,List.append_nil,←e1,←hn.tok 12 hk]
theorem X5 (H:RdOk) {t:Tok} {P:List Int} {l:Wa} (hr:Wb ((t,P)::l)) (h0:t.start=0) (hk:t.kind≠13) (hlen:(CZ ((t,P)::l)).length≤180000000) (h:BO (CZ ((t,P)::l))=t::l.map Prod.fst):
  (∀X,Al (CZ l) X→Ak (rn P++X)=(t,X))∧BO (CZ l)=l.map Prod.fst:=by
 obtain ⟨r,h1,h2⟩:=Qi hr.1 h0 h
 by_cases hn:nums t.kind
 ·obtain ⟨s,A,B,C,V,hP,hw⟩:=Uu hr.1 hn
  rcases hn with k|k|k
  ·obtain ⟨e,hX⟩:=U0 H hr hP hw k hlen h1
   exact ⟨hX,by rw [←e];exact h2⟩
  ·have hX:=Tv (S:=[]) hP hw k
   rw [EC] at h1
   rw [hX (CZ l)] at h1
   exact ⟨fun X _=>hX X,by rw [(B1 h1).2];exact h2⟩
  ·obtain ⟨e,hX⟩:=UA hr hP hw k h1 h2
   exact ⟨hX,by rw [←e];exact h2⟩
 ·rw [EC] at h1
  obtain ⟨e,hX⟩:=VC hr.1 hn hk hr.2.2.nx h1
  exact ⟨hX,by rw [←e];exact h2⟩
end Go.Vx.Seat
end
section
open Go Go.Vx Go.Proofs
namespace Go.Vx.Seat
def QL (k:Int):Prop:=k=22∨k=24∨k=20
theorem LF {k:Int} (h:BP k>0):QL (BP k):=by
 unfold BP at h ⊢
 unfold QL
 split
 ·simp
 ·split
  ·simp
  ·split
   ·simp
   ·simp_all
theorem Xr {k:Int} (h:BP k=20):k=19:=by
 unfold BP at h
 split at h
 ·omega
 ·split at h
  ·omega
  ·split at h<;>omega
theorem Kd (ts:List Tok):∀(i:Nat) (k:Int),k∈AX ts i→QL k
 |0,k,h=>by simp [AX] at h
 |i+1,k,h=>by
  have ih:=Kd ts i k
  unfold AX at h
  split at h
  ·unfold BS at h
   split at h
   ·exact ih ((List.dropLast_sublist _).subset h)
   ·split at h
    ·rename_i hc
     rcases List.mem_append.mp h with h|h
     ·exact ih h
     ·rw [List.mem_singleton.mp h];exact LF hc
    ·exact ih h
  ·exact ih h
theorem U8 {ts:List Tok} {i:Nat} {k:Int} (h:(AX ts i).getLast?=some k):QL k:=Kd ts i k (List.mem_of_getLast? h)
theorem KM {o:List Int} (h:Ci o=true) {k:Int} (hk:k∈o):k=20:=by
 have:=List.all_eq_true.mp h k hk
 simpa using this
theorem ST {o:List Int} (h:Ci o=true) (hn:0<o.length):o.getLast?=some 20:=by
 cases hl:o.getLast? with
 |none=>rw [List.getLast?_eq_none_iff.mp hl] at hn;simp at hn
 |some a=>rw [KM h (List.mem_of_getLast? hl)]
def Gx (ts:List Tok) (o:List Int) (k:Nat):Prop:=∃rest,AX ts k=o++rest∧rest.head?≠some 20
theorem Gx.same {ts:List Tok} {o:List Int} {k:Nat} (h:AX ts k=o):Gx ts o k:=⟨[],by simp [h],by simp⟩
theorem Gx.len {ts:List Tok} {o:List Int} {k:Nat} (h:Gx ts o k):o.length≤(AX ts k).length:=by
 obtain ⟨r,h1,_⟩:=h;rw [h1];simp
theorem Gx.eq {ts:List Tok} {o:List Int} {k:Nat} (h:Gx ts o k) (hl:(AX ts k).length=o.length):AX ts k=o:=by
 obtain ⟨r,h1,_⟩:=h
 rw [h1] at hl ⊢
 have:r=[]:=by cases r with|nil=>rfl|cons a r=>simp at hl
 simp [this]
def fZ (ts:List Tok) (n k:Nat):Prop:=(AX ts k).length=n∧(Bv ts k=19∨(Bv ts k=20∧0<n))
theorem Sx {o r:List Int} (h:r≠[]):(o++r).getLast?=r.getLast?:=by
 rw [List.getLast?_append];cases hr:r.getLast? with
 |none=>exact absurd (List.getLast?_eq_none_iff.mp hr) h
 |some a=>rfl
theorem Gx.step {ts:List Tok} {o:List Int} {k:Nat} (h:Gx ts o k) (hb:Ci o=true) (hk:k<ts.length) (hs:¬fZ ts o.length k):Gx ts o (k+1):=by
 obtain ⟨r,h1,h2⟩:=h
 have ht:ts[k]?=some ts[k]:=List.getElem?_eq_getElem hk
 have hkk:=B6 ht
 unfold fZ at hs
 rw [Gx,Fj ht,←hkk]
 generalize Bv ts k=K at hs
 rw [h1] at hs ⊢
 unfold BS
 cases r with
 |nil=>
  simp only [List.append_nil] at hs ⊢
  split
  ·rename_i hl
   have hm:=KM hb (List.mem_of_getLast? hl)
   have:0<o.length:=List.length_pos_of_mem (List.mem_of_getLast? hl)
   exact absurd ⟨by simp,.inr ⟨hm,this⟩⟩ hs
  ·split
   ·refine ⟨[BP K],rfl,fun h=>?_⟩
    have:BP K=20:=by simpa using h
    exact hs ⟨by simp,.inl (Xr this)⟩
   ·exact ⟨[],by simp,by simp⟩
 |cons a r=>
  split
  ·refine ⟨(a::r).dropLast,by rw [List.dropLast_append_of_ne_nil (by simp)],?_⟩
   cases r with
   |nil=>simp
   |cons b r=>simpa using h2
  ·split
   ·exact ⟨a::r++[BP K],by simp,by simpa using h2⟩
   ·exact ⟨a::r,rfl,h2⟩
theorem QM {ts:List Tok} {k:Nat} (h:(AX ts k).getLast?=some (Bv ts k)):(pl ts k).1=(AX ts k).length - 1:=by
 simp [pl,HV,h]
theorem Vz {ts:List Tok} {k:Nat} (h:¬(AX ts k).getLast?=some (Bv ts k)):pl ts k=((AX ts k).length,Ci (AX ts k),false):=by
 simp [pl,HV,h]
theorem Gx.lt {ts:List Tok} {o:List Int} {k:Nat} (h:Gx ts o k) (hb:Ci o=true):(pl ts k).1<o.length↔(AX ts k).length=o.length∧Bv ts k=20∧0<o.length:=by
 have hl:=h.len
 by_cases hc:(AX ts k).getLast?=some (Bv ts k)
 ·rw [QM hc]
  constructor
  ·intro h1
   have h2:(AX ts k).length=o.length:=by omega
   have h3:=h.eq h2
   rw [h3] at hc
   exact ⟨h2,KM hb (List.mem_of_getLast? hc),List.length_pos_of_mem (List.mem_of_getLast? hc)⟩
  ·rintro ⟨h1,h2,h3⟩
   omega
 ·rw [Vz hc]
  constructor
  ·intro h1;simp only at h1;omega
  ·rintro ⟨h1,h2,h3⟩
   rw [h.eq h1,h2] at hc
   exact absurd (ST hb h3) hc
theorem Gx.part {ts:List Tok} {o:List Int} {k:Nat} (h:Gx ts o k) (hb:Ci o=true) (hn:¬(pl ts k).1<o.length):((pl ts k).1=o.length∧Fk (Bv ts k)=true)↔((AX ts k).length=o.length∧Fk (Bv ts k)=true):=by
 by_cases hc:(AX ts k).getLast?=some (Bv ts k)
 ·have hp:=QM hc
  obtain ⟨r,h1,h2⟩:=h
  have hsh:=U8 hc
  have hlen:(AX ts k).length=o.length+r.length:=by rw [h1];simp
  cases r with
  |nil=>
   exfalso
   have:0<(AX ts k).length:=List.length_pos_of_mem (List.mem_of_getLast? hc)
   simp at hlen
   omega
  |cons a r=>
   constructor
   ·rintro ⟨h3,h4⟩
    exfalso
    have hr:r=[]:=by
     cases r with
     |nil=>rfl
     |cons b r=>simp at hlen;omega
    subst hr
    rw [h1,Sx (by simp)] at hc
    simp at hc h2
    rcases hsh with h|h|h
    ·rw [h] at h4;simp [Fk] at h4
    ·rw [h] at h4;simp [Fk] at h4
    ·rw [h] at hc;exact h2 hc
   ·rintro ⟨h3,h4⟩
    simp at hlen;omega
 ·rw [Vz hc]
end Go.Vx.Seat
end
