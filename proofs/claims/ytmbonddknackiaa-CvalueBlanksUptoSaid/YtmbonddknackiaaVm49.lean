/- Texts joined: VzDj VzDk VzR2. -/
import Derived.Test.YtmbonddknackiaaVm48
import Derived.Test.YtmbonddknackiaaVm47
import Derived.Test.YtmbonddknackiaaVm45
import Derived.Test.YtmbonddknackiaaVm37
set_option linter.unusedSimpArgs false
set_option linter.unusedVariables false
section
open Go Go.Vx Go.Proofs
namespace Go.Vx.Seat
theorem Zv (k:Int) (h:16≤k∧k≤24):Bp (U7 k)=k∧32≤U7 k∧U7 k<128:=by
 have hk:k=16∨k=17∨k=18∨k=19∨k=20∨k=21∨k=22∨k=23∨k=24:=by omega
 rcases hk with rfl|rfl|rfl|rfl|rfl|rfl|rfl|rfl|rfl<;>exact ⟨rfl,by decide,by decide⟩
theorem gM {t:Tok} (g:Good t) (hf:Form (A4 t)) (hrt:Zs t) (h6:t.kind≠6) (h8:t.kind≠8) (h9:t.kind≠9) (hu:Mr t=false):∃P,Lg t=AO (enc P)∧GD P∧Pc (A4 t) P:=by
 by_cases hk:nums t.kind
 ·exact j0 g hk hrt
 obtain ⟨_,hw,_⟩:=FZ t g
 have lne:(t.kind=1∨t.kind=2∨t.kind=3∨t.kind=4)→My t≠[]:=fun h e=>by
  apply hrt.2 h
  rw [g.htx,e];rfl
 have htx:=g.htx
 have hl:=g.hl
 generalize Lg t=w at hw ⊢
 unfold Mr at hu
 generalize hT:A4 t=T at hf ⊢
 cases hf with
 |num h=>exact absurd (show nums t.kind by rw [show t.kind=(A4 t).kind from rfl,hT];exact h) hk
 |hash s f=>
  have k4:t.kind=4:=congrArg Tok.kind hT
  have ks:t.text=s:=congrArg Tok.text hT
  have kf:t.flag=f:=congrArg Tok.flag hT
  rw [k4] at h6 h8 h9
  rw [←ks,htx,←kf]
  have no:∀{k:Int} {p:Prop},t.kind=k→k≠4→p:=fun e a=>by omega
  cases hw with
  |hash h=>exact ⟨35::DL t.flag (My t),rfl,.cons (.asc (by decide) (by decide)) (Lo _ _ hl),.hash t.flag (lne (.inr (.inr (.inr k4)))) hl⟩
  |ident h=>exact no h (by decide)
  |func h=>exact no h (by decide)
  |«at» h=>exact no h (by decide)
  |str h=>exact no h (by decide)
  |url h=>exact no h (by decide)
  |raw h=>exfalso;omega
  |comm h=>exact no h (by decide)
  |num h=>exact no h (by decide)
  |pct h=>exact no h (by decide)
  |dim h=>exact no h (by decide)
  |cdo h=>exact no h (by decide)
  |cdc h=>exact no h (by decide)
  |sign h=>exfalso;omega
  |none h=>exfalso;omega
 |tok k s hk1 h13 hs h25=>
  obtain rfl:t.kind=k:=congrArg Tok.kind hT
  obtain rfl:t.text=s:=congrArg Tok.text hT
  obtain ⟨g1,g2,g3,g4⟩:=hk1
  have form:∀{P:List Int} {c:Int},t.kind=c→Pc (AM c (AO (enc (My t)))) P→Pc (AM t.kind t.text) P:=fun e h=>by rw [e,htx];exact h
  have form0:∀{P:List Int} {c:Int},t.kind=c→14≤c→c≤24→Pc (AM c ⟨#[]⟩) P→Pc (AM t.kind t.text) P:=fun e a b h=>by rw [hs (by omega) (by omega),e];exact h
  have asc:∀{c:Int},32≤c→c<128→Cq c:=fun a b=>.asc a b
  cases hw with
  |ident h=>exact ⟨DL true (My t),rfl,Lo _ _ hl,form h (.ident (lne (.inl h)) hl)⟩
  |func h=>
   refine ⟨DL true (My t)++[40],rfl,(Lo _ _ hl).app (.cons (asc (by decide) (by decide)) .nil),form h (.func (lne (.inr (.inl h))) hl ?_)⟩
   rw [h,htx,show AJ 2 2=true from rfl,Bool.true_and] at hu
   exact hu
  |«at» h=>exact ⟨64::DL true (My t),rfl,.cons (asc (by decide) (by decide)) (Lo _ _ hl),form h (.at (lne (.inr (.inr (.inl h)))) hl)⟩
  |hash h=>exact absurd h g3
  |str h=>exact ⟨O2 (Zn (My t)) (My t),rfl,iS (Tq _) _ hl,form h (.str (Tq _) hl)⟩
  |url h=>exact ⟨[117,114,108,40]++(Gg (My t)++[41]),rfl,GD.app (.cons (asc (by decide) (by decide)) (.cons (asc (by decide) (by decide)) (.cons (asc (by decide) (by decide)) (.cons (asc (by decide) (by decide)) .nil)))) ((bY _ hl).app (.cons (asc (by decide) (by decide)) .nil)),form h (.url hl)⟩
  |raw h=>
   have k13:t.kind=13:=by omega
   rw [k13]
   rcases h13 k13 with e|e
   ·rw [e];exact ⟨[10],rfl,.cons m5 .nil,.nl⟩
   ·rw [e];exact ⟨[32],rfl,Nz,.sp⟩
  |comm h=>
   obtain ⟨l,hlq,e⟩:=h25 h
   have hc:IM l:=fun r hr=>⟨(hlq r hr).1,(hlq r hr).2.1⟩
   have tl:My t=l:=by rw [My,e,GY hc]
   refine ⟨47::42::(My t++[42,47]),rfl,.cons (asc (by decide) (by decide)) (.cons (asc (by decide) (by decide)) (GD.app (by rw [tl];exact hlq) (.cons (asc (by decide) (by decide)) (.cons (asc (by decide) (by decide)) .nil)))),form h (.comm hl)⟩
  |num h=>exact absurd (.inl h) hk
  |pct h=>exact absurd (.inr (.inl h)) hk
  |dim h=>exact absurd (.inr (.inr h)) hk
  |cdo h=>exact ⟨[60,33,45,45],rfl,.cons (asc (by decide) (by decide)) (.cons (asc (by decide) (by decide)) (.cons (asc (by decide) (by decide)) (.cons (asc (by decide) (by decide)) .nil))),form0 h (by decide) (by decide) .cdo⟩
  |cdc h=>exact ⟨[45,45,62],rfl,.cons (asc (by decide) (by decide)) (.cons (asc (by decide) (by decide)) (.cons (asc (by decide) (by decide)) .nil)),form0 h (by decide) (by decide) .cdc⟩
  |sign h=>
   obtain ⟨a,b,c⟩:=Zv _ h
   refine ⟨[U7 t.kind],by rw [Aa,OB (by omega) c,BD];rfl,.cons (asc b c) .nil,?_⟩
   have:=Pc.sign (c:=U7 t.kind) (by rw [a];omega)
   rw [a] at this
   exact form0 rfl (by omega) h.2 this
  |none h=>exfalso;omega
structure Sf (ts:List Tok) (i:Nat) (acc:List Int) (m:fQ):Prop where
 whole:acc=m.flatMap fun p=>enc (p.2.1++(p.1.2++p.2.2))
 tok:(m.map Prod.fst).map Prod.fst=(ts.take i).map A4
 pc:∀p,p∈m→Pc p.1.1 p.1.2∧Zk p.1.1 p.2.1 p.2.2∧Cd p.1.1=false
 cq:∀p,p∈m→GD p.1.2∧GD p.2.1∧GD p.2.2
 wr:B9 ((ts.take i).map Lg)=AA (AO ((m.map Prod.fst).flatMap fun p=>enc p.2))
 ok:∀t,t∈ts.take i→Cd t=false∧Mr t=false
 len:acc.length≤500020*i
theorem Sf.nil (ts:List Tok):Sf ts 0 [] []:=⟨rfl,rfl,fun p h=>by simp at h,fun p h=>by simp at h,rfl,fun t h=>by simp at h,by simp⟩
theorem bN (a b:List Int):AA (AO (a++b))=AA (AO a)++AA (AO b):=List.map_append ..
theorem Sf.snoc {ts:List Tok} {i:Nat} {acc:List Int} {m:fQ} (h:Sf ts i acc m) {t:Tok} (hx:ts[i]?=some t) {P pre post A:List Int} (hP:Pc (A4 t) P) (hw:Lg t=AO (enc P)) (hPq:GD P) (hPl:(enc P).length≤500000) (ha:Zk (A4 t) pre post)
  (hpq:GD pre∧GD post) (hpl:(enc pre).length+(enc post).length≤20) (hln:Cd t=false) (hu:Mr t=false) (hA:A=acc++(enc pre++(enc P++enc post))):Sf ts (i+1) A (m++[((A4 t,P),(pre,post))]):=by
 have htk:ts.take (i+1)=ts.take i++[t]:=by rw [List.take_add_one,hx];rfl
 refine ⟨?_,?_,fun p hp=>?_,fun p hp=>?_,?_,fun u hu'=>?_,?_⟩
 ·rw [hA,List.flatMap_append,←h.whole,List.flatMap_cons,List.flatMap_nil,List.append_nil,Ap,Ap]
 ·rw [htk,List.map_append,List.map_append,List.map_append,h.tok];rfl
 ·rcases List.mem_append.mp hp with hp|hp
  ·exact h.pc p hp
  ·rw [List.mem_singleton.mp hp];exact ⟨hP,ha,hln⟩
 ·rcases List.mem_append.mp hp with hp|hp
  ·exact h.cq p hp
  ·rw [List.mem_singleton.mp hp];exact ⟨hPq,hpq⟩
 ·rw [htk,List.map_append,TK,h.wr,List.map_append,List.flatMap_append,bN]
  congr 1
  simp only [B9,List.map_cons,List.map_nil,List.flatMap_cons,List.flatMap_nil,List.append_nil]
  rw [hw]
 ·rw [htk] at hu'
  rcases List.mem_append.mp hu' with hu'|hu'
  ·exact h.ok u hu'
  ·rw [List.mem_singleton.mp hu'];exact ⟨hln,hu⟩
 ·have:=h.len
  rw [hA,List.length_append,List.length_append,List.length_append];omega
theorem Vh:∀l:Wa,(CZ l).length≤(l.flatMap fun p=>enc p.2).length
 |[]=>Nat.le_refl _
 |p::l=>by
  have h1:=Vh l
  have h2:=(Bx p.2).1
  rw [EC,List.flatMap_cons,List.length_append,List.length_append,rn,List.length_map];omega
theorem T4 {bs:List Int} {ts:List Tok} (hts:ts=BO (BI 0 bs)) (hb:bs.length≤300) (hn:ts.length≤300) (hs:∀s,s∈ts.map Lg→(AA s).length≤500000) {acc:List Int} {m:fQ} (h:Sf ts ts.length acc m)
  (hj:(∀t,t∈ts→Cd t=false∧Mr t=false)→(BO (BI 0 (Aj (AI (B9 (ts.map Lg)))))).map bare=ts.map bare):M0 (Xt (BO (BI 0 acc))) (Xt ts):=by
 obtain ⟨h1,h2,h3,h4,h5,h6,h7⟩:=h
 rw [List.take_of_length_le (Nat.le_refl _)] at h2 h5 h6
 have hj:=hj h6
 have hcl:=LM _ hs
 rw [h5] at hj hcl
 rw [Dn,Fo (fun x hx=>by
  obtain ⟨p,_,hp⟩:=List.mem_flatMap.mp hx
  exact LP p.2 x hp)] at hj
 rw [AW,List.length_map] at hcl
 have e1:ts.map A4=BO (RS bs):=by rw [hts,Fn]
 have e2:=Fn ((m.map Prod.fst).flatMap fun p=>enc p.2)
 have hg:BO (RS ((m.map Prod.fst).flatMap fun p=>enc p.2))=BO (RS bs):=by rw [←e2,←e1];exact hj
 have key:=Ul bs m (by omega) (by have:=Vh (m.map Prod.fst);omega) (by rw [h2,e1]) h3 (fun p hp=>⟨(h4 p hp).1,(h4 p hp).2.1,(h4 p hp).2.2⟩) hg
 rw [←h1,←hts] at key
 exact (aG _ _).mp key
end Go.Vx.Seat
end
section
open Go Go.Vx Go.Proofs
set_option maxRecDepth 20000
set_option maxHeartbeats 8000000
namespace Go.Vx.Seat
theorem dJ {C:Cx} {pin:Nat} {draw:Bool} {gs:List (Option Nat)} {d:Option Nat} {os:List Oper} {fs:List Fr} {Q:FI} {e:List YV} {s:BH} (P:List YV→BH→Prop) {op:Op} {g:Option Bool} (h1:Ri C pin draw gs d op os [] (Gu P (kf C pin fs Q)) e s g)
  (h2:∀e s,P e s→kf C pin fs Q .normal e s):Ri C pin draw gs d op os fs Q e s g:=Rv (fun x e s h=>by
 cases x with
 |normal=>exact h2 _ _ h
 |ret=>exact h
 |exit i=>exact h) h1
attribute [local irreducible] Rg Rt Ro Ri Rc Ds Dt Dw Dx Rw Rl Rd Av An kf
theorem fn6:By C1.P.funcs.toList 6=some Try.f6:=by kernel_rfl
theorem eT (a:Int):D8 .shr .i64 a 2=some (.int .i64 (FF a 2)):=aQ a 2
theorem pO (a:Int):Ck a 3=0∨Ck a 3=1∨Ck a 3=2∨Ck a 3=3:=by
 unfold Ck
 have h:(BitVec.ofInt IntKind.i64.bits a&&&BitVec.ofInt IntKind.i64.bits 3).toNat≤3:=by
  rw [BitVec.toNat_and]
  exact Nat.le_trans Nat.and_le_right (by decide)
 generalize (BitVec.ofInt IntKind.i64.bits a&&&BitVec.ofInt IntKind.i64.bits 3).toNat=n at h
 have:IntKind.wrap .i64 ((n:Nat):Int)=(n:Nat):=by rw [IntKind.wrap_i64];omega
 rw [this];omega
theorem nM:enc [32]=[32]:=by decide
theorem qD:enc [10]=[10]:=by decide
theorem p1:enc [47,42,97,42,47]=[47,42,97,42,47]:=by decide
theorem p2:enc [32,47,42,32,98,32,42,47,9]=[32,47,42,32,98,32,42,47,9]:=by decide
theorem Z5 {l:List Int} (h:∀r,r∈l→r=9∨(32≤r∧r<128)):GD l:=fun r hr=>by
 rcases h r hr with rfl|⟨a,b⟩
 ·exact ⟨⟨by decide,by decide,by decide⟩,by decide⟩
 ·exact .asc a b
theorem blanksW_spec (bs ws:List Int) (hbl:bs.length≤1048576) (hwl:ws.length≤1048576):AS C1 6 [.c (.p (rB bs)),.c (.p (rI ws))] fun y=>y=yd (.bool true):=by
 have hsl:(AA (AO bs)).length=bs.length:=AW bs
 obtain ⟨bs',hbs⟩:∃bs',bs'=Aj (AO bs):=⟨_,rfl⟩
 have hbl':bs'.length=bs.length:=by rw [hbs,B4,hsl]
 have hsp:=MR (AO bs) (by omega)
 rw [←hbs] at hsp
 obtain ⟨ts,hts⟩:∃ts,ts=BO (BI 0 bs'):=⟨_,rfl⟩
 rw [←hts] at hsp
 have htl:ts.length≤bs.length:=by
  rw [hts]
  have h1:=(Di _ (BI 0 bs') (Nat.le_refl _)).1
  have h2:=CN _ bs' (Nat.le_refl _) 0
  omega
 refine Pf (by rfl) (by rfl) fn6 (by rfl) ?_
 simp only [Try.f6,List.length_cons,List.length_nil,List.replicate,List.cons_append,List.nil_append]
 simp -implicitDefEqProofs only [↓yP,yT]
 refine AB Sj (by rfl) fun y hy=>?_
 subst hy
 simp -implicitDefEqProofs only [↓yP,yT,A6,Ar]
 refine AB hsp (by rfl) fun y hy=>?_
 subst hy
 by_cases hl:bs.length≤300
 ·have t1:AN (bs.length:Nat) 300=true:=AH (by omega)
  by_cases hw:ws.length<ts.length
  ·have t2:AN (ts.length:Nat) (ws.length:Nat)=false:=AE (by omega)
   simp -implicitDefEqProofs only [↓yP,yT,reduceCtorEq,t1,t2]
  ·have t2:AN (ts.length:Nat) (ws.length:Nat)=true:=AH (by omega)
   have hgood:∀t,t∈ts→Good t∧Form (A4 t):=fun t ht=>Z4 (bs:=bs') (by omega) (by rw [←hts];exact ht)
   simp -implicitDefEqProofs only [↓yP,yT,t1,t2]
   refine AB (T6 ts (by omega) fun t ht=>(hgood t ht).1) (by rfl) fun y hy=>?_
   obtain ⟨b,rfl,hb⟩:=hy
   cases b with
   |false=>simp -implicitDefEqProofs only [↓yP,yT,reduceCtorEq]
   |true=>
    obtain ⟨hrt,hj⟩:=hb rfl
    simp -implicitDefEqProofs only [↓yP,yT]
    refine Ah (fun d e st=>∃(i:Nat) (acc:List Int) (m:fQ),e=[Tp,.c (.p (rI ws)),Tp,Tp,Tp,Tp,.c (.p (rT ts)),yd (.string (AO acc)),yd (.int .i64 (i:Nat)),Tp,Tp,Tp,Tp,Tp,Tp,Tp,Tp,Tp,Tp,Tp,Tp,Tp,Tp,Tp,Tp,Tp,Tp,Tp,Tp,Tp,Tp,Tp,Tp,Tp,Tp,Tp,Tp,Tp,Tp,Tp,Tp,Tp,Tp,Tp,Tp,Tp,Tp,Tp,Tp,Tp,Tp,Tp,Tp,Tp,Tp,Tp,Tp,Tp,Tp,Tp,Tp,Tp,Tp,Tp,Tp,Tp,Tp,Tp,Tp,Tp,Tp,Tp,Tp,Tp,Tp,Tp,Tp,Tp,Tp,Tp,Tp,Tp,Tp,Tp,Tp,Tp,Tp,Tp,Tp,Tp,Tp,Tp,Tp,Tp,Tp,Tp,Tp,Tp,Tp,Tp,Tp,Tp,Tp,Tp,Tp,Tp,Tp,Tp,Tp,Tp,Tp,Tp,Tp,Tp,Tp,Tp,Tp,Tp,Tp,Tp,Tp,Tp,Tp,Tp,Tp,Tp,Tp,Tp,Tp,Tp,Tp,Tp,Tp,Tp,Tp,Tp,Tp,Tp,Tp,Tp,Tp,Tp,Tp,Tp,Tp,Tp,Tp,Tp,Tp,Tp,Tp,Tp,Tp,Tp,Tp,Tp,Tp,Tp,Tp]∧st=[]∧i+d=ts.length∧Sf ts i acc m) [false,true,false,false,false,false,true,true,true] ts.length [] (by decide) (AC _) ⟨0,[],[],by (simp only [yE];try rfl),by (simp only [yE];try rfl),by omega,Sf.nil ts⟩ ?_
    rintro d e st ⟨i,acc,m,rfl,rfl,hd,hS⟩
    by_cases hi:i<ts.length
    ·obtain ⟨t,hx⟩:=get_lt hi
     obtain ⟨v,hv⟩:=get_lt (l:=ws) (i:=i) (by omega)
     have htm:=List.mem_of_getElem? hx
     obtain ⟨g,hf⟩:=hgood t htm
     obtain ⟨hwr,_,hwl2⟩:=FZ t g
     have t1:AN (ts.length:Nat) (i:Nat)=false:=AE (by omega)
     have w1:AG .i64 ((i:Int)+1)=((i+1:Nat):Int):=AK (by omega)
     simp only [Tok.yv,Tok.cs,Tok.pc,List.map_cons,List.map_nil] at hwr
     simp -implicitDefEqProofs only [↓yP,yT,Nat.reduceAdd,reduceCtorEq,t1,AP hx,Tok.pc]
     refine AB hwr (by rfl) fun y hy=>?_
     subst hy
     have hal:=hS.len
     cases e8:AJ t.kind 8 with
     |true=>simp -implicitDefEqProofs only [↓yP,yT,Nat.reduceAdd,reduceCtorEq,AP hx,Tok.pc,e8]
     |false=>
     cases e6:AJ t.kind 6 with
     |true=>
      have e2:AJ t.kind 2=false:=by rw [AQ e6];rfl
      simp -implicitDefEqProofs only [↓yP,yT,Nat.reduceAdd,reduceCtorEq,AP hx,Tok.pc,e8,e2,e6]
     |false=>
     cases e9:AJ t.kind 9 with
     |true=>
      have e2:AJ t.kind 2=false:=by rw [AQ e9];rfl
      simp -implicitDefEqProofs only [↓yP,yT,Nat.reduceAdd,reduceCtorEq,AP hx,Tok.pc,e8,e2,e6,e9]
     |false=>
     cases e2:AJ t.kind 2 with
     |true=>
      have htx:(AA t.text).length≤4800:=by rw [g.htx,AW];have:=(Bx (My t)).2;have:=g.hll;omega
      simp -implicitDefEqProofs only [↓yP,yT,Nat.reduceAdd,Nat.reduceLeDiff,reduceCtorEq,AP hx,Tok.pc,e8,e2]
      refine AB (Lh t.text (by omega)) (by rfl) fun y hy=>?_
      subst hy
      cases ku:(AA (Lf t.text)==AA ⟨#[117,114,108]⟩) with
      |true=>simp -implicitDefEqProofs only [↓yP,yT,reduceCtorEq,At,ku]
      |false=>
       have k2:=AQ e2
       have hu:Mr t=false:=by rw [Mr,e2,ku];rfl
       have hln:Cd t=false:=by rw [Cd,e6,e9];rfl
       obtain ⟨P,hw,hPq,hP⟩:=gM g hf (hrt t htm) (A7 e6) (A7 e8) (A7 e9) hu
       rw [hw,AW] at hwl2
       have hPl:=hwl2
       rw [hw]
       have s1:=BW acc (enc P) (by omega)
       have q:AJ 2 17=false∧AJ 2 18=false∧AJ 2 19=false∧AJ 2 20=false∧AJ 2 13=false:=⟨rfl,rfl,rfl,rfl,rfl⟩
       rw [k2] at e6 e9
       simp -implicitDefEqProofs only [↓yP,yT,Nat.reduceAdd,reduceCtorEq,At,ku,e6,e9,AP hx,AP hv,Tok.pc,ei,k2,q,s1,w1]
       exact ⟨d - 1,[],by omega,by decide,AC _,i+1,(acc++enc P),_,by (simp only [yE];try rfl),by (simp only [yE];try rfl),by omega,hS.snoc (pre:=[]) (post:=[]) hx hP hw hPq hPl (.inr (.inr ⟨by rw [E9];show (AJ t.kind 17||AJ t.kind 18||AJ t.kind 19||AJ t.kind 20)=false;rw [k2];rfl,by show t.kind≠13;omega,rfl,rfl⟩)) ⟨.nil,.nil⟩ (by decide) hln hu (by simp [BD])⟩
     |false=>
      have hu:Mr t=false:=by rw [Mr,e2];rfl
      have hln:Cd t=false:=by rw [Cd,e6,e9];rfl
      obtain ⟨P,hw,hPq,hP⟩:=gM g hf (hrt t htm) (A7 e6) (A7 e8) (A7 e9) hu
      rw [hw,AW] at hwl2
      have hPl:=hwl2
      rw [hw]
      have s1:=BW acc (enc P) (by omega)
      simp -implicitDefEqProofs only [↓yP,yT,Nat.reduceAdd,reduceCtorEq,AP hx,AP hv,Tok.pc,ei,e8,e2,e6,e9]
      refine dJ (fun e st=>(∃g:Nat→YV,e=[g 0,.c (.p (rI ws)),g 2,g 3,g 4,g 5,.c (.p (rT ts)),yd (.string (AO acc)),yd (.int .i64 (i:Nat)),yd (.string (AO (enc P))),yd (.int .i64 v),yd (.bool (E9 t)),g 12,g 13,g 14,g 15,g 16,g 17,g 18,g 19,g 20,g 21,g 22,g 23,g 24,g 25,g 26,g 27,g 28,g 29,g 30,g 31,g 32,g 33,g 34,g 35,g 36,g 37,g 38,g 39,g 40,g 41,g 42,g 43,g 44,g 45,g 46,g 47,g 48,g 49,g 50,g 51,g 52,g 53,g 54,g 55,g 56,g 57,g 58,g 59,g 60,g 61,g 62,g 63,g 64,g 65,g 66,g 67,g 68,g 69,g 70,g 71,g 72,g 73,g 74,g 75,g 76,g 77,g 78,g 79,g 80,g 81,g 82,g 83,g 84,g 85,g 86,g 87,g 88,g 89,g 90,g 91,g 92,g 93,g 94,g 95,g 96,g 97,g 98,g 99,g 100,g 101,g 102,g 103,g 104,g 105,g 106,g 107,g 108,g 109,g 110,g 111,g 112,g 113,g 114,g 115,g 116,g 117,g 118,g 119,g 120,g 121,g 122,g 123,g 124,g 125,g 126,g 127,g 128,g 129,g 130,g 131,g 132,g 133,g 134,g 135,g 136,g 137,g 138,g 139,g 140,g 141,g 142,g 143,g 144,g 145,g 146,g 147,g 148,g 149,g 150,g 151,g 152,g 153,g 154,g 155,g 156,g 157,g 158])∧st=[]) ?_ ?_
      ·rw [E9]
       cases f17:AJ t.kind 17 with
       |true=>
        simp -implicitDefEqProofs only [↓yP,yT,Ae]
        exact BB rfl
       |false=>
       cases f18:AJ t.kind 18 with
       |true=>
        simp -implicitDefEqProofs only [↓yP,yT,Nat.reduceAdd,reduceCtorEq,AP hx,Tok.pc,f18,Ae]
        exact BB rfl
       |false=>
       cases f19:AJ t.kind 19 with
       |true=>
        simp -implicitDefEqProofs only [↓yP,yT,Nat.reduceAdd,reduceCtorEq,AP hx,Tok.pc,f18,f19,Ae]
        exact BB rfl
       |false=>
       cases f20:AJ t.kind 20 with
       |true=>
        simp -implicitDefEqProofs only [↓yP,yT,Nat.reduceAdd,reduceCtorEq,AP hx,Tok.pc,f18,f19,f20,Ae]
        exact BB rfl
       |false=>
        simp -implicitDefEqProofs only [↓yP,yT,Nat.reduceAdd,reduceCtorEq,AP hx,Tok.pc,f18,f19,f20,Ae]
        exact BB rfl
      rintro e st ⟨⟨g',rfl⟩,rfl⟩
      cases hp:E9 t with
      |true=>
       have e13:AJ t.kind 13=false:=by
        simp only [E9,Bool.or_eq_true] at hp
        rcases hp with ((h|h)|h)|h<;>(rw [AQ h];rfl)
       have Mx:(⟨#[32]⟩:ByteArray)=AO [32]:=rfl
       have k10:(⟨#[10]⟩:ByteArray)=AO [10]:=rfl
       have s2:=BW acc [32] (by simp;omega)
       have s3:=BW (acc++[32]) (enc P) (by simp;omega)
       have s4:=BW (acc++enc P) [10] (by simp;omega)
       have s5:=BW (acc++[32]++enc P) [10] (by simp;omega)
       have c1:GD [32]∧GD [10]:=⟨Nz,.cons m5 .nil⟩
       cases a1:AJ (Ck v 1) 1<;>cases a2:AJ (Ck v 2) 2<;>unfold Ck at a1 a2
       ·skip
        simp -implicitDefEqProofs only [↓yP,yT,Nat.reduceAdd,reduceCtorEq,AP hx,Tok.pc,e13,a1,a2,s1,w1]
        exact ⟨d - 1,[],by omega,by decide,AC _,i+1,(acc++enc P),_,by (simp only [yE];try rfl),by (simp only [yE];try rfl),by omega,hS.snoc (pre:=[]) (post:=[]) hx hP hw hPq hPl (.inl ⟨hp,.inl rfl,.inl rfl⟩) ⟨.nil,.nil⟩ (by decide) hln hu (by simp [BD])⟩
       ·skip
        simp -implicitDefEqProofs only [↓yP,yT,Nat.reduceAdd,reduceCtorEq,AP hx,Tok.pc,e13,a1,a2,k10,s1,s4,w1]
        exact ⟨d - 1,[],by omega,by decide,AC _,i+1,(acc++enc P++[10]),_,by (simp only [yE];try rfl),by (simp only [yE];try rfl),by omega,hS.snoc (pre:=[]) (post:=[10]) hx hP hw hPq hPl (.inl ⟨hp,.inl rfl,.inr rfl⟩) ⟨.nil,c1.2⟩ (by decide) hln hu (by simp [qD,BD])⟩
       ·skip
        simp -implicitDefEqProofs only [↓yP,yT,Nat.reduceAdd,reduceCtorEq,AP hx,Tok.pc,e13,a1,a2,Mx,s2,s3,w1]
        exact ⟨d - 1,[],by omega,by decide,AC _,i+1,(acc++[32]++enc P),_,by (simp only [yE];try rfl),by (simp only [yE];try rfl),by omega,hS.snoc (pre:=[32]) (post:=[]) hx hP hw hPq hPl (.inl ⟨hp,.inr rfl,.inl rfl⟩) ⟨c1.1,.nil⟩ (by decide) hln hu (by simp [nM,BD])⟩
       ·skip
        simp -implicitDefEqProofs only [↓yP,yT,Nat.reduceAdd,reduceCtorEq,AP hx,Tok.pc,e13,a1,a2,Mx,k10,s2,s3,s5,w1]
        exact ⟨d - 1,[],by omega,by decide,AC _,i+1,(acc++[32]++enc P++[10]),_,by (simp only [yE];try rfl),by (simp only [yE];try rfl),by omega,hS.snoc (pre:=[32]) (post:=[10]) hx hP hw hPq hPl (.inl ⟨hp,.inr rfl,.inr rfl⟩) ⟨c1.1,c1.2⟩ (by decide) hln hu (by simp [nM,qD])⟩
      |false=>
       cases e13:AJ t.kind 13 with
       |false=>
        simp -implicitDefEqProofs only [↓yP,yT,Nat.reduceAdd,reduceCtorEq,AP hx,Tok.pc,e13,s1,w1]
        exact ⟨d - 1,[],by omega,by decide,AC _,i+1,(acc++enc P),_,by (simp only [yE];try rfl),by (simp only [yE];try rfl),by omega,hS.snoc (pre:=[]) (post:=[]) hx hP hw hPq hPl (.inr (.inr ⟨hp,A7 e13,rfl,rfl⟩)) ⟨.nil,.nil⟩ (by decide) hln hu (by simp [BD])⟩
       |true=>
        have k0:(⟨#[]⟩:ByteArray)=AO []:=rfl
        have k1:(⟨#[32]⟩:ByteArray)=AO [32]:=rfl
        have k2:(⟨#[47,42,97,42,47]⟩:ByteArray)=AO [47,42,97,42,47]:=rfl
        have k3:(⟨#[32,47,42,32,98,32,42,47,9]⟩:ByteArray)=AO [32,47,42,32,98,32,42,47,9]:=rfl
        have n:(0:Int)≤0∧(0:Int)≤1∧(0:Int)≤2∧(0:Int)≤3∧(0:Int)<((4:Nat):Int)∧(1:Int)<((4:Nat):Int)∧(2:Int)<((4:Nat):Int)∧(3:Int)<((4:Nat):Int):=by decide
        have z:Int.toNat 0=0∧Int.toNat 1=1∧Int.toNat 2=2∧Int.toNat 3=3:=⟨rfl,rfl,rfl,rfl⟩
        have b4:4*16≤70368744177664:=by decide
        rcases pO (FF v 2) with a|a|a|a
        ·unfold Ck at a
         have s2:=BW (acc++enc P) [] (by simp;omega)
         simp -implicitDefEqProofs only [↓yP,yT,Nat.reduceAdd,Nat.reduceMul,Nat.reduceLeDiff,reduceCtorEq,AP hx,Tok.pc,e13,s1,w1,k0,k1,k2,k3,n,z,eT,a,s2,Nat.reduceLT]
         exact ⟨d - 1,[],by omega,by decide,AC _,i+1,(acc++enc P),_,by (simp only [yE];try rfl),by (simp only [yE];try rfl),by omega,hS.snoc (pre:=[]) (post:=[]) hx hP hw hPq hPl (.inr (.inl ⟨AQ e13,rfl,.inl rfl⟩)) ⟨.nil,.nil⟩ (by decide) hln hu (by simp [BD])⟩
        ·unfold Ck at a
         have s2:=BW (acc++enc P) [32] (by simp;omega)
         simp -implicitDefEqProofs only [↓yP,yT,Nat.reduceAdd,Nat.reduceMul,Nat.reduceLeDiff,reduceCtorEq,AP hx,Tok.pc,e13,s1,w1,k0,k1,k2,k3,n,z,eT,a,s2,Nat.reduceLT]
         exact ⟨d - 1,[],by omega,by decide,AC _,i+1,(acc++enc P++[32]),_,by (simp only [yE];try rfl),by (simp only [yE];try rfl),by omega,hS.snoc (pre:=[]) (post:=[32]) hx hP hw hPq hPl (.inr (.inl ⟨AQ e13,rfl,.inr (.inl rfl)⟩)) ⟨.nil,Nz⟩ (by decide) hln hu (by simp [nM,BD])⟩
        ·unfold Ck at a
         have s2:=BW (acc++enc P) [47,42,97,42,47] (by simp;omega)
         simp -implicitDefEqProofs only [↓yP,yT,Nat.reduceAdd,Nat.reduceMul,Nat.reduceLeDiff,reduceCtorEq,AP hx,Tok.pc,e13,s1,w1,k0,k1,k2,k3,n,z,eT,a,s2,Nat.reduceLT]
         exact ⟨d - 1,[],by omega,by decide,AC _,i+1,(acc++enc P++[47,42,97,42,47]),_,by (simp only [yE];try rfl),by (simp only [yE];try rfl),by omega,hS.snoc (pre:=[]) (post:=[47,42,97,42,47]) hx hP hw hPq hPl (.inr (.inl ⟨AQ e13,rfl,.inr (.inr (.inl rfl))⟩)) ⟨.nil,Z5 (by decide)⟩ (by decide) hln hu (by simp [p1,BD])⟩
        ·unfold Ck at a
         have s2:=BW (acc++enc P) [32,47,42,32,98,32,42,47,9] (by simp;omega)
         simp -implicitDefEqProofs only [↓yP,yT,Nat.reduceAdd,Nat.reduceMul,Nat.reduceLeDiff,reduceCtorEq,AP hx,Tok.pc,e13,s1,w1,k0,k1,k2,k3,n,z,eT,a,s2,Nat.reduceLT]
         exact ⟨d - 1,[],by omega,by decide,AC _,i+1,(acc++enc P++[32,47,42,32,98,32,42,47,9]),_,by (simp only [yE];try rfl),by (simp only [yE];try rfl),by omega,hS.snoc (pre:=[]) (post:=[32,47,42,32,98,32,42,47,9]) hx hP hw hPq hPl (.inr (.inl ⟨AQ e13,rfl,.inr (.inr (.inr rfl))⟩)) ⟨.nil,Z5 (by decide)⟩ (by decide) hln hu (by simp [p2,BD])⟩
    ·have t1:AN (ts.length:Nat) (i:Nat)=true:=AH (by omega)
     obtain rfl:i=ts.length:=by omega
     have hal:=hS.len
     have hfin:=T4 hts (by omega) (by omega) (fun s hs=>by obtain ⟨t,ht,rfl⟩:=List.mem_map.mp hs;exact (FZ t (hgood t ht).1).2.2) hS hj
     have hac:Aj (AO acc)=acc:=Fo fun x hx=>by
      rw [hS.whole] at hx
      obtain ⟨p,_,hp⟩:=List.mem_flatMap.mp hx
      exact LP _ x hp
     have hsp2:=MR (AO acc) (by rw [AW];omega)
     rw [hac] at hsp2
     obtain ⟨n1,n2⟩:=Di _ (BI 0 acc) (Nat.le_refl _)
     have n3:=CN _ acc (Nat.le_refl _) 0
     have n4:=PN (BO (BI 0 acc))
     have n5:=PN ts
     simp -implicitDefEqProofs only [↓yP,yT,t1]
     refine AB hsp2 (by rfl) fun y hy=>?_
     subst hy
     simp -implicitDefEqProofs only [yT]
     refine AB (V6 _ (by omega) fun t ht=>by have:=n2 t ht;omega) (by rfl) fun y hy=>?_
     subst hy
     simp -implicitDefEqProofs only [yT]
     refine AB (V6 ts (by omega) fun t ht=>by rw [(hgood t ht).1.htx,AW];have:=(Bx (My t)).2;have:=(hgood t ht).1.hll;omega) (by rfl) fun y hy=>?_
     subst hy
     simp -implicitDefEqProofs only [yT]
     refine AB (Xk _ _ (by omega) (by omega)) (by rfl) fun y hy=>?_
     obtain ⟨b,rfl,hb⟩:=hy
     obtain rfl:b=true:=hb.mpr hfin
     simp -implicitDefEqProofs only [↓yP,yT,reduceCtorEq]
 ·have t1:AN (bs.length:Nat) 300=false:=AE (by omega)
  simp -implicitDefEqProofs only [↓yP,yT,reduceCtorEq,t1]
end Go.Vx.Seat
end
section
open Go Go.Vx Go.Proofs Go.RowKit
set_option maxRecDepth 100000
namespace Go.Vx.Seat
theorem ce3:Try.prog.cellsOf 3=1:=by kernel_rfl
section
variable {D:Type} {enc:TypeId×Value→D} {w:World} {base:Nat}
theorem aS (m:Nat):Lays enc Try.prog w base m 3 fun ps=>∃n:Int,ps=ei n:=by
 intro cs x φ h hi hx _
 have hl:∃v,cs=[v]∧∃n,v=.int .i64 n:=by
  obtain ⟨n,h1,_⟩:=DataW.trod_int Try.underlying3 hx
  exact ⟨_,h1,n,rfl⟩
 obtain ⟨v,rfl,n,rfl⟩:=hl
 exact ⟨φ,h,_,_,hi,.refl _ _,Hv.dry rfl,n,rfl⟩
theorem P5 {t e:TypeId} (mk:Int→List PC) (ht:Try.prog.underlying t=some (.slice e)) (hc:Try.prog.cellsOf e=1) (hE:∀m,Lays enc Try.prog w w.heap.size m e fun ps=>∃n:Int,ps=mk n)
  {r:Reach} {base:Nat} {v0:Value} {x0:DataW D×List MemPlace} {m0:Nat} {φ:Cy} {h:H} (hi:Go.Vx.In w.heap.size φ h w) (k0:Value.okWide Try.prog w r base t v0)
  (h0:DataW.trod enc Try.prog w 0 (fun _=>true) true m0 t v0.cells.toList=some x0) (w0:(x0.1.weights Try.prog t).all (·≤reachBytes)=true):
  ∃(φ':Cy) (h':H) (us:List Value) (ns:List Int),Go.Vx.In w.heap.size φ' h' w∧Gr φ φ' h h'∧Hv φ' h' us [v0] [.row 1 (ns.map mk)]∧(ns=[]∨∃es sp,x0.1=.slice es sp∧ns.length=es.length):=by
 rcases dG ht k0 with rfl|⟨a,n,c,rfl,hg⟩
 ·refine ⟨φ,h,[.slice none 0 0],[],hi,.refl _ _,⟨All2.same fun v hv=>?_,L2.single PRep.nil⟩,.inl rfl⟩
  rw [List.mem_singleton.mp hv];exact It rfl
 ·cases m0 with
  |zero=>simp [DataW.trod] at h0
  |succ m=>
   have h0':DataW.trod enc Try.prog w 0 (fun _=>true) true (m+1) t [.slice (some a) n c]=some x0:=h0
   obtain ⟨φ',h',us,ps,i1,g1,l1,els,rfl,_,hE',hn⟩:=QX (hE m) ht (by rw [hc];omega) (fun a' n' c' e=>by cases e;exact hg) x0 _ _ hi h0' w0
   obtain ⟨ns,_,rfl⟩:=TW (f:=mk) (p:=fun _=>True) fun p hp=>let ⟨t,ht⟩:=hE' p hp;⟨t,trivial,ht⟩
   obtain ⟨es,sp,e1,e2⟩:=hn a n c rfl
   rw [List.length_map] at e2
   exact ⟨φ',h',us,ns,i1,g1,by rw [hc] at l1;exact l1,.inr ⟨es,sp,e1,e2⟩⟩
theorem bi_calls {f:FuncId} {N:Nat} {r:Reach} {base:Nat} {v0 v1:Value} {x0 x1:DataW D×List MemPlace} {m0 m1:Nat} (hsh:w.ShapedOpen Try.prog) (ht:C1.told f=none) (hf:∀bs ws:List Int,bs.length≤N→ws.length≤N→AS C1 f [.c (.p (rB bs)),.c (.p (rI ws))] fun y=>y=yd (.bool true))
  (b0:∀es sp,x0.1=.slice es sp→es.length≤N) (b1:∀es sp,x1.1=.slice es sp→es.length≤N) (k0:Value.okWide Try.prog w r base 31 v0) (k1:Value.okWide Try.prog w r base 25 v1)
  (h0:DataW.trod enc Try.prog w 0 (fun _=>true) true m0 31 v0.cells.toList=some x0) (h1:DataW.trod enc Try.prog w 0 (fun _=>true) true m1 25 v1.cells.toList=some x1) (w0:(x0.1.weights Try.prog 31).all (·≤reachBytes)=true) (w1:(x1.1.weights Try.prog 25).all (·≤reachBytes)=true):
  Calls Try.prog f #[v0,v1] w fun e w'=>e=.returned (.bool true)∧Below w.heap.size w w':=by
 obtain ⟨φ1,h1',us1,as1,i1,g1,l1,n1⟩:=P5 eb Try.underlying31 ce5 (fun m=>eN m) (Go.Vx.In.nil w.heap.size w) k0 h0 w0
 obtain ⟨φ,h,us2,bs,hi,g2,l2,n2⟩:=P5 ei Try.underlying25 ce3 (fun m=>aS m) i1 k1 h1 w1
 have q1:as1.length≤N:=by
  rcases n1 with rfl|⟨es,sp,e1,e2⟩
  ·exact Nat.zero_le _
  ·rw [e2];exact b0 es sp e1
 have q2:bs.length≤N:=by
  rcases n2 with rfl|⟨es,sp,e1,e2⟩
  ·exact Nat.zero_le _
  ·rw [e2];exact b1 es sp e1
 have hl:=(l1.mono g2).app l2
 obtain ⟨hc,hp⟩:=hl
 generalize us1++us2=us at hc hp
 match us,hp.1,hc,hp with
 |[u0,u1],_,hc,hp=>
  have p0:PRep (fun b=>b<h.n) h (rB as1) u0:=hp.2 0 _ _ rfl rfl
  have p1:PRep (fun b=>b<h.n) h (rI bs) u1:=hp.2 1 _ _ rfl rfl
  obtain ⟨n,v,h',hx,R',y,hy,hv,_⟩:=hf as1 bs q1 q2 0 (fun b=>b<h.n) h [u0,u1] (Nat.zero_le _) (fun b hb=>hb) (L2.cons (show Af [] (fun b=>b<h.n) h (.c (.p (rB as1))) u0 from p0) (L2.single (show Af [] (fun b=>b<h.n) h (.c (.p (rI bs))) u1 from p1)))
  subst hy
  obtain rfl:v=.bool true:=by cases hv;rfl
  have ha:All2 (VR φ) [u0,u1] #[v0,v1].toList:=⟨rfl,fun i u hu=>by
   match i,hu with
   |0,hu=>cases hu;obtain ⟨v,e,hr⟩:=hc.2 0 u0 rfl;exact ⟨v,e,QB p0 hr⟩
   |1,hu=>cases hu;obtain ⟨v,e,hr⟩:=hc.2 1 u1 rfl;exact ⟨v,e,QB p1 hr⟩⟩
  refine Calls.mono (O6 Nh hx ht hi.hr ⟨Nat.le_refl _,fV hsh⟩ ha fun i g1 g2=>?_) fun e w' ⟨v',he,φ',hv',st⟩=>?_
  ·cases e:φ i with
   |none=>rfl
   |some l=>have:=hi.dom i l e;omega
  ·subst he
   exact ⟨by rw [hv'.bool],st.below⟩
end
end Go.Vx.Seat
end
