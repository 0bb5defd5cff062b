/- Code as a whole, loops, functions. -/
import Derived.Test.YtmbonddknackiaaVyCode
set_option linter.unusedVariables false
namespace Go.Vx
section
variable {C:Cx} {lo pin:Nat} {m m':Mp} {R R':Nat→Prop} {h h':H} {s s':BH} {e:List YV} {env:BF}
theorem JI.mono {c:Code} {Q Q':X→List YV→BH→Prop} (hl:JI C pin c e s Q) (hq:∀x e s,Q x e s→Q' x e s):JI C pin c e s Q':=
 fun lo m R h env hs he=>(hl lo m R h env hs he).mono fun x env' h' ⟨m',R',e',s',k1,k2⟩=>⟨m',R',e',s',hq _ _ _ k1,k2⟩
theorem Fb:∀{c:Code} {e:List YV} {s:BH} {Q:X→List YV→BH→Prop},YW C pin c e s Q→JI C pin c e s Q
 |.skip,e,s,Q,hy=>fun lo m R h env hs he=>by rw [U2];exact ⟨m,R,e,s,hy,hs,he,Stp.refl _ _ _ _,fun _ _ _ hb=>hb⟩
 |.ret,e,s,Q,hy=>fun lo m R h env hs he=>by rw [Xl];exact ⟨m,R,e,s,hy,hs,he,Stp.refl _ _ _ _,fun _ _ _ hb=>hb⟩
 |.exit id,e,s,Q,hy=>fun lo m R h env hs he=>by rw [Ur];exact ⟨m,R,e,s,hy,hs,he,Stp.refl _ _ _ _,fun _ _ _ hb=>hb⟩
 |.seq a b,e,s,Q,hy=>fun lo m R h env hs he=>by
  rw [W9]
  refine (Fb (c:=a) hy lo m R h env hs he).mono ?_
  rintro x env1 h1 ⟨m1,R1,e1,s1,q,hs1,he1,st,hp⟩
  cases x with
  |normal=>
   refine (Fb (c:=b) q lo m1 R1 h1 env1 hs1 he1).mono ?_
   rintro x env2 h2 ⟨m2,R2,e2,s2,q,hs2,he2,st2,hp2⟩
   exact ⟨m2,R2,e2,s2,q,hs2,he2,st.trans st2,fun i b hi hb=>hp2 i b hi (hp i b hi hb)⟩
  |exit id=>exact ⟨m1,R1,e1,s1,q,hs1,he1,st,hp⟩
  |ret=>exact ⟨m1,R1,e1,s1,q,hs1,he1,st,hp⟩
 |.cond t a b,e,s,Q,hy=>fun lo m R h env hs he=>by
  rw [Ty]
  have hy':MO (YW C pin a e s Q) (YW C pin b e s Q) (yv e t):=hy
  have ht:=Kg he t
  generalize yv e t=u at hy' ht
  unfold MO at hy'
  split at hy'
  ·generalize ev env t=w at ht
   cases ht
   exact ⟨true,rfl,by rw [if_pos rfl];exact Fb (c:=a) hy' lo m R h env hs he⟩
  ·generalize ev env t=w at ht
   cases ht
   exact ⟨false,rfl,by rw [if_neg (by simp)];exact Fb (c:=b) hy' lo m R h env hs he⟩
  ·exact hy'.elim
 |.block id c,e,s,Q,hy=>fun lo m R h env hs he=>by
  rw [SN]
  refine (Fb (c:=c) hy lo m R h env hs he).mono ?_
  rintro x env1 h1 ⟨m1,R1,e1,s1,q,k⟩
  cases x with
  |normal=>exact ⟨m1,R1,e1,s1,q,k⟩
  |ret=>exact ⟨m1,R1,e1,s1,q,k⟩
  |exit i=>
   show if i=id then _ else _
   have q':if i=id then Q .normal e1 s1 else Q (.exit i) e1 s1:=q
   split at q'
   ·rename_i hi;rw [if_pos hi];exact ⟨m1,R1,e1,s1,q',k⟩
   ·rename_i hi;rw [if_neg hi];exact ⟨m1,R1,e1,s1,q',k⟩
 |.region id ops false,e,s,Q,hy=>fun lo m R h env hs he=>by
  rw [Xn]
  refine (JE (Q:=Q .normal) hy hs he).mono ?_
  rintro env1 h1 ⟨m1,R1,e1,s1,q,hs1,he1,st,hp⟩
  exact ⟨m1,R1,e1,s1,q,hs1,he1,st,fun i b _ hb=>hp i b hb⟩
 |.region id ops true,e,s,Q,hy=>hy
 |.loop c,e,s,Q,hy=>hy
theorem fS {id:Nat} {ops:Array Oper} {Q:X→List YV→BH→Prop} (hc:Oy C.P ops.toList=true) (hy:YG C true (ops.toList.map Oper.dst) ops.toList e s (Q .normal)):YD C pin id ops e s Q:=
 fun lo m R h env hs he=>cZ hc ((JE hy hs he).mono fun env1 h1 ⟨m1,R1,e1,s1,q,hs1,he1,st,hp⟩=>⟨m1,R1,e1,s1,q,hs1,he1,st,fun i b _ hb=>hp i b hb⟩)
end
noncomputable def Ex:List Nat→Nat→Option Nat
 |[],_=>none
 |k::ks,i=>match Nat.beq k i with|true=>some 0|false=>(match Ex ks i with|some j=>some (j+1)|none=>none)
theorem Iq:∀{ks:List Nat} {i j:Nat},Ex ks i=some j→ks[j]?=some i
 |[],i,j,h=>by cases h
 |k::ks,i,j,h=>by
  unfold Ex at h
  split at h
  ·rename_i hb;cases h;rw [Nat.eq_of_beq_eq_true hb];rfl
  ·split at h
   ·rename_i j' hj;cases h;rw [List.getElem?_cons_succ];exact Iq hj
   ·cases h
theorem Mf:∀{ks:List Nat} {i:Nat},Ex ks i=none→i∉ks
 |[],i,_=>by simp
 |k::ks,i,h=>by
  unfold Ex at h
  split at h
  ·cases h
  ·rename_i hb
   split at h
   ·cases h
   ·rename_i hj
    simp only [List.mem_cons,not_or]
    exact ⟨fun he=>(by rw [he,show Nat.beq k k=true from Nat.beq_refl k] at hb;cases hb),Mf hj⟩
noncomputable def FH (ks:List Nat) (s:BH):Ce→Ce
 |.p c=>.p c
 |.own id sz off len=>(match Ex ks id with
  |some j=>.own j sz off len
  |none=>(match ES s (.c (.own id sz off len)) with|some (z,els)=>.p (.row z els)|none=>.top))
 |.ptr id sz i off=>(match Ex ks id with|some j=>.ptr j sz i off|none=>.top)
 |.rp cs=>.rp cs
 |.top=>.top
noncomputable def TY (ks:List Nat) (s:BH):YV→YV
 |.c c=>.c (FH ks s c)
 |.agg cs=>.agg (cs.map (FH ks s))
 |.tup xs=>.tup xs
noncomputable def IP (ks:List Nat) (s:BH):YV→YV
 |.c c=>.c (FH ks s c)
 |.agg cs=>.agg (cs.map (FH ks s))
 |.tup xs=>.tup (xs.map (TY ks s))
noncomputable def SS (ks:List Nat) (s:BH):Ent→Ent
 |.dead=>.dead
 |.box cs=>.box (cs.map (FH ks s))
 |.row sz els=>.row sz els
noncomputable def KO (ks:List Nat) (s:BH):BH:=ks.map fun k=>match By s k with|some e=>SS ks s e|none=>.dead
noncomputable def Jq (ks:List Nat) (s:BH):List Bool→List YV→List YV
 |_,[]=>[]
 |[],vs=>vs.map fun _=>.c .top
 |true::bs,v::vs=>IP ks s v::Jq ks s bs vs
 |false::bs,_::vs=>.c .top::Jq ks s bs vs
section
variable {C:Cx} {lo pin:Nat} {m m':Mp} {R R':Nat→Prop} {h h':H} {s s':BH} {e:List YV} {env:BF}
def QW (ks:List Nat) (m:Mp) (R:Nat→Prop) (s:BH) (b:Nat):Prop:=R b∨∃(i sz:Nat) (els:List (List PC)),i∉ks∧s[i]?=some (.row sz els)∧m[i]?=some (some b)
def J9 (ks:List Nat) (m:Mp):Mp:=ks.map fun k=>match m[k]? with|some x=>x|none=>none
theorem LA {ks:List Nat} {j k:Nat} (hk:ks[j]?=some k) {b:Nat} (hb:m[k]?=some (some b)):(J9 ks m)[j]?=some (some b):=by
 rw [J9,List.getElem?_map,hk];simp [hb]
theorem Nf {ks:List Nat} {j b:Nat} (hb:(J9 ks m)[j]?=some (some b)):∃k,ks[j]?=some k∧m[k]?=some (some b):=by
 rw [J9,List.getElem?_map] at hb
 cases hk:ks[j]? with
 |none=>rw [hk] at hb;cases hb
 |some k=>
  rw [hk] at hb
  simp only [Option.map_some,Option.some.injEq] at hb
  split at hb
  ·rename_i x hx;subst hb;exact ⟨k,rfl,hx⟩
  ·cases hb
theorem KN (hs:SRep lo m R h s) {ks:List Nat} {c:Ce} {v:Value} (hc:CI m R h c v):CI (J9 ks m) (QW ks m R s) h (FH ks s c) v:=by
 cases c with
 |p c=>exact PRep.mono hc (fun _ h=>.inl h) fun _ _=>rfl
 |own id sz off len=>
  show CI _ _ _ (match Ex ks id with|some j=>_|none=>_) v
  cases hj:Ex ks id with
  |some j=>exact ⟨hc.1,hc.2.imp (fun x=>x) fun ⟨b,h1,h2⟩=>⟨b,LA (Iq hj) h1,h2⟩⟩
  |none=>
   simp only
   cases hr:ES s (.c (.own id sz off len)) with
   |none=>trivial
   |some r=>
    obtain ⟨z,els⟩:=r
    simp only
    have hr':=hr
    rcases GU (x:=.c (.own id sz off len)) hs hc hr with ⟨rfl,rfl⟩|⟨b,o,blk,rfl,k1,k2⟩
    ·exact PRep.nil
    ·unfold ES at hr'
     simp only at hr'
     rw [Cf] at hr'
     split at hr'
     ·rename_i z0 els0 he
      rcases hc with ⟨hz,⟨hc,_⟩|⟨b',hm,hc⟩⟩
      ·cases hc
      ·injection hc with hc _ _;injection hc with hc;injection hc with hc _ _;subst hc
       exact (k2.mono (fun _ h=>.inl h) fun _ _=>rfl).prep (.inr ⟨id,z0,els0,Mf hj,he,hm⟩) k1
     ·cases hr'
 |ptr id sz i off=>
  show CI _ _ _ (match Ex ks id with|some j=>_|none=>_) v
  cases hj:Ex ks id with
  |some j=>obtain ⟨b,h1,h2⟩:=hc;exact ⟨b,LA (Iq hj) h1,h2⟩
  |none=>trivial
 |rp cs=>obtain ⟨b,o,blk,h1,h2,h3,h4,h5⟩:=hc;exact ⟨b,o,blk,.inl h1,h2,h3,h4,h5.prep_mono (fun _ h=>.inl h) fun _ _=>rfl⟩
 |top=>trivial
theorem Iy (hs:SRep lo m R h s) {ks:List Nat} {cs:List Ce} {vs:List Value} (hl:L2 (CI m R h) cs vs):L2 (CI (J9 ks m) (QW ks m R s) h) (cs.map (FH ks s)) vs:=
 L2.mapl (hl.mono fun _ _ hp=>KN hs hp)
theorem Um (hs:SRep lo m R h s) {ks:List Nat} {x:YV} {v:Value} (hx:Gl m R h x v):Gl (J9 ks m) (QW ks m R s) h (TY ks s x) v:=by
 cases x with
 |c c=>exact KN hs hx
 |agg cs=>obtain ⟨vs,h1,h2⟩:=hx;exact ⟨vs,h1,Iy hs h2⟩
 |tup xs=>exact hx
theorem KI (hs:SRep lo m R h s) {ks:List Nat} {x:YV} {v:Value} (hx:Af m R h x v):Af (J9 ks m) (QW ks m R s) h (IP ks s x) v:=by
 cases x with
 |c c=>exact KN hs hx
 |agg cs=>obtain ⟨vs,h1,h2⟩:=hx;exact ⟨vs,h1,Iy hs h2⟩
 |tup xs=>obtain ⟨vs,h1,h2⟩:=hx;exact ⟨vs,h1,L2.mapl (h2.mono fun _ _ hp=>Um hs hp)⟩
theorem KU (hs:SRep lo m R h s) {ks:List Nat}:∀{bs:List Bool} {e:List YV} {env:List Value},L2 (Af m R h) e env→L2 (Af (J9 ks m) (QW ks m R s) h) (Jq ks s bs e) env
 |[],[],env,he=>by
  cases env with
  |nil=>exact L2.nil
  |cons v vs=>exact absurd he.1 (by simp)
 |_::_,[],env,he=>by
  cases env with
  |nil=>exact L2.nil
  |cons v vs=>exact absurd he.1 (by simp)
 |_,x::xs,[],he=>absurd he.1 (by simp)
 |[],x::xs,v::vs,he=>L2.mapl (R:=Af (J9 ks m) (QW ks m R s) h) (f:=fun _=>YV.c .top) (he.mono fun _ _ _=>trivial)
 |true::bs,x::xs,v::vs,he=>(KU hs he.tail).cons (KI hs he.head)
 |false::bs,x::xs,v::vs,he=>(KU hs he.tail).cons (Af.top _)
theorem P3 {α:Type}:∀{ks:List α},ks.Nodup→∀{i j:Nat} {k:α},ks[i]?=some k→ks[j]?=some k→i=j
 |[],_,i,j,k,hi,_=>by simp at hi
 |a::ks,hn,0,0,k,_,_=>rfl
 |a::ks,hn,0,j+1,k,hi,hj=>by
  simp at hi hj;subst hi
  exact absurd (List.mem_of_getElem? hj) (List.nodup_cons.mp hn).1
 |a::ks,hn,i+1,0,k,hi,hj=>by
  simp at hi hj;subst hj
  exact absurd (List.mem_of_getElem? hi) (List.nodup_cons.mp hn).1
 |a::ks,hn,i+1,j+1,k,hi,hj=>by
  simp at hi hj
  rw [P3 (List.nodup_cons.mp hn).2 hi hj]
theorem Of (hs:SRep lo m R h s) {ks:List Nat} (hn:ks.Nodup):SRep lo (J9 ks m) (QW ks m R s) h (KO ks s)∧Stp m R h s (J9 ks m) (QW ks m R s) h (KO ks s):=by
 have hget:∀(j:Nat) (f:Ent),(KO ks s)[j]?=some f→f≠.dead→∃(k:Nat) (g:Ent),ks[j]?=some k∧s[k]?=some g∧g≠.dead∧f=SS ks s g:=by
  intro j f hj hf
  rw [KO,List.getElem?_map] at hj
  cases hk:ks[j]? with
  |none=>rw [hk] at hj;cases hj
  |some k=>
   rw [hk] at hj
   simp only [Option.map_some,Option.some.injEq,Cf] at hj
   split at hj
   ·rename_i g hg
    subst hj
    exact ⟨k,g,rfl,hg,fun hd=>by subst hd;exact hf rfl,rfl⟩
   ·exact absurd hj.symm hf
 have hblk:∀b,Dl (J9 ks m) (KO ks s) b→∃(k:Nat) (g:Ent),k∈ks∧s[k]?=some g∧g≠.dead∧m[k]?=some (some b):=by
  rintro b ⟨j,f,g1,g2,g3⟩
  obtain ⟨k,g,k1,k2,k3,_⟩:=hget j f g1 g2
  obtain ⟨k',q1,q2⟩:=Nf g3
  rw [k1] at q1;cases q1
  exact ⟨k,g,List.mem_of_getElem? k1,k2,k3,q2⟩
 refine ⟨⟨by simp [J9,KO],fun j f mb h1 h2=>?_,fun i j f g b h1 h2 hf hg h3 h4=>?_,fun b hb hr=>?_,fun b hb=>?_,hs.lo⟩,
  ⟨Nat.le_refl _,fun _ _ _=>rfl,fun b hb _=>?_,fun b hb=>.inl hb,fun b hb _=>?_⟩⟩
 ·by_cases hd:f=.dead
  ·subst hd;trivial
  obtain ⟨k,g,k1,k2,k3,rfl⟩:=hget j f h1 hd
  rw [J9,List.getElem?_map,k1] at h2
  simp only [Option.map_some,Option.some.injEq] at h2
  have hk:=Az k2
  rw [←hs.len] at hk
  have hmk:m[k]?=some m[k]:=List.getElem?_eq_getElem hk
  rw [hmk] at h2
  simp only at h2
  subst h2
  have hE:=hs.ent k g _ k2 hmk
  cases g with
  |dead=>trivial
  |box cs=>obtain ⟨b,vs,e1,e2,e3,e4⟩:=hE;exact ⟨b,vs,e1,e2,e3,Iy hs e4⟩
  |row sz els=>
   rcases hE with hE|⟨b,vs,e1,e2,e3,e4⟩
   ·exact .inl hE
   ·exact .inr ⟨b,vs,e1,e2,e3,e4.mono (fun _ h=>.inl h) fun _ _=>rfl⟩
 ·obtain ⟨k,f',k1,k2,k3,_⟩:=hget i f h1 hf
  obtain ⟨l,g',l1,l2,l3,_⟩:=hget j g h2 hg
  obtain ⟨_,q1,q2⟩:=Nf h3
  obtain ⟨_,q3,q4⟩:=Nf h4
  rw [k1] at q1;cases q1
  rw [l1] at q3;cases q3
  have:=hs.inj k l f' g' b k2 l2 k3 l3 q2 q4
  subst this
  exact P3 hn k1 l1
 ·obtain ⟨k,g,k1,k2,k3,k4⟩:=hblk b hb
  rcases hr with hr|⟨i,sz,els,i1,i2,i3⟩
  ·exact hs.own b ⟨k,g,k2,k3,k4⟩ hr
  ·have:=hs.inj k i g _ b k2 i2 k3 (by simp) k4 i3
   subst this;exact i1 k1
 ·rcases hb with hb|⟨i,sz,els,i1,i2,i3⟩
  ·exact hs.rd b hb
  ·exact hs.blkLt ⟨i,_,i2,by simp,i3⟩
 ·obtain ⟨k,g,k1,k2,k3,k4⟩:=hblk b hb
  exact ⟨k,g,k2,k3,k4⟩
 ·exact hb.imp (fun x=>x) fun ⟨i,sz,els,i1,i2,i3⟩=>⟨i,_,i2,by simp,i3⟩
def H9 (pin:Nat) (ks:List Nat):Prop:=∀i,i<pin→ks[i]?=some i
theorem AC (ks:List Nat):H9 0 ks:=fun i hi=>by omega
theorem GP (ks:List Nat):H9 1 (0::ks):=fun i hi=>by
 have h0:i=0:=by omega
 subst h0;rfl
theorem BA (ks:List Nat):H9 2 (0::1::ks):=fun i hi=>by
 rcases (by omega:i=0∨i=1) with rfl|rfl<;>rfl
theorem JI.ren {c:Code} {Q:X→List YV→BH→Prop} {ks:List Nat} {bs:List Bool} (hn:ks.Nodup) (hp:H9 pin ks) (hy:JI C pin c (Jq ks s bs e) (KO ks s) Q):JI C pin c e s Q:=
 fun lo m R h env hs he=>by
  obtain ⟨g1,g2⟩:=Of hs hn
  refine (hy lo _ _ h env g1 (KU hs he)).mono ?_
  rintro x env1 h1 ⟨m1,R1,e1,s1,q,hs1,he1,st,hpp⟩
  exact ⟨m1,R1,e1,s1,q,hs1,he1,g2.trans st,fun i b hi hb=>hpp i b hi (LA (hp i hi) hb)⟩
def WD (I:Nat→List YV→BH→Prop) (bs:List Bool) (pin d:Nat) (e:List YV) (s:BH):Prop:=∃d' ks,d'<d∧ks.Nodup∧H9 pin ks∧I d' (Jq ks s bs e) (KO ks s)
theorem kC {c:Code} {Q:X→List YV→BH→Prop} (I:Nat→List YV→BH→Prop) (bs:List Bool) (d:Nat) (ks:List Nat) (hn:ks.Nodup) (hp:H9 pin ks) (h0:I d (Jq ks s bs e) (KO ks s))
  (round:∀d e s,I d e s→YW C pin c e s (Gu (WD I bs pin d) Q)):YL C pin c e s Q:=by
 refine JI.ren (bs:=bs) hn hp ?_
 generalize Jq ks s bs e=e0 at h0 ⊢
 generalize KO ks s=s0 at h0 ⊢
 clear hn hp
 induction d using Nat.strongRecOn generalizing e0 s0 with
 |_ d ih=>
  intro lo m R h env hs he
  refine kB ((Fb (round d e0 s0 h0) lo m R h env hs he).mono ?_)
  rintro x env1 h1 ⟨m1,R1,e1,s1,q,hs1,he1,st,hpp⟩
  cases x with
  |normal=>
   obtain ⟨d',ks',hd,hn',hp',hI⟩:=q
   refine (JI.ren hn' hp' (ih d' hd _ _ hI) lo m1 R1 h1 env1 hs1 he1).mono ?_
   rintro x env2 h2 ⟨m2,R2,e2,s2,q,hs2,he2,st2,hpp2⟩
   exact ⟨m2,R2,e2,s2,q,hs2,he2,st.trans st2,fun i b hi hb=>hpp2 i b hi (hpp i b hi hb)⟩
  |exit i=>exact ⟨m1,R1,e1,s1,q,hs1,he1,st,hpp⟩
  |ret=>exact ⟨m1,R1,e1,s1,q,hs1,he1,st,hpp⟩
theorem TQ {α:Type} {xs:List α} {i:Nat} {x:α} (h:xs[i]?=some x):xs.set i x=xs:=by
 apply List.ext_getElem?
 intro j
 rw [List.getElem?_set]
 split
 ·rename_i hj;subst hj;rw [if_pos (Az h),h]
 ·rfl
theorem JI.nil {c:Code} {Q:X→List YV→BH→Prop} (t sz:Nat) (h0:sz≠0) (ht:e[t]?=some (.c (.p (.d (.slice none 0 0))))) (hy:JI C pin c (e.set t (.c (.own s.length sz 0 0))) (s++[.row sz []]) Q):JI C pin c e s Q:=
 fun lo m R h env hs he=>by
  obtain ⟨g1,g2⟩:=hs.push0 sz
  obtain ⟨v,hv,hr⟩:=he.get ht
  have he1:L2 (Af (m++[none]) R h) (e.set t (.c (.own s.length sz 0 0))) env:=by
   have h2:=(he.vmono (m':=m++[none]) (R':=R) (h':=h) (Co.push _ _) (fun _ h=>h) fun _ _=>rfl).set (a:=.c (.own s.length sz 0 0)) (b:=v) (by
    generalize hu:Value.slice none 0 0=u at hr
    cases hr;subst hu
    exact ⟨h0,.inl ⟨rfl,rfl,rfl⟩⟩) t
   rw [TQ hv] at h2
   exact h2
  refine (hy lo _ _ h env g1 he1).mono ?_
  rintro x env1 h1 ⟨m1,R1,e1,s1,q,hs1,he1,st,hpp⟩
  exact ⟨m1,R1,e1,s1,q,hs1,he1,g2.trans st,fun i b hi hb=>hpp i b hi (Co.push _ _ i b hb)⟩
end
end Go.Vx
