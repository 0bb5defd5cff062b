/- Operations that make and turn. -/
import Derived.Test.YtmbonddknackiaaVyOp
namespace Go.Vx
section
variable {P:Program} {lo:Nat} {m:Mp} {R:Nat→Prop} {h:H} {s:BH}
theorem Hk {t:TypeId} {z:List Value} (hz:CF P t=some z):∃v,Cv P t=some v∧clist v=z∧z.all dry=true:=by
 unfold CF at hz
 split at hz
 ·rename_i v hv
  split at hz
  ·rename_i hd;cases hz;exact ⟨v,hv,rfl,hd⟩
  ·cases hz
 ·cases hz
theorem SRep.mlen (hs:SRep lo m R h s) (x:Option Nat):(m++[x])[s.length]?=some x:=by rw [←hs.len];simp
theorem Rh (hs:SRep lo m R h s) {cs:List Ce} {vs:List Value} (hl:L2 (CI m R h) cs vs):
  Mo lo m R h s (.c (.ptr s.length 0 0 0)) (s++[.box cs]) (.pointer (some ⟨h.n,0,none⟩)) (h.push ⟨true,vs⟩):=by
 refine Mo.push hs ⟨h.n,vs,rfl,hs.lo,H.get_push_self _ _,hl.mono fun _ _ hp=>hp.mono (Co.push _ _) (fun _ h=>h) fun b hb=>H.get_push_ne _ _ (by have:=hs.rd b hb;omega)⟩ ?_
 exact ⟨h.n,hs.mlen _,by simp⟩
theorem Gc (hs:SRep lo m R h s) {sz:Nat} {els:List (List PC)} {vs:List Value} (h0:sz≠0) (he:∀cs,cs∈els→cs.length=sz) (hl:L2 (PRep R h) els.flatten vs):
  Mo lo m R h s (.c (.own s.length sz 0 els.length)) (s++[.row sz els]) (.slice (some ⟨h.n,0,none⟩) els.length sz) (h.push ⟨true,vs⟩):=by
 have hk:∀b,R b→(h.push ⟨true,vs⟩).get b=h.get b:=fun b hb=>H.get_push_ne _ _ (by have:=hs.rd b hb;omega)
 refine Mo.push hs (.inr ⟨h.n,vs,rfl,hs.lo,H.get_push_self _ _,⟨by rw [←U6 he,hl.1];simp,h0,he,?_⟩⟩) ?_
 ·rw [List.drop_zero,←U6 he,hl.1,List.take_length]
  exact hl.prep_mono (fun _ h=>h) hk
 ·exact ⟨h0,.inr ⟨h.n,hs.mlen _,by simp⟩⟩
theorem QU (hs:SRep lo m R h s) {t:TypeId} {out:YOut} {s':BH} (hy:N0 P t s=some (out,s')):
  ∃v v' h',out=.val v∧Gp P t h=some (.val v',h')∧Mo lo m R h s v s' v' h':=by
 unfold N0 at hy
 split at hy
 ·rename_i z hz
  obtain ⟨u,h1,h2,h3⟩:=Hk hz
  cases hy
  subst h2
  exact ⟨_,_,_,rfl,by simp only [Gp,h1],Rh hs (L2.pds h3)⟩
 ·cases hy
theorem Uo (hs:SRep lo m R h s) {x:YV} {v:Value} (hv:Af m R h x v) {out:YOut} {s':BH} (hy:ZM x s=some (out,s')):
  ∃y v' h',out=.val y∧Mc v h=some (.val v',h')∧Mo lo m R h s y s' v' h':=by
 unfold ZM at hy
 split at hy
 ·rename_i cs hc
  cases hy
  obtain ⟨h1,h2⟩:=hv.ycl hc
  exact ⟨_,_,_,rfl,by simp only [Mc,h2],Rh hs h1⟩
 ·cases hy
theorem I5 {place:Nat→Option (Nat×Nat)} {ρ:Operand→YV} {σ:Operand→Value} (hρ:∀o,Af m R h (ρ o) (σ o)):∀{parts:List (Nat×Operand)} {cells cs:List Ce} {vs:List Value},
  L2 (CI m R h) cells vs→Kp place cells (parts.map fun p=>(p.1,ρ p.2))=some cs→∃us,Fh place vs (parts.map fun p=>(p.1,σ p.2))=some us∧L2 (CI m R h) cs us
 |[],cells,cs,vs,hl,hy=>by cases hy;exact ⟨vs,rfl,hl⟩
 |(i,o)::parts,cells,cs,vs,hl,hy=>by
  simp only [List.map_cons,Kp] at hy
  simp only [List.map_cons,Fh]
  split at hy
  ·cases hy
  ·rename_i off size hp
   split at hy
   ·cases hy
   ·rename_i xs hx
    split at hy
    ·rename_i hc
     obtain ⟨k1,k2⟩:=(hρ o).ycl hx
     have k3:=k1.1
     have k4:=hl.1
     simp only [hp]
     rw [if_neg (by rw [k2];simp;omega)]
     exact I5 hρ (hl.splice k1) hy
    ·cases hy
theorem RK {ρ:Operand→YV} {σ:Operand→Value} (hρ:∀o,Af m R h (ρ o) (σ o)) {t:TypeId} {parts:List (Nat×Operand)} {x:YV} (hy:Ol P ρ t parts=some x):
  ∃v,Gw P σ t parts=some v∧Af m R h x v:=by
 unfold Ol at hy
 split at hy
 ·rename_i z hz
  obtain ⟨u,h1,h2,h3⟩:=Hk hz
  subst h2
  simp only [Gw,h1]
  split at hy
  ·rename_i pl hpl
   split at hy
   ·rename_i cs hcs
    cases hy
    obtain ⟨us,k1,k2⟩:=I5 hρ (L2.pds h3) hcs
    simp only [hpl,k1]
    exact ⟨_,rfl,us,rfl,k2⟩
   ·cases hy
  ·rename_i hpl
   split at hy
   ·rename_i n e ha
    split at hy
    ·cases hy
    ·rename_i hz0
     split at hy
     ·rename_i cs hcs
      cases hy
      obtain ⟨us,k1,k2⟩:=I5 hρ (L2.pds h3) hcs
      simp only [hpl,ha,k1]
      rw [if_neg hz0]
      exact ⟨_,rfl,us,rfl,k2⟩
     ·cases hy
   ·cases hy
 ·cases hy
theorem Te {α:Type} {cs vs:List α} (h:vs.length=cs.length):CJ cs 0 vs=vs:=by
 simp [CJ,h]
theorem Ng {z:List Value} (hz:z.all dry=true):∀n,L2 (PRep R h) (List.replicate n (z.map PC.d)).flatten (DK z n)
 |0=>L2.nil
 |n+1=>by rw [DK,List.replicate_succ,List.flatten_cons];exact (L2.dmap hz).append (Ng hz n)
theorem Vv {α:Type} {n sz:Nat} {x:List α} (hx:x.length=sz):∀cs,cs∈List.replicate n x→cs.length=sz:=fun cs hc=>by rw [(List.mem_replicate.mp hc).2];exact hx
def cS (lo:Nat) (m:Mp) (R:Nat→Prop) (h:H) (s:BH) (R':Nat→Prop) (s':BH):Prop:=SRep lo m R' h s'∧Stp m R h s m R' h s'
theorem cS.refl (hs:SRep lo m R h s):cS lo m R h s R s:=⟨hs,Stp.refl _ _ _ _⟩
theorem KC (hs:SRep lo m R h s) {c c':Ce} {v:Value} {s':BH} (hv:CI m R h c v) (hy:IT s c=some (c',s')):∃R',cS lo m R h s R' s'∧CI m R' h c' v∧(oB c≠none→R'=R∧s'=s∧c'=c):=by
 unfold IT at hy
 split at hy
 ·cases hy;exact ⟨R,cS.refl hs,hv,fun _=>⟨rfl,rfl,rfl⟩⟩
 ·rename_i id sz off len
  split at hy
  ·rename_i z els hr
   cases hy
   have hr':=hr
   unfold ES at hr'
   simp only at hr'
   rw [Cf] at hr'
   split at hr'
   ·rename_i z0 els0 he
    obtain ⟨g1,g2⟩:=hs.freeze he
    refine ⟨_,⟨g1,g2⟩,?_,fun hc=>absurd rfl hc⟩
    rcases GU (x:=.c (.own id sz off len)) hs hv hr with ⟨rfl,rfl⟩|⟨b,o,blk,rfl,k1,k2⟩
    ·exact PRep.nil
    ·rcases hv with ⟨hz,⟨hc,_⟩|⟨b',hm,hc⟩⟩
     ·cases hc
     ·injection hc with hc _ _;injection hc with hc;injection hc with hc _ _;subst hc
      exact (k2.mono (fun _ h=>.inl h) fun _ _=>rfl).prep (.inr hm) k1
   ·cases hr'
  ·cases hy
 ·cases hy
theorem OK:∀{cs cs':List Ce} {vs:List Value} {R:Nat→Prop} {s s':BH},SRep lo m R h s→L2 (CI m R h) cs vs→Sh s cs=some (cs',s')→
  ∃R',cS lo m R h s R' s'∧L2 (CI m R' h) cs' vs∧(pcs cs≠none→R'=R∧s'=s∧cs'=cs)
 |[],cs',vs,R,s,s',hs,hl,hy=>by cases hy;exact ⟨R,cS.refl hs,hl,fun _=>⟨rfl,rfl,rfl⟩⟩
 |c::cs,cs',[],R,s,s',hs,hl,hy=>absurd hl.1 (by simp)
 |c::cs,cs',v::vs,R,s,s',hs,hl,hy=>by
  simp only [Sh] at hy
  split at hy
  ·rename_i c1 s1 h1
   split at hy
   ·rename_i cs2 s2 h2
    cases hy
    obtain ⟨R1,⟨a1,a2⟩,a3,a4⟩:=KC hs hl.head h1
    obtain ⟨R2,⟨b1,b2⟩,b3,b4⟩:=OK a1 (hl.tail.mono fun _ _ hp=>hp.mono (Co.refl _) a2.rd fun _ _=>rfl) h2
    refine ⟨R2,⟨b1,a2.trans b2⟩,b3.cons (a3.mono (Co.refl _) b2.rd fun _ _=>rfl),fun hp=>?_⟩
    cases c with
    |p c=>
     obtain ⟨rfl,rfl,rfl⟩:=a4 (by simp [oB])
     have hp2:pcs cs≠none:=fun hn=>hp (by simp [pcs,hn])
     obtain ⟨rfl,rfl,rfl⟩:=b4 hp2
     exact ⟨rfl,rfl,rfl⟩
    |_=>exact absurd rfl hp
   ·cases hy
  ·cases hy
theorem UF (hs:SRep lo m R h s) {x x':YV} {v:Value} {s':BH} (hv:Af m R h x v) (hy:Q0 s x=some (x',s')):∃R',cS lo m R h s R' s'∧Af m R' h x' v∧(ypc x≠none→R'=R∧s'=s∧x'=x):=by
 unfold Q0 at hy
 split at hy
 ·rename_i c
  split at hy
  ·rename_i c1 s1 h1
   cases hy
   obtain ⟨R1,a1,a3,a4⟩:=KC hs hv h1
   refine ⟨R1,a1,a3,fun hp=>?_⟩
   cases c with
   |p c=>obtain ⟨rfl,rfl,rfl⟩:=a4 (by simp [oB]);exact ⟨rfl,rfl,rfl⟩
   |_=>exact absurd rfl hp
  ·cases hy
 ·split at hy
  ·rename_i cs1 s1 h1
   cases hy
   obtain ⟨vs,rfl,hl⟩:=hv
   obtain ⟨R1,a1,a3,a4⟩:=OK hs hl h1
   exact ⟨R1,a1,⟨vs,rfl,a3⟩,fun hp=>by obtain ⟨rfl,rfl,rfl⟩:=a4 hp;exact ⟨rfl,rfl,rfl⟩⟩
  ·cases hy
 ·cases hy
def Kt (m:Mp) (R:Nat→Prop) (h:H) (ps:List (Nat×YV)) (vs:List (Nat×Value)):Prop:=L2 (fun (a:Nat×YV) (b:Nat×Value)=>a.1=b.1∧Af m R h a.2 b.2) ps vs
theorem OJ:∀{ps ps':List (Nat×YV)} {vs:List (Nat×Value)} {R:Nat→Prop} {s s':BH},SRep lo m R h s→Kt m R h ps vs→Sg s ps=some (ps',s')→
  ∃R',cS lo m R h s R' s'∧Kt m R' h ps' vs∧((∀p,p∈ps→ypc p.2≠none)→R'=R)
 |[],ps',vs,R,s,s',hs,hl,hy=>by cases hy;exact ⟨R,cS.refl hs,hl,fun _=>rfl⟩
 |c::cs,cs',[],R,s,s',hs,hl,hy=>absurd hl.1 (by simp)
 |(i,c)::cs,cs',v::vs,R,s,s',hs,hl,hy=>by
  simp only [Sg] at hy
  split at hy
  ·rename_i c1 s1 h1
   split at hy
   ·rename_i cs2 s2 h2
    cases hy
    obtain ⟨R1,⟨a1,a2⟩,a3,a4⟩:=UF hs hl.head.2 h1
    obtain ⟨R2,⟨b1,b2⟩,b3,b4⟩:=OJ a1 (hl.tail.mono fun _ _ hp=>⟨hp.1,hp.2.mono (Co.refl _) a2.rd fun _ _=>rfl⟩) h2
    refine ⟨R2,⟨b1,a2.trans b2⟩,L2.cons ⟨hl.head.1,a3.mono (Co.refl _) b2.rd fun _ _=>rfl⟩ b3,fun hp=>?_⟩
    obtain ⟨rfl,_,_⟩:=a4 (hp (i,c) (List.mem_cons_self ..))
    exact b4 fun p hp'=>hp p (List.mem_cons_of_mem _ hp')
   ·cases hy
  ·cases hy
theorem Mb {sz:Nat}:∀{ps:List (Nat×YV)} {us:List (Nat×Value)} {els els':List (List PC)} {vs:List Value},Kt m R h ps us→
  (∀cs,cs∈els→cs.length=sz)→L2 (PRep R h) els.flatten vs→TM sz els ps=some els'→
  ∃ws,Fh (fun i=>some (i*sz,sz)) vs us=some ws∧L2 (PRep R h) els'.flatten ws∧els'.length=els.length∧∀cs,cs∈els'→cs.length=sz
 |[],us,els,els',vs,hp,he,hl,hy=>by
  cases hy
  cases us with
  |nil=>exact ⟨vs,rfl,hl,rfl,he⟩
  |cons u us=>exact absurd hp.1 (by simp)
 |p::ps,[],els,els',vs,hp,he,hl,hy=>absurd hp.1 (by simp)
 |(i,o)::ps,(i',u)::us,els,els',vs,hp,he,hl,hy=>by
  obtain ⟨hi',hu⟩:=hp.head
  simp only at hi' hu
  subst hi'
  simp only [TM] at hy
  simp only [Fh]
  split at hy
  ·cases hy
  ·rename_i xs hx
   split at hy
   ·rename_i hc
    obtain ⟨c1,c2⟩:=hc
    obtain ⟨k1,k2⟩:=hu.ypc hx
    have k3:=k1.1
    have k4:=hl.1
    rw [U6 he] at k4
    have hm:i*sz+sz≤els.length*sz:=by rw [←Nat.succ_mul];exact Nat.mul_le_mul_right _ c2
    have hi:els[i]?=some els[i]:=List.getElem?_eq_getElem c2
    have h0:=he _ (List.mem_of_getElem? hi)
    have hset:=lX he hi (off:=0) (vs:=xs) (by omega)
    rw [Te (by omega),Nat.add_zero] at hset
    rw [if_neg (by rw [k2];simp;omega)]
    have he2:∀cs,cs∈els.set i xs→cs.length=sz:=fun cs hm=>by
     rcases List.mem_or_eq_of_mem_set hm with hm|rfl
     ·exact he cs hm
     ·exact c1
    obtain ⟨ws,g1,g2,g3,g4⟩:=Mb (vs:=splice vs (i*sz) (clist u)) hp.tail he2 (by rw [hset];exact hl.splice k1) hy
    exact ⟨ws,g1,g2,by rw [g3];simp,g4⟩
   ·cases hy
theorem LR (hs:SRep lo m R h s) {ρ:Operand→YV} {σ:Operand→Value} (hρ:∀o,Af m R h (ρ o) (σ o)) {t:TypeId} {len:Nat} {parts:Array (Nat×Operand)} {out:YOut} {s':BH}
  (hy:FY P ρ t len parts.toList s=some (out,s')):∃y v' h',out=.val y∧CQ P σ t len parts.toList h=some (.val v',h')∧T9 lo m R h s y s' v' h' (Rx ρ (.buildSlice t len parts)):=by
 unfold FY at hy
 split at hy
 ·rename_i e he
  split at hy
  ·rename_i z hz
   obtain ⟨u,h1,h2,h3⟩:=Hk hz
   subst h2
   unfold GH at hy
   split at hy
   ·rename_i ps s1 hps
    have hpr:Kt m R h (parts.toList.map fun p=>(p.1,ρ p.2)) (parts.toList.map fun p=>(p.1,σ p.2)):=by
     refine ⟨by simp,fun i a b ha hb=>?_⟩
     rw [List.getElem?_map] at ha hb
     cases hp:parts.toList[i]? with
     |none=>rw [hp] at ha;cases ha
     |some p=>rw [hp] at ha hb;cases ha;cases hb;exact ⟨rfl,hρ p.2⟩
    obtain ⟨R1,⟨a1,a2⟩,a3,a4⟩:=OJ hs hpr hps
    split at hy
    ·rename_i hc
     split at hy
     ·rename_i els hels
      cases hy
      have hlen:∀cs,cs∈List.replicate len ((clist u).map PC.d)→cs.length=Ab P e:=Vv (by simp [hc.1])
      obtain ⟨us,k1,k2,k3,k4⟩:=Mb a3 hlen (Ng h3 len) hels
      simp only [CQ,he,h1,k1]
      rw [if_pos hc]
      have hn:els.length=len:=by rw [k3];simp
      obtain ⟨m',p1,p2,p3,p4⟩:=Gc a1 (by have:=hc.2.1;omega) k4 k2
      rw [hn] at p2
      refine ⟨_,_,_,rfl,rfl,m',R1,p1,p2,a2.trans p3,p4,fun hf=>a4 fun p hp hn=>?_⟩
      obtain ⟨q,hq,rfl⟩:=List.mem_map.mp hp
      simp only [Rx] at hf
      have:=List.any_eq_false.mp hf q hq
      simp only at hn
      rw [hn] at this
      simp at this
     ·cases hy
    ·cases hy
   ·cases hy
  ·cases hy
 ·cases hy
theorem Rr (hs:SRep lo m R h s) {t:TypeId} {l c:YV} {vl vc:Value} (hl:Af m R h l vl) (hc:Af m R h c vc) {out:YOut} {s':BH} (hy:Sq P t l c s=some (out,s')):
  ∃y v' h',out=.val y∧Ge P t vl vc h=some (.val v',h')∧Mo lo m R h s y s' v' h':=by
 unfold Sq at hy
 split at hy
 ·rename_i e l' c' he h1 h2
  obtain ⟨rfl,_⟩:=hl.dv h1
  obtain ⟨rfl,_⟩:=hc.dv h2
  split at hy
  ·rename_i z hz
   obtain ⟨u,g1,g2,g3⟩:=Hk hz
   subst g2
   split at hy
   ·rename_i hcc
    cases hy
    simp only [Ge,he,g1]
    rw [if_pos hcc]
    have:=Gc hs (sz:=Ab P e) (by have:=hcc.2.2.2.1;omega) (Vv (by simp [hcc.2.2.1])) (Ng (n:=l'.toNat) g3)
    rw [List.length_replicate] at this
    exact ⟨_,_,_,rfl,rfl,this⟩
   ·cases hy
  ·cases hy
 ·cases hy
theorem Qy (hs:SRep lo m R h s) {t:TypeId} {a v:YV} {va vv:Value} (ha:Af m R h a va) (hv:Af m R h v vv) {out:YOut} {s':BH} (hy:J7 P t s a v=some (out,s')):
  ∃y v' h',out=.val y∧JL (Fv P lo t h va vv)=some (.val v',h')∧Mo lo m R h s y s' v' h':=by
 unfold J7 at hy
 split at hy
 ·rename_i id sz i off
  obtain ⟨b,hm,rfl⟩:=ha
  rw [Cf] at hy
  split at hy
  ·rename_i cs he
   obtain ⟨b',vs,e1,e2,h3,h4⟩:=hs.ent _ _ _ he hm
   cases e1
   split at hy
   ·split at hy
    ·rename_i xs hx
     split at hy
     ·rename_i hc
      obtain ⟨c1,c2,c3⟩:=hc
      cases hy
      obtain ⟨k1,k2⟩:=hv.ycl hx
      have k3:=k1.1
      have k4:=h4.1
      simp only [Fv,H.getK_eq,h3]
      rw [if_pos ⟨trivial,e2,by omega,by omega,k2,c3⟩]
      have hR:∀c,R c→(h.put b (some ⟨true,splice vs (0*0+off) (clist vv)⟩)).get c=h.get c:=fun c hc=>H.get_put_ne _ (H.get_lt h3) fun he'=>by
       subst he';exact hs.own c ⟨_,_,he,by simp,hm⟩ hc
      obtain ⟨g1,g2⟩:=hs.set (e':=.box (CJ cs off xs)) (x:=some ⟨true,splice vs (0*0+off) (clist vv)⟩) he (by simp) hm
       ⟨b,_,rfl,e2,H.get_put_self _ h3,L2.mono (R:=CI m R h) (by rw [Nat.zero_mul,Nat.zero_add];exact h4.splice k1) fun _ _ hp=>hp.mono (Co.refl _) (fun _ h=>h) hR⟩
      exact ⟨_,_,_,rfl,rfl,m,g1,Af.top _,g2,Co.refl _⟩
     ·cases hy
    ·cases hy
   ·cases hy
  ·rename_i z els he
   split at hy
   ·rename_i hz
    subst hz
    split at hy
    ·rename_i cs xs hi hx
     split at hy
     ·rename_i hc
      obtain ⟨c1,c2,c3⟩:=hc
      cases hy
      rcases hs.ent _ _ _ he hm with ⟨e1,_⟩|⟨b',vs,e1,e2,h3,h4⟩
      ·cases e1
      cases e1
      obtain ⟨k1,k2⟩:=hv.ypc hx
      have k3:=k1.1
      obtain ⟨k4,k5,_⟩:=h4.elem hi
      have hlt:=Az hi
      have hbd:=h4.bound
      have hmm:i*z+z≤els.length*z:=by rw [←Nat.succ_mul];exact Nat.mul_le_mul_right _ hlt
      simp only [Fv,H.getK_eq,h3]
      rw [if_pos ⟨trivial,e2,by omega,by omega,k2,c3⟩]
      have hR:∀c,R c→(h.put b (some ⟨true,splice vs (i*z+off) (clist vv)⟩)).get c=h.get c:=fun c hc=>H.get_put_ne _ (H.get_lt h3) fun he'=>by
       subst he';exact hs.own c ⟨_,_,he,by simp,hm⟩ hc
      have hlay:Lay R h (splice vs (i*z+off) (clist vv)) 0 z (els.set i (CJ cs off xs)):=by
       have hsl:(splice vs (i*z+off) (clist vv)).length=vs.length:=I6 (by omega)
       refine ⟨by rw [hsl];simpa using h4.bound,h4.pos,fun c hc=>?_,?_⟩
       ·rcases List.mem_or_eq_of_mem_set hc with hc|rfl
        ·exact h4.each c hc
        ·rw [I6 c2,k5]
       ·rw [lX h4.each hi (by omega),List.length_set,List.drop_zero]
        have h5:=h4.at_
        rw [List.drop_zero] at h5
        have h6:=h5.splice k1 (off:=i*z+off)
        have h7:(splice vs (i*z+off) (clist vv)).take (els.length*z)=CJ (vs.take (els.length*z)) (i*z+off) (clist vv):=by
         unfold splice CJ
         rw [List.take_append,List.take_append,List.take_take,List.take_take,List.drop_take]
         simp only [List.length_append,List.length_take]
         rw [Nat.min_eq_right (by omega),Nat.min_eq_left (by omega)]
         rw [List.take_of_length_le (l:=clist vv) (by omega),Nat.min_eq_left (by omega)]
        rw [h7];exact h6
      obtain ⟨g1,g2⟩:=hs.set (e':=.row z (els.set i (CJ cs off xs))) (x:=some ⟨true,splice vs (i*z+off) (clist vv)⟩) he (by simp) hm
       (.inr ⟨b,_,rfl,e2,H.get_put_self _ h3,hlay.mono (fun _ h=>h) hR⟩)
      exact ⟨_,_,_,rfl,rfl,m,g1,Af.top _,g2,Co.refl _⟩
     ·cases hy
    ·cases hy
   ·cases hy
  ·cases hy
 ·cases hy
theorem FW (b:ByteArray):(BE b).all dry=true:=by
 rw [BE,List.all_map,List.all_eq_true];intro x _;rfl
theorem Pj (b:ByteArray):L2 (PRep R h) ((BE b).map fun v=>[PC.d v]).flatten (BE b):=by
 have:((BE b).map fun v=>[PC.d v]).flatten=(BE b).map PC.d:=by
  induction BE b with
  |nil=>rfl
  |cons x xs ih=>simp [ih]
 rw [this];exact L2.dmap (FW b)
theorem NJ (b:ByteArray):∀cs,cs∈((BE b).map fun v=>[PC.d v])→cs.length=1:=fun cs hc=>by
 obtain ⟨v,_,rfl⟩:=List.mem_map.mp hc;rfl
theorem Ks:∀{els:List (List PC)} {l vs:List Value},L7 els=some l→L2 (PRep R h) els.flatten vs→vs=l
 |[],l,vs,hy,hl=>by
  cases hy
  cases vs with
  |nil=>rfl
  |cons v vs=>exact absurd hl.1 (by simp)
 |e::els,l,vs,hy,hl=>by
  unfold L7 at hy
  split at hy
  ·cases ‹_::_=[]›
  ·rename_i v r heq
   cases heq
   split at hy
   ·rename_i l' hl'
    cases hy
    cases vs with
    |nil=>exact absurd hl.1 (by simp)
    |cons u us=>
     have h1:=hl.head
     cases h1
     rw [Ks hl' (vs:=us) hl.tail]
   ·cases hy
  ·cases hy
theorem OQ (hs:SRep lo m R h s) {sT d:TypeId} {x:YV} {v:Value} (hv:Af m R h x v) {out:YOut} {s':BH} (hy:I1 P sT d x s=some (out,s')):
  ∃y v' h',out=.val y∧Fq (Bi P lo sT d v h)=some (.val v',h')∧Mo lo m R h s y s' v' h':=by
 unfold I1 at hy
 split at hy
 ·rename_i k k' n h1 h2 h3
  obtain ⟨rfl,_⟩:=hv.dv h3
  cases hy
  exact ⟨_,_,_,rfl,by simp only [Bi,h1,h2];rfl,Mo.same hs (Af.yd rfl)⟩
 ·rename_i b h1 h2 h3
  obtain ⟨rfl,_⟩:=hv.dv h3
  cases hy
  exact ⟨_,_,_,rfl,by simp only [Bi,h1,h2];rfl,Mo.same hs (Af.yd rfl)⟩
 ·rename_i e b h1 h2 h3
  obtain ⟨rfl,_⟩:=hv.dv h3
  split at hy
  ·rename_i hc
   cases hy
   refine ⟨_,_,_,rfl,by simp only [Bi,h1,h2];rw [if_pos hc];rfl,?_⟩
   have:=Gc hs (sz:=1) (by decide) (NJ b) (Pj b)
   rw [List.length_map,DT] at this
   exact this
  ·cases hy
 ·rename_i e h1 h2 h3
  obtain ⟨rfl,_⟩:=hv.dv h3
  split at hy
  ·rename_i hc
   cases hy
   exact ⟨_,_,_,rfl,by simp only [Bi,h1,h2];rw [if_pos hc];rfl,Mo.same hs (Af.yd rfl)⟩
  ·cases hy
 ·rename_i e h1 h2 h3
  split at hy
  ·rename_i hc
   split at hy
   ·rename_i els hr
    split at hy
    ·rename_i l hl
     split at hy
     ·rename_i b hb
      cases hy
      rcases GU hs hv hr with ⟨rfl,rfl⟩|⟨b',off,blk,rfl,k1,k2⟩
      ·cases hl
       cases hb
       exact ⟨_,_,_,rfl,by simp only [Bi,h1,h2];rw [if_pos hc];rfl,Mo.same hs (Af.yd rfl)⟩
      ·have k3:=k2.bound
       have k4:=Ks hl k2.at_
       rw [Nat.mul_one] at k4 k3
       exact ⟨_,_,_,rfl,by simp only [Bi,h1,h2,H.getK_eq,k1];rw [if_pos hc,if_pos k3,k4,hb];rfl,Mo.same hs (Af.yd rfl)⟩
     ·cases hy
    ·cases hy
   ·cases hy
  ·cases hy
 ·cases hy
end
end Go.Vx
