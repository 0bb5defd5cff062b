/- Functions among values as they are. -/
import Derived.Test.YtmbonddknackiaaVyLoop
set_option linter.unusedVariables false
namespace Go.Vx
def AS (C:Cx) (f:FuncId) (args:List YV) (Q:YV→Prop):Prop:=
 ∀(lo:Nat) (R:Nat→Prop) (h:H) (vals:List Value),lo≤h.n→(∀b,R b→b<h.n)→L2 (Af [] R h) args vals→
  G7 C lo f vals h fun v h'=>∃R' y,Q y∧Af [] R' h' y v∧h.n≤h'.n∧(∀b,b<h.n→h'.get b=h.get b)∧∀b,R' b→b<h'.n∧(b<h.n→R b)
theorem AS.mono {C:Cx} {f:FuncId} {args:List YV} {Q Q':YV→Prop} (hc:AS C f args Q) (hq:∀y,Q y→Q' y):AS C f args Q':=
 fun lo R h vals hl hR ha=>(hc lo R h vals hl hR ha).mono fun v h' ⟨R',y,k1,k2⟩=>⟨R',y,hq y k1,k2⟩
def dC:YV→Option YV
 |.c .top=>none
 |.tup _=>none
 |v=>some v
noncomputable def Je (P:Program) (e:List YV) (s:BH):ResultVar→Option YV
 |.tmp t=>dC (Gi e (.c .top) t)
 |.cell a t=>(match NT P t s (Gi e (.c .top) a) with|some v=>dC v|none=>none)
noncomputable def DQ (P:Program) (e:List YV) (s:BH):List ResultVar→Option (List YV)
 |[]=>some []
 |r::rs=>(match Je P e s r,DQ P e s rs with
  |some v,some vs=>some (v::vs)
  |_,_=>none)
def Sw:List YV→YV
 |[v]=>v
 |vs=>.tup vs
section
variable {C:Cx} {lo:Nat} {m m':Mp} {R R':Nat→Prop} {h h':H} {s s':BH} {e:List YV} {env:BF}
theorem VK {v w:YV} {x:Value} (hv:Af m R h v x) (hy:dC v=some w):w=v∧Dv x=false∧Gl m R h v x:=by
 cases v with
 |c c=>
  by_cases hc:c=.top
  ·subst hc;cases hy
  ·have:w=.c c:=by cases c<;>first|exact (Option.some.inj hy).symm|exact absurd rfl hc
   exact ⟨this,(CI.cl hv hc).2,hv⟩
 |agg cs=>
  have:=hv
  obtain ⟨vs,rfl,_⟩:=hv
  exact ⟨(Option.some.inj hy).symm,rfl,this⟩
 |tup xs=>cases hy
theorem GK (hs:SRep lo m R h s) (he:L2 (Af m R h) e env):∀{rs:List ResultVar} {vs:List YV},DQ C.P e s rs=some vs→∃us,Db C env h rs=some us∧L2 (Gl m R h) vs us
 |[],vs,hy=>by cases hy;exact ⟨[],rfl,L2.nil⟩
 |r::rs,vs,hy=>by
  unfold DQ at hy
  split at hy
  ·rename_i v vs' h1 h2
   cases hy
   obtain ⟨us,k1,k2⟩:=GK hs he h2
   have key:∃u,LK C env h r=some u∧Dv u=false∧Gl m R h v u:=by
    cases r with
    |tmp t=>
     have ht:=Kg he (.tmp t)
     obtain ⟨rfl,q2,q3⟩:=VK ht h1
     exact ⟨_,rfl,q2,q3⟩
    |cell a t=>
     have ht:=Kg he (.tmp a)
     have h1':(match NT C.P t s (Gi e (.c .top) a) with|some v=>dC v|none=>none)=some v:=h1
     split at h1'
     ·rename_i w hw
      obtain ⟨u,q1,q2⟩:=MT hs ht hw
      obtain ⟨rfl,q3,q4⟩:=VK q2 h1'
      exact ⟨u,q1,q3,q4⟩
     ·cases h1'
   obtain ⟨u,q1,q2,q3⟩:=key
   refine ⟨u::us,?_,k2.cons q3⟩
   simp only [Db,q1,k1]
   rw [if_neg (by rw [q2];simp)]
  ·cases hy
theorem OL {vs:List YV} {us:List Value} (hl:L2 (Gl m R h) vs us):Af m R h (Sw vs) (one us):=by
 unfold Sw one
 cases vs with
 |nil=>
  cases us with
  |nil=>exact ⟨[],rfl,L2.nil⟩
  |cons u us=>exact absurd hl.1 (by simp)
 |cons v vs=>
  cases us with
  |nil=>exact absurd hl.1 (by simp)
  |cons u us=>
   cases vs with
   |nil=>
    cases us with
    |nil=>exact hl.head.vrep
    |cons u' us=>exact absurd hl.1 (by simp)
   |cons v' vs=>
    cases us with
    |nil=>exact absurd hl.1 (by simp)
    |cons u' us=>exact ⟨_,rfl,hl⟩
theorem L2.args_top {args:List YV} {vals:List Value} (ha:L2 (Af m R h) args vals) (n:Nat):L2 (Af m R h) (args++List.replicate (n - args.length) (.c .top)) (vals++List.replicate (n - vals.length) undef):=by
 refine ha.append ?_
 rw [ha.1]
 refine ⟨by simp,fun i a b h1 h2=>?_⟩
 rw [List.getElem?_replicate] at h1
 split at h1
 ·cases h1;exact Af.top _
 ·cases h1
theorem bO {f:FuncId} {args:List YV} {fn:Func} {c:Code} {Q:YV→Prop} (ht:C.told f=none) (hf:Nat.ble (f+1) C.top=true) (hfn:By C.P.funcs.toList f=some fn) (hb:fn.body=some c)
  (hy:YW C 0 c (args++List.replicate (fn.ntmps - args.length) (.c .top)) [] fun x e s=>(x=.normal∨x=.ret)∧∃vs,DQ C.P e s fn.results.toList=some vs∧Q (IP [] s (Sw vs))):AS C f args Q:=by
 intro lo R h vals hlo hR ha
 refine SR ht hf hfn hb ?_
 have hs:SRep lo [] R h []:=⟨rfl,fun i e mb h1=>by simp at h1,fun i j e f b h1=>by simp at h1,fun b ⟨i,e,h1,_⟩=>by simp at h1,hR,hlo⟩
 refine (Fb hy lo [] R h _ hs (ha.args_top fn.ntmps)).mono ?_
 rintro x env' h' ⟨m',R',e',s',⟨hx,vs,hvs,hQ⟩,hs',he',st,_⟩
 obtain ⟨us,k1,k2⟩:=GK (C:=C) hs' he' hvs
 refine ⟨hx,us,k1,QW [] m' R' s',_,hQ,?_,st.n,fun b hb=>st.keep b hb fun ⟨i,e,h1,_⟩=>by simp at h1,fun b hb=>?_⟩
 ·have:=KI hs' (ks:=[]) (OL k2)
  exact this
 ·have hno:∀b,Dl m' s' b→b<h.n→False:=fun b hB hb=>by
   obtain ⟨i,e,h1,_⟩:=st.old b hB hb
   simp at h1
  rcases hb with hb|⟨i,sz,els,_,i2,i3⟩
  ·refine ⟨hs'.rd b hb,fun hbn=>(st.rd' b hb hbn).elim (fun h=>h) fun ⟨i,e,h1,_⟩=>by simp at h1⟩
  ·have hB:Dl m' s' b:=⟨i,_,i2,by simp,i3⟩
   exact ⟨hs'.blkLt hB,fun hbn=>(hno b hB hbn).elim⟩
theorem kZ {f:FuncId} {args:List YV} {fn:Func} {c:Code} {K:YV→BH→Prop} (ht:C.told f=none) (hf:Nat.ble (f+1) C.top=true) (hfn:By C.P.funcs.toList f=some fn) (hb:fn.body=some c)
  (hy:YW C s.length c (args++List.replicate (fn.ntmps - args.length) (.c .top)) s fun x e s'=>(x=.normal∨x=.ret)∧∃vs,DQ C.P e s' fn.results.toList=some vs∧∃ks,ks.Nodup∧H9 s.length ks∧K (IP ks s' (Sw vs)) (KO ks s')):
  YC C false f args s K:=by
 intro lo m R h vals hs ha
 refine SR ht hf hfn hb ?_
 refine (Fb hy lo m R h _ hs (ha.args_top fn.ntmps)).mono ?_
 rintro x env' h' ⟨m',R',e',s',⟨hx,vs,hvs,ks,hn,hp,hK⟩,hs',he',st,hpin⟩
 obtain ⟨us,k1,k2⟩:=GK (C:=C) hs' he' hvs
 obtain ⟨g1,g2⟩:=Of hs' hn
 refine ⟨hx,us,k1,_,_,_,_,hK,g1,KI hs' (OL k2),st.trans g2,fun i b hib=>?_,fun hd=>by cases hd⟩
 have hi:i<s.length:=by rw [←hs.len];exact Az hib
 exact LA (hp i hi) (hpin i b hi hib)
def i8:Ce→Bool
 |.p _|.rp _|.top=>true
 |_=>false
def Ow:YV→Bool
 |.c c=>i8 c
 |.agg cs=>cs.all i8
 |.tup _=>false
theorem Tb {c:Ce} {v:Value} (hc:CI m R h c v) (hp:i8 c=true):CI m' R h c v:=by
 cases c<;>first|exact hc|cases hp
theorem NI {x:YV} {v:Value} (hc:Af m R h x v) (hp:Ow x=true):Af m' R h x v:=by
 cases x with
 |c c=>exact Tb (m':=m') hc hp
 |agg cs=>
  obtain ⟨vs,h1,h2⟩:=hc
  exact ⟨vs,h1,h2.1,fun i a b ha hb=>Tb (h2.2 i a b ha hb) (List.all_eq_true.mp hp a (List.mem_of_getElem? ha))⟩
 |tup xs=>cases hp
theorem SRep.call (hs:SRep lo m R h s) (hn:h.n≤h'.n) (hk:∀b,b<h.n→h'.get b=h.get b) (hR:∀b,R' b→b<h'.n∧(b<h.n→R b)):
  SRep lo m (fun b=>R b∨R' b) h' s∧Stp m R h s m (fun b=>R b∨R' b) h' s:=by
 refine ⟨⟨hs.len,fun i e mb h1 h2=>?_,hs.inj,fun b hb hr=>?_,fun b hb=>hb.elim (fun hb=>Nat.lt_of_lt_of_le (hs.rd b hb) hn) fun hb=>(hR b hb).1,Nat.le_trans hs.lo hn⟩,
  ⟨hn,fun b hb _=>hk b hb,fun b hb _=>hb,fun b hb=>.inl hb,fun b hb hbn=>.inl (hb.elim (fun h=>h) fun hb=>(hR b hb).2 hbn)⟩⟩
 ·by_cases hd:e=.dead
  ·subst hd;trivial
  ·have h3:=hs.ent i e mb h1 h2
   exact h3.mono (Co.refl _) (fun _ h=>.inl h) (fun b hb=>hk b (hs.rd b hb)) fun b hb=>by subst hb;exact hk b (h3.lt hd)
 ·have hlt:=hs.blkLt hb
  rcases hr with hr|hr
  ·exact hs.own b hb hr
  ·exact hs.own b hb ((hR b hr).2 hlt)
theorem WA {draw:Bool} {f:FuncId} {args:List YV} {K:YV→BH→Prop} {Q:YV→Prop} (hc:AS C f args Q) (hp:args.all Ow=true) (hk:∀y,Q y→K y s):YC C draw f args s K:=by
 intro lo m R h vals hs ha
 have ha':L2 (Af [] R h) args vals:=⟨ha.1,fun i a b h1 h2=>NI (ha.2 i a b h1 h2) (List.all_eq_true.mp hp a (List.mem_of_getElem? h1))⟩
 have hlo:(if draw then max lo h.n else lo)≤h.n:=by have:=hs.lo;split<;>omega
 refine (hc _ R h vals hlo hs.rd ha').mono ?_
 rintro v h' ⟨R',y,hq,hv,hn,hkeep,hR⟩
 obtain ⟨g1,g2⟩:=hs.call hn hkeep hR
 exact ⟨m,_,s,y,hk y hq,g1,hv.mono (fun i b hb=>by simp at hb) (fun b hb=>.inr hb) (fun _ _=>rfl),g2,Co.refl _,fun _=>⟨rfl,rfl,fun b hb hbn=>hb.elim (fun h=>h) fun hb=>(hR b hb).2 hbn⟩⟩
noncomputable def Qk (s:BH):Ce→Ce
 |.own id sz off len=>(match ES s (.c (.own id sz off len)) with|some (z,els)=>.p (.row z els)|none=>.top)
 |.ptr id sz i off=>.ptr id sz i off
 |c=>c
noncomputable def IV (s:BH):YV→YV
 |.c (.ptr id sz i off)=>(match Fu s (.c (.ptr id sz i off)) with
  |some (c::cs)=>(match pcs ((c::cs).map (Qk s)) with|some ps=>.c (.rp ps)|none=>.c .top)
  |_=>.c .top)
 |.c c=>.c (Qk s c)
 |.agg cs=>.agg (cs.map (Qk s))
 |.tup _=>.c .top
def fG:YV→Bool
 |.c (.p (.d _))=>true
 |.agg cs=>(dvs cs).isSome
 |_=>false
def iZ:YV→Bool
 |.tup xs=>xs.all fG
 |x=>fG x
theorem H8 (hs:SRep lo m R h s) {c:Ce} {v:Value} (hc:CI m R h c v):CI m (fun b=>R b∨Dl m s b) h (Qk s c) v:=by
 have mono:CI m (fun b=>R b∨Dl m s b) h c v:=hc.mono (Co.refl _) (fun _ h=>.inl h) fun _ _=>rfl
 cases c with
 |own id sz off len=>
  show CI _ _ _ (match ES s (.c (.own id sz off len)) with|some (z,els)=>.p (.row z els)|none=>.top) v
  cases hr:ES s (.c (.own id sz off len)) with
  |none=>trivial
  |some r=>
   obtain ⟨z,els⟩:=r
   simp only
   have hr':=hr
   rcases GU (x:=.c (.own id sz off len)) hs hc hr with ⟨rfl,rfl⟩|⟨b,o,blk,rfl,k1,k2⟩
   ·exact PRep.nil
   ·unfold ES at hr'
    simp only at hr'
    rw [Cf] at hr'
    split at hr'
    ·rename_i z0 els0 he
     rcases hc with ⟨hz,⟨hc,_⟩|⟨b',hm,hc⟩⟩
     ·cases hc
     ·injection hc with hc _ _;injection hc with hc;injection hc with hc _ _;subst hc
      exact (k2.mono (fun _ h=>.inl h) fun _ _=>rfl).prep (.inr ⟨id,_,he,by simp,hm⟩) k1
    ·cases hr'
 |_=>exact mono
theorem Uj (hs:SRep lo m R h s) {x:YV} {v:Value} (hx:Af m R h x v):Af m (fun b=>R b∨Dl m s b) h (IV s x) v:=by
 unfold IV
 split
 ·rename_i id sz i off
  split
  ·rename_i c cs hcs
   split
   ·rename_i ps hps
    obtain ⟨b,hm,hv⟩:=hx
    obtain ⟨b',o,blk,k1,k2,k3,k4⟩:=Kx hs (a:=.c (.ptr id sz i off)) ⟨b,hm,hv⟩ hcs (by simp)
    have hlen:ps.length=(c::cs).length:=by
     have:=(L2.pcs (m:=m) (R:=fun b=>R b∨Dl m s b) (h:=h) (L2.mapl (k4.mono fun _ _ hp=>H8 hs hp)) hps).1
     rw [this,←k4.1]
    have hB:Dl m s b':=by
     rw [k1] at hv
     injection hv with hv;injection hv with hv;injection hv with hv _ _
     subst hv
     unfold Fu at hcs
     simp only at hcs
     rw [Cf] at hcs
     split at hcs
     ·rename_i cs0 he;exact ⟨id,_,he,by simp,hm⟩
     ·rename_i z els he;exact ⟨id,_,he,by simp,hm⟩
     ·cases hcs
    refine ⟨b',o,blk,.inr hB,k2,k1,by rw [hlen];exact k3,?_⟩
    rw [hlen]
    exact L2.pcs (m:=m) (L2.mapl (k4.mono fun _ _ hp=>H8 hs hp)) hps
   ·exact Af.top _
  ·exact Af.top _
 ·exact H8 hs hx
 ·obtain ⟨vs,h1,h2⟩:=hx
  exact ⟨vs,h1,L2.mapl (h2.mono fun _ _ hp=>H8 hs hp)⟩
 ·exact Af.top _
theorem fB {cs:List Ce} {vs:List Value} {l:List Value} (hl:L2 (CI m R h) cs vs) (hd:dvs cs=some l):L2 (CI m' R' h') cs vs:=by
 induction cs generalizing vs l with
 |nil=>exact ⟨hl.1,fun i a b h=>by simp at h⟩
 |cons c cs ih=>
  cases vs with
  |nil=>exact absurd hl.1 (by simp)
  |cons v vs=>
   cases c with
   |p c=>
    cases c with
    |d u=>
     simp only [dvs] at hd
     split at hd
     ·rename_i l' hl'
      refine (ih hl.tail hl').cons ?_
      have:=hl.head
      cases this
      exact PRep.d (by assumption)
     ·cases hd
    |row=>cases hd
   |_=>cases hd
theorem Z2 {x:YV} {v:Value} (hx:Af m R h x v) (hd:iZ x=true):Af m' R' h' x v:=by
 have hB:∀{y:YV} {u:Value},Gl m R h y u→fG y=true→Gl m' R' h' y u:=by
  intro y u hy hd
  unfold fG at hd
  split at hd
  ·cases hy;exact PRep.d (by assumption)
  ·obtain ⟨vs,h1,h2⟩:=hy
   obtain ⟨l,hl⟩:=Option.isSome_iff_exists.mp hd
   exact ⟨vs,h1,fB h2 hl⟩
  ·cases hd
 cases x with
 |c c=>exact hB (y:=.c c) hx hd
 |agg cs=>exact hB (y:=.agg cs) hx hd
 |tup xs=>
  obtain ⟨vs,h1,h2⟩:=hx
  exact ⟨vs,h1,h2.1,fun i a b ha hb=>hB (h2.2 i a b ha hb) (List.all_eq_true.mp hd a (List.mem_of_getElem? ha))⟩
theorem XZ {draw:Bool} {f:FuncId} {args:List YV} {K:YV→BH→Prop} {Q:YV→Prop} (hc:AS C f (args.map (IV s)) Q) (hp:(args.map (IV s)).all Ow=true) (hk:∀y,Q y→iZ y=true∧K y s):YC C draw f args s K:=by
 intro lo m R h vals hs ha
 have ha':L2 (Af [] (fun b=>R b∨Dl m s b) h) (args.map (IV s)) vals:=by
  have h1:L2 (Af m (fun b=>R b∨Dl m s b) h) (args.map (IV s)) vals:=L2.mapl (ha.mono fun _ _ hp=>Uj hs hp)
  exact ⟨h1.1,fun i a b h2 h3=>NI (h1.2 i a b h2 h3) (List.all_eq_true.mp hp a (List.mem_of_getElem? h2))⟩
 have hlo:(if draw then max lo h.n else lo)≤h.n:=by have:=hs.lo;split<;>omega
 refine (hc _ _ h vals hlo (fun b hb=>hb.elim (hs.rd b) hs.blkLt) ha').mono ?_
 rintro v h' ⟨R',y,hq,hv,hn,hkeep,hR⟩
 obtain ⟨hd,hK⟩:=hk y hq
 obtain ⟨g1,g2⟩:=hs.call (R':=fun _=>False) hn hkeep (fun b hb=>hb.elim)
 exact ⟨m,_,s,y,hK,g1,Z2 hv hd,g2,Co.refl _,fun _=>⟨rfl,rfl,fun b hb _=>hb.elim (fun h=>h) fun h=>h.elim⟩⟩
end
end Go.Vx
