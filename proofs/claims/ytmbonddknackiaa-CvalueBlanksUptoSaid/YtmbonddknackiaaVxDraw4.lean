/- A region that draws its order: every order comes to the canonical run's end. -/
import Derived.Test.YtmbonddknackiaaVxDraw3
namespace Go.Vx
open Go.RowKit
section
variable {C:Cx} {base:Nat} {callf:Nat→FuncId→List Value→H→Option (Value×H)} {lo:Nat} {ops:Array Oper} {E:Nat→BF} {Hs:Nat→H} {V:Nat→Value}
variable {φ0 φ:Cy} {w0 w:World} {S:Nat→Bool} {ν:Nat} {a:Act} {Q:Exit→Act→World→Prop}
def fD (C:Cx) (ops:List Oper) (E:Nat→BF):Prop:=∀(i m:Nat) (r:Nat),mW C ops E i=some r→Xx C ops E m=some r→F3 C ops m=true→
 ET (E7 ops []) i m=true∨ET (E7 ops []) m i=true
theorem XX {op:Op} {P:Program} (h:EO op=true):DH P op=false:=by
 cases op<;>simp only [EO] at h<;>try (cases h;done)
 rename_i c
 obtain ⟨callee,args,argTypes⟩:=c
 cases callee with
 |value f=>rfl
 |_=>simp at h
theorem Ub {ops':List Oper} {o:Oper} {e:BF} {h h':H} {v:Value} (hm:DH C.P o.op=false) (hcall:EO o.op=false)
  (hx:Dy C callf true lo ops' o e h=some (v,h')) (lo':Nat):
  ∃g',Dy C callf true lo' ops' o e (Nd h (GL C.P (ev e) o.op))=some (v,g')∧g'.n=h'.n∧∀id,h.n≤id→id<h'.n→g'.get id=h'.get id:=by
 unfold Dy at hx ⊢
 split at hx
 ·rename_i hw
  rw [if_pos hw]
  split at hx
  ·rename_i v1 h1 h2
   cases hx
   rcases Xo hm h2 (g:=Nd h (GL C.P (ev e) o.op)) rfl (fun r hr=>by rw [RW,if_pos hr]) lo' with ⟨rfl,h3⟩|⟨b,rfl,h3⟩
   ·exact ⟨Nd h' (GL C.P (ev e) o.op),by rw [h3],rfl,fun id h4 h5=>by omega⟩
   ·refine ⟨(Nd h (GL C.P (ev e) o.op)).push b,by rw [h3],rfl,fun id h4 h5=>?_⟩
    have:id=h.n:=by simp at h5;omega
    subst this
    rw [H.get_push_self]
    exact H.get_push_self (Nd h (GL C.P (ev e) o.op)) b
  ·rename_i f args h1 h2
   exfalso
   obtain ⟨_,_,_,_,_,h3,_⟩:=Kq h2
   rw [h3] at hcall;cases hcall
  ·cases hx
 ·rename_i hw
  rw [if_neg hw]
  simp only [Option.some.injEq,Prod.mk.injEq] at hx
  obtain ⟨rfl,rfl⟩:=hx
  exact ⟨_,rfl,rfl,fun id h4 h5=>by omega⟩
theorem Inv.next (hl:Pq C) (hE:LX C.P C.eqs) (hz:Ca C.P) (hc:FK C base callf) (hk:CC callf) (R:Run C callf lo ops.toList 0 E Hs V) (D:DrawOk C.P ops) (hcalm:fD C ops.toList E)
  (hop:∀o∈ops.toList,IQ o.op=true) (hb:Bd C base w0)
  (hn:∀i,(Hs 0).n≤i→i<(Hs ops.toList.length).n→φ0 i=none) (I:Inv C base lo ops E Hs V φ0 w0 S φ ν a w) {i:Nat} {o:Oper} (ho:ops.toList[i]?=some o) (hi:S i=false)
  (hup:∀k,ET (E7 ops.toList []) k i=true→S k=true) {K:Act→World→Prop}
  (hK:∀φ' ν' a' w',Inv C base lo ops E Hs V φ0 w0 (add S i) φ' ν' a' w'→K a' w'):wpOp C.P ops Q i K a w:=by
 have hin:i<ops.toList.length:=by apply Classical.byContradiction;intro hc;rw [List.getElem?_eq_none (by omega)] at ho;cases ho
 have hoa:ops[i]?=some o:=by simpa using ho
 have hx:=(R.step i o (Nat.zero_le _) ho).1
 have hbw:Bd C base w:=hb.step hl I.bel
 have hok:=hop o (List.mem_of_getElem? ho)
 have hr:∀x∈o.op.operands.toList,Cl x=true→VR φ (ev (E i) x) (a.eval x):=fun x hx hox=>by
  cases x with
  |tmp t=>show VR φ (Gi (E i) undef t) _;rw [F0];exact I.slots R D ho hi hup (List.mem_append_left _ (List.mem_filterMap.2 ⟨.tmp t,hx,rfl⟩))
  |const v=>exact D6 hox
  |global g=>simp [Cl] at hox
  |func f=>exact D6 (by simp [ev,Hx,dry])
 have hw:wants ops.toList (E i) o=Region.wanted o (yielded ops a.tmps):=by
  refine Sd (φ:=φ) ((R.E_len i (by omega)).trans I.len) fun g want d hg hd=>I.slots R D ho hi hup ?_
  refine List.mem_append_right _ ?_
  rw [hg]
  simp [hd]
 have hfree:∀j,(Hs i).n≤j→j<(Hs (i+1)).n→φ j=none:=fun j h1 h2=>I.free R hk hn hin hi h1 h2
 cases hm:DH C.P o.op with
 |true=>
  have hmk:F3 C ops.toList i=true:=by simp only [F3,ho,hm]
  have hnc:EO o.op=false:=by
   cases hcc:EO o.op with
   |false=>rfl
   |true=>rw [XX hcc] at hm;cases hm
  have hnu:ν=i:=by
   rcases Nat.lt_trichotomy ν i with hlt|rfl|hgt
   ·exfalso
    obtain ⟨o2,ho2,hm2⟩:=Ja (I.isM (by omega))
    rcases D.pair ν i o2 o hlt ho2 ho with hp|⟨_,hp,_⟩
    ·have:=hup ν hp
     rw [I.above ν (Nat.le_refl _) (I.isM (by omega))] at this;cases this
    ·exact hp ⟨hm2,.inl hm⟩
   ·rfl
   ·exfalso
    rw [I.below i hgt hmk] at hi;cases hi
  subst hnu
  have hh:HR base φ (Hs ν) w:=by
   have e:∀j b,(Hs ν).get j=some b→HA Hs ops.toList.length ν j=some b:=fun j b hb=>by rw [R.cont_old hk (H.get_lt hb)];exact hb
   exact ⟨I.heap.bound,fun j l b h1 h2=>I.heap.live j l b h1 (e j b h2),fun j l b h1 h2 h3=>I.heap.base j l b h1 (e j b h2) h3,
    fun j k lj lk bj bk hjk hj hk' h1 h2 h3=>I.heap.sep j k lj lk bj bk hjk hj hk' (e j bj h1) (e k bk h2) h3⟩
  refine K9 hE hz hc hoa hx hok hr hw hh hbw hfree ?_
  intro v' w' φ' hv hst
  rw [hnc] at hst
  simp only [Bool.and_false,Bool.false_eq_true,if_false] at hst
  obtain ⟨ν',I'⟩:=I.turned R hk D hn ho hi hup hok hr hv hst
  exact hK φ' ν' _ _ I'
 |false=>
  have hmi:F3 C ops.toList i=false:=by simp only [F3,ho,hm]
  cases hcall:EO o.op with
  |true=>
   have hnu:i<ν:=by
    apply Classical.byContradiction
    intro hge
    have hne:ν≠i:=fun e=>by subst e;rw [I.isM hin] at hmi;cases hmi
    obtain ⟨o2,ho2,hm2⟩:=Ja (I.isM (by omega))
    rcases D.pair ν i o2 o (by omega) ho2 ho with hp|⟨_,hp,_⟩
    ·have:=hup ν hp
     rw [I.above ν (Nat.le_refl _) (I.isM (by omega))] at this;cases this
    ·exact hp ⟨hm2,.inr hcall⟩
   have hno:∀m,i≤m→m<ν→F3 C ops.toList m=false:=fun m h1 h2=>by
    cases hmm:F3 C ops.toList m with
    |false=>rfl
    |true=>
     exfalso
     have hne:m≠i:=fun e=>by subst e;rw [hmm] at hmi;cases hmi
     obtain ⟨o2,ho2,hm2⟩:=Ja hmm
     rcases D.pair i m o o2 (by omega) ho ho2 with hp|⟨_,_,hp⟩
     ·rw [I.down i m (I.below m h2 hmm) hp] at hi;cases hi
     ·exact hp ⟨hcall,hm2⟩
   have hh:HR base φ (Hs i) w:=by
    have e:∀j b,(Hs i).get j=some b→HA Hs ops.toList.length ν j=some b:=fun j b hb=>by
     have hlt:=H.get_lt hb
     rw [R.cont_old hk (Nat.lt_of_lt_of_le hlt (R.mono hk (by omega) I.nu))]
     rw [R.stable hk (by omega) I.nu hlt fun m h1 h2 h3=>by rw [hno m h1 h2] at h3;cases h3]
     exact hb
    exact ⟨I.heap.bound,fun j l b h1 h2=>I.heap.live j l b h1 (e j b h2),fun j l b h1 h2 h3=>I.heap.base j l b h1 (e j b h2) h3,
     fun j k lj lk bj bk hjk hj hk' h1 h2 h3=>I.heap.sep j k lj lk bj bk hjk hj hk' (e j bj h1) (e k bk h2) h3⟩
   refine K9 hE hz hc hoa hx hok hr hw hh hbw hfree ?_
   intro v' w' φ' hv hst
   rw [hcall] at hst
   simp only [Bool.and_self,if_true] at hst
   exact hK φ' ν _ _ (I.grow R hk D hn ho hi hup hm hok hr hv hst (Nat.le_max_right _ _) rfl rfl fun _ _ _=>rfl)
  |false=>
   obtain ⟨g',hxg,hgn,hgnew⟩:=Ub hm hcall hx (Hs i).n
   have hh:HR base φ (Nd (Hs i) (GL C.P (ev (E i)) o.op)) w:=by
    have one:∀j b,(Nd (Hs i) (GL C.P (ev (E i)) o.op)).get j=some b→GL C.P (ev (E i)) o.op=some j∧(Hs i).get j=some b:=fun j b hb=>by
     rw [RW] at hb
     split at hb
     ·rename_i h1;exact ⟨h1,hb⟩
     ·cases hb
    have e:∀j b,(Nd (Hs i) (GL C.P (ev (E i)) o.op)).get j=some b→HA Hs ops.toList.length ν j=some b:=fun j b hb=>by
     obtain ⟨hrd,hget⟩:=one j b hb
     have hrk:mW C ops.toList E i=some j:=by simp only [mW,ho,hrd]
     have hlt:=H.get_lt hget
     have hbi:=R.bi_first hk hlt
     have hquiet:∀m,F3 C ops.toList m=true→(m<i→S m=false)→(i<m→S m=true)→m≠i→Xx C ops.toList E m≠some j:=fun m hmm h1 h2 hne ht=>by
      rcases hcalm i m j hrk ht hmm with hp|hp
      ·have hml:m<ops.toList.length:=by
        obtain ⟨o2,ho2,_⟩:=Ja hmm
        apply Classical.byContradiction;intro hc;rw [List.getElem?_eq_none (by omega)] at ho2;cases ho2
       have:=Ru D m i _ (List.getElem?_eq_getElem hml) hp
       rw [I.down i m (h2 this) hp] at hi;cases hi
      ·have:=Ru D i m o ho hp
       rw [hup m hp] at h1;exact absurd (h1 this) (by simp)
     unfold HA
     by_cases hle:max ν (bi Hs j ops.toList.length)≤i
     ·rw [←hget]
      refine (R.stable hk hle (by omega) ?_ fun m h1 h2 h3=>?_).symm
      ·exact Nat.lt_of_lt_of_le (WH Hs j ops.toList.length (Nat.lt_of_lt_of_le hlt (R.mono hk (by omega) (Nat.le_refl _)))) (R.mono hk (Nat.le_max_right _ _) (by omega))
      ·exact hquiet m h3 (fun _=>I.above m (by omega) h3) (fun h=>by omega) (by omega)
     ·have:max ν (bi Hs j ops.toList.length)=ν:=by omega
      rw [this,←hget]
      refine R.stable hk (by omega) I.nu hlt fun m h1 h2 h3=>?_
      have hne:m≠i:=fun e=>by subst e;rw [h3] at hmi;cases hmi
      exact hquiet m h3 (fun h=>by omega) (fun _=>I.below m h2 h3) hne
    refine ⟨I.heap.bound,fun j l b h1 h2=>I.heap.live j l b h1 (e j b h2),fun j l b h1 h2 h3=>I.heap.base j l b h1 (e j b h2) h3,
     fun j k lj lk bj bk hjk hj hk' h1 h2 h3=>?_⟩
    have e1:=(one j bj h1).1
    have e2:=(one k bk h2).1
    rw [e1] at e2;cases e2
    exact absurd rfl hjk
   refine K9 hE hz hc hoa hxg hok hr hw hh hbw (fun j h1 h2=>hfree j h1 (by rw [←hgn];exact h2)) ?_
   intro v' w' φ' hv hst
   rw [hcall] at hst
   simp only [Bool.and_false,Bool.false_eq_true,if_false] at hst
   exact hK φ' ν _ _ (I.grow R hk D hn ho hi hup hm hok hr hv hst (Nat.le_refl _) rfl hgn hgnew)
theorem VS:∀{tr:List (Option Nat×Option Nat)} {k i r:Nat} {t:Option Nat},tr[i]?=some (some r,t)→(k+i,r)∈GV tr k
 |[],k,i,r,t,h=>by simp at h
 |(x,y)::tr,k,0,r,t,h=>by
  simp at h;obtain ⟨rfl,rfl⟩:=h
  simp [GV]
 |(x,y)::tr,k,i+1,r,t,h=>by
  simp at h
  have:=VS (k:=k+1) h
  rw [show k+1+i=k+(i+1) by omega] at this
  cases x<;>simp only [GV]<;>simp [this]
theorem Wk:∀{tr:List (Option Nat×Option Nat)} {k i t:Nat} {r:Option Nat},tr[i]?=some (r,some t)→(k+i,t)∈Fg tr k
 |[],k,i,t,r,h=>by simp at h
 |(x,y)::tr,k,0,t,r,h=>by
  simp at h;obtain ⟨rfl,rfl⟩:=h
  simp [Fg]
 |(x,y)::tr,k,i+1,t,r,h=>by
  simp at h
  have:=Wk (k:=k+1) h
  rw [show k+1+i=k+(i+1) by omega] at this
  cases y<;>simp only [Fg]<;>simp [this]
theorem QS {ops':List Oper} {tr:List (Option Nat×Option Nat)} (h:F4 ops' tr=true)
  (ht:∀j o,ops'[j]?=some o→tr[j]?=some (GL C.P (ev (E j)) o.op,Hf C.P (ev (E j)) o.op)):fD C ops' E:=by
 intro i m r hr htg _
 unfold F4 at h
 cases hoi:ops'[i]? with
 |none=>simp only [mW,hoi] at hr;cases hr
 |some oi=>
  cases hom:ops'[m]? with
  |none=>simp only [Xx,hom] at htg;cases htg
  |some om=>
   simp only [mW,hoi] at hr
   simp only [Xx,hom] at htg
   have h1:=ht i oi hoi
   have h2:=ht m om hom
   rw [hr] at h1
   rw [htg] at h2
   have m1:=VS (k:=0) h1
   have m2:=Wk (k:=0) h2
   simp only [Nat.zero_add] at m1 m2
   cases hts:Fg tr 0 with
   |nil=>rw [hts] at m2;cases m2
   |cons t ts=>
    rw [hts] at h m2
    simp only [QR,List.all_eq_true] at h
    have:=h _ m2 _ m1
    simp only [FS,beq_self_eq_true,Bool.not_true,Bool.or_false,Bool.or_eq_true] at this
    exact this
theorem Inv.any (hl:Pq C) (hE:LX C.P C.eqs) (hz:Ca C.P) (hc:FK C base callf) (hk:CC callf) (R:Run C callf lo ops.toList 0 E Hs V) (D:DrawOk C.P ops) (hcalm:fD C ops.toList E)
  (hop:∀o∈ops.toList,IQ o.op=true) (hb:Bd C base w0)
  (hn:∀i,(Hs 0).n≤i→i<(Hs ops.toList.length).n→φ0 i=none)
  (hQ:∀φ ν a w S,(∀k,k<ops.toList.length→S k=true)→Inv C base lo ops E Hs V φ0 w0 S φ ν a w→Q .normal a w):
  ∀(fuel:Nat) (listed:Array Bool) (φ:Cy) (ν:Nat) (a:Act) (w:World),listed.size=ops.size→((List.range ops.size).filter fun k=> !listed.getD k false).length≤fuel→
   Inv C base lo ops E Hs V φ0 w0 (fun k=>listed.getD k false) φ ν a w→wpAny C.P .any ops Q fuel listed a w:=by
 have first:∀(listed:Array Bool),listed.size=ops.size→Region.ready .any ops listed=[]→∀k,k<ops.toList.length→listed.getD k false=true:=by
  intro listed hsz hr k
  induction k using Nat.strongRecOn with
  |_ k ih=>
   intro hk
   cases hl:listed.getD k false with
   |true=>rfl
   |false=>
    exfalso
    have hks:k<listed.size:=by rw [hsz];simpa using hk
    have:k∈Region.ready .any ops listed:=by
     rw [mem_ready]
     refine ⟨?_,ops.toList[k],by simp,fun e he hb=>?_⟩
     ·simp only [Array.getD,hks,dif_pos] at hl ⊢;exact hl
     ·have:=D.edge k _ (List.getElem?_eq_getElem hk) e (by simpa using he) hb
      exact ih e.on this (by omega)
    rw [hr] at this;cases this
 intro fuel
 induction fuel with
 |zero=>
  intro listed φ ν a w hsz hf I
  have hall:∀k,k<ops.size→listed.getD k false=true:=fun k hk=>by
   have:=List.eq_nil_of_length_eq_zero (Nat.le_zero.1 hf)
   rw [List.filter_eq_nil_iff] at this
   simpa using this k (List.mem_range.2 hk)
  refine ⟨?_,hQ φ ν a w _ (fun k hk=>hall k (by simpa using hk)) I⟩
  apply Classical.byContradiction
  intro hne
  obtain ⟨k,hk⟩:=List.exists_mem_of_ne_nil _ hne
  obtain ⟨h1,o,ho,_⟩:=mem_ready.1 hk
  have hlt:k<ops.size:=(Array.getElem?_eq_some_iff.1 ho).1
  have:=hall k hlt
  have hks:k<listed.size:=by omega
  simp only [Array.getD,hks,dif_pos] at h1 this
  rw [h1] at this;cases this
 |succ fuel ih=>
  intro listed φ ν a w hsz hf I
  refine ⟨fun hr=>hQ φ ν a w _ (first listed hsz hr) I,fun i hi=>?_⟩
  obtain ⟨h1,o,ho,hall⟩:=mem_ready.1 hi
  have hlt:i<ops.size:=(Array.getElem?_eq_some_iff.1 ho).1
  have his:i<listed.size:=by omega
  have hSi:listed.getD i false=false:=by
   simp only [Array.getD,his,dif_pos] at h1 ⊢;exact h1
  have ho':ops.toList[i]?=some o:=by simpa using ho
  have hup:∀k,ET (E7 ops.toList []) k i=true→listed.getD k false=true:=by
   intro k hk'
   obtain ⟨e,he,hb,h2⟩:=N4 ho' hk'
   have hl:=hall e (by simpa using he) hb
   rcases h2 with rfl|⟨_,h2⟩
   ·exact hl
   ·exact I.down k e.on hl h2
  refine I.next hl hE hz hc hk R D hcalm hop hb hn ho' hSi hup ?_
  intro φ' ν' a' w' I'
  have hS:(fun k=>(listed.setIfInBounds i true).getD k false)=add (fun k=>listed.getD k false) i:=by
   funext k
   unfold add
   by_cases e:k=i
   ·subst e;rw [if_pos rfl];simp [his]
   ·rw [if_neg e];exact getD_set_ne false (Ne.symm e)
  refine ih (listed.setIfInBounds i true) φ' ν' a' w' (by simpa using hsz) ?_ (by rw [hS];exact I')
  have hcount:((List.range ops.size).filter fun k=> !(listed.setIfInBounds i true).getD k false).length<((List.range ops.size).filter fun k=> !listed.getD k false).length:=by
   have hsub:((List.range ops.size).filter fun k=> !(listed.setIfInBounds i true).getD k false)=(((List.range ops.size).filter fun k=> !listed.getD k false)).filter fun k=>k != i:=by
    rw [List.filter_filter]
    apply List.filter_congr
    intro k _
    have:=congrFun hS k
    rw [show (listed.setIfInBounds i true).getD k false=add (fun k=>listed.getD k false) i k from this]
    unfold add
    by_cases e:k=i
    ·subst e;simp
    ·rw [if_neg e];simp [e]
   rw [hsub]
   have hmem:i∈(List.range ops.size).filter fun k=> !listed.getD k false:=by
    rw [List.mem_filter];exact ⟨List.mem_range.2 hlt,by rw [hSi];rfl⟩
   have hle:=List.length_filter_le (fun k=>k != i) ((List.range ops.size).filter fun k=> !listed.getD k false)
   rcases Nat.lt_or_eq_of_le hle with h|h
   ·exact h
   ·rw [List.length_filter_eq_length_iff] at h
    have:=h i hmem
    simp at this
  omega
theorem YO (hl:Pq C) {id:Nat} {e e':BF} {h h':H} {tr:List (Option Nat×Option Nat)} (hm:C.P.follows .mixedOrders=true) (hE:LX C.P C.eqs) (hz:Ca C.P) (hc:FK C base callf) (hk:CC callf)
  (hop:∀o∈ops.toList,IQ o.op=true) (hd:Q4 C.P ops=true) (hx:Gm C callf lo ops.toList ops.toList e h=some (e',h',tr)) (htr:F4 ops.toList tr=true)
  (he:ER φ e a) (hh:HR base φ h w) (hb:Bd C base w) (hn:∀i,h.n≤i→i<h'.n→φ i=none)
  (hQ:∀φ' w' a',ER φ' e' a'→Step base lo φ φ' h h' w w'→Q .normal a' w'):(Code.region id ops true).wp C.P Q a w:=by
 obtain ⟨E,Hs,V,R,r1,r2,r3,r4,r5⟩:=Zi (ops:=ops.toList) ops.toList 0 e e' h h' tr rfl hx
 simp only [Nat.zero_add] at r3 r4
 have hcalm:fD C ops.toList E:=QS htr fun j o ho=>by simpa using r5 j o (Nat.zero_le _) ho
 have D:=kH hd
 subst r1;subst r2
 refine wp_region_any hm ?_
 obtain ⟨ν,n1,n2,n3,n4⟩:=Oc C ops.toList _ 0 rfl (Nat.zero_le _)
 have hheap:HRg base φ (HA Hs ops.toList.length ν) w.drew:=by
  have hh':=eR hh
  have e:∀j l b,φ j=some l→HA Hs ops.toList.length ν j=some b→(Hs 0).get j=some b:=fun j l b h1 h2=>by
   by_cases hj:j<(Hs 0).n
   ·rw [R.cont_old hk (Nat.lt_of_lt_of_le hj (R.mono hk n1 n2)),R.stable hk n1 n2 hj fun m a1 a2 a3=>by rw [n3 m a1 a2] at a3;cases a3] at h2
    exact h2
   ·exfalso
    unfold HA at h2
    have:=H.get_lt h2
    have:=hn j (by omega) (by rw [←r4];exact Nat.lt_of_lt_of_le this (R.mono hk (by have:=aN Hs j ops.toList.length;omega) (Nat.le_refl _)))
    rw [h1] at this;cases this
  exact ⟨hh'.bound,fun j l b h1 h2=>hh'.live j l b h1 (e j l b h1 h2),fun j l b h1 h2 h3=>hh'.base j l b h1 (e j l b h1 h2) h3,
   fun j k lj lk bj bk hjk hj hk' h1 h2 h3=>hh'.sep j k lj lk bj bk hjk hj hk' (e j lj bj hj h1) (e k lk bk hk' h2) h3⟩
 have I0:Inv C base lo ops E Hs V φ w (fun k=>(Array.replicate ops.size false).getD k false) φ ν a w.drew:=by
  have hS:∀k,(Array.replicate ops.size false).getD k false=false:=fun k=>by
   by_cases hk':k<ops.size<;>simp [Array.getD,hk']
  have hv0:∀t k,val V ops.toList ((E 0).getD t undef) t (fun k=>(Array.replicate ops.size false).getD k false) k=(E 0).getD t undef:=fun t k=>by
   induction k with
   |zero=>rfl
   |succ k ih=>rw [val,if_neg,ih];rintro ⟨h1,_⟩;rw [hS] at h1;cases h1
  refine ⟨n2,fun k h1 h2=>?_,fun k _ _=>hS k,n4,fun i j hj _=>?_,he.len,he.defers,fun t ht=>?_,hheap,fun _ _ h=>h,fun id h=>.inl h,fun m hm'=>?_,(Below.refl _ _).drew,fun b _ _=>rfl,fun i l h1 h2=>?_⟩
  ·rw [n3 k (Nat.zero_le _) h1] at h2;cases h2
  ·rw [hS] at hj;cases hj
  ·rw [hv0];exact he.val t
  ·rw [hS] at hm';cases hm'
  ·rw [h1] at h2;cases h2
 refine Inv.any hl hE hz hc hk R D hcalm hop hb (by rw [r4];exact hn) ?_ ops.size (Array.replicate ops.size false) φ ν a w.drew (by simp) ?_ I0
 ·intro φ' ν' a' w' S hall I
  have hnu:ν'=ops.toList.length:=by
   apply Classical.byContradiction;intro hne
   have hlt:ν'<ops.toList.length:=by have:=I.nu;omega
   have:=I.above ν' (Nat.le_refl _) (I.isM hlt)
   rw [hall ν' hlt] at this;cases this
  subst hnu
  refine hQ φ' w' a' ⟨?_,fun t=>?_,I.defers⟩ ⟨I.ext,fun id hid=>?_,?_,?_,I.bel,I.frame,I.fresh,fun i hi b' hb'=>?_⟩
  ·rw [←r3,R.E_len _ (Nat.le_refl _)];exact I.len
  ·by_cases ht:t<(E 0).length
   ·have h1:=(R.val_E ht ops.toList.length (Nat.le_refl _)).2
    rw [←r3,h1]
    have h2:=I.slot t ht
    rw [Jb (q:=fun _=>true) (fun j hj _=>hall j hj)] at h2
    exact h2
   ·have h1:e'.getD t undef=undef:=by
     rw [List.getD,List.getElem?_eq_none (by rw [←r3,R.E_len _ (Nat.le_refl _)];omega)];rfl
    have h2:a'.tmps.getD t undef=undef:=by
     have:¬t<a'.tmps.size:=by rw [←I.len];exact ht
     simp [Array.getD,this]
    rw [h1,h2];exact VR.undef
  ·rcases I.dom id hid with h|⟨k,h1,_,h3,h4⟩
   ·exact .inl h
   ·refine .inr ⟨Nat.le_trans (R.mono hk (Nat.zero_le _) (by omega)) h3,?_⟩
    rw [←r4];exact Nat.lt_of_lt_of_le h4 (R.mono hk (by omega) (Nat.le_refl _))
  ·rw [←r4];exact R.mono hk (Nat.zero_le _) (Nat.le_refl _)
  ·have e:∀j b,h'.get j=some b→HA Hs ops.toList.length ops.toList.length j=some b:=fun j b hb=>by
    rw [←r4] at hb
    rw [R.cont_old hk (H.get_lt hb)];exact hb
   exact ⟨I.heap.bound,fun j l b h1 h2=>I.heap.live j l b h1 (e j b h2),fun j l b h1 h2 h3=>I.heap.base j l b h1 (e j b h2) h3,
    fun j k lj lk bj bk hjk hj hk' h1 h2 h3=>I.heap.sep j k lj lk bj bk hjk hj hk' (e j bj h1) (e k bk h2) h3⟩
  ·rw [←r4] at hb'
   exact R.back hk (Nat.zero_le _) (Nat.le_refl _) hi hb'
 ·have:=List.length_filter_le (fun k=> !(Array.replicate ops.size false).getD k false) (List.range ops.size)
  simpa using this
end
end Go.Vx
