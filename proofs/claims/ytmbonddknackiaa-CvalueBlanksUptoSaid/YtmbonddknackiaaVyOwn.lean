/- Calls that take a row of the run's own in and give one back, as an append does. -/
import Derived.Test.YtmbonddknackiaaVyFrame
set_option linter.unusedVariables false
namespace Go.Vx
section
variable {C:Cx} {lo:Nat} {m m':Mp} {R R':Nat→Prop} {h h':H} {s s':BH}
def Ya (sz:Nat) (els':List (List PC)) (y:YV) (s':BH):Prop:=
 (y=.c (.own 0 sz 0 els'.length)∧s'=[.row sz els'])∨(y=.c (.own 1 sz 0 els'.length)∧s'=[.dead,.row sz els'])
theorem bV {f:FuncId} {sz k:Nat} {els els':List (List PC)} {args:List YV} {K:YV→BH→Prop} (hp:args.all Ow=true) (hk:s[k]?=some (.row sz els))
  (h0:YC C false f (.c (.own 0 sz 0 els.length)::args) [.row sz els] (Ya sz els'))
  (hK:K (.c (.own s.length sz 0 els'.length)) (s.set k .dead++[.row sz els'])):YC C false f (.c (.own k sz 0 els.length)::args) s K:=by
 intro lo m R h vals hs hargs
 have hkl:=Az hk
 rw [←hs.len] at hkl
 have hmk:m[k]?=some m[k]:=List.getElem?_eq_getElem hkl
 have hs0:SRep lo [m[k]] R h [.row sz els]:=by
  refine ⟨rfl,fun i e mb h1 h2=>?_,fun i j e f b h1 h2 _ _ _ _=>?_,fun b ⟨i,e,h1,h2,h3⟩=>?_,hs.rd,hs.lo⟩
  ·cases i with
   |zero=>simp at h1 h2;subst h1;subst h2;exact hs.ent k _ _ hk hmk
   |succ i=>simp at h1
  ·have:=Az h1;have:=Az h2;simp at*;omega
  ·cases i with
   |zero=>simp at h1 h3;exact hs.own b ⟨k,_,hk,by simp,by rw [hmk,h3]⟩
   |succ i=>simp at h1
 cases vals with
 |nil=>exact absurd hargs.1 (by simp)
 |cons v vals=>
 have ha0:L2 (Af [m[k]] R h) (.c (.own 0 sz 0 els.length)::args) (v::vals):=by
  refine L2.cons ?_ ⟨hargs.tail.1,fun i a b h1 h2=>NI (hargs.tail.2 i a b h1 h2) (List.all_eq_true.mp hp a (List.mem_of_getElem? h1))⟩
  obtain ⟨hz,hv⟩:=hargs.head
  exact ⟨hz,hv.imp (fun h=>h) fun ⟨b,h1,h2⟩=>⟨b,by rw [hmk] at h1;simpa using h1,h2⟩⟩
 refine (h0 lo _ R h _ hs0 ha0).mono ?_
 rintro r h' ⟨m1,R',s1,y,hK0,hs1,hv,st,hm,_⟩
 have hB0:∀b,Dl [m[k]] [Ent.row sz els] b→m[k]?=some (some b):=fun b ⟨i,e,h1,h2,h3⟩=>by
  cases i with
  |zero=>simp at h3;rw [hmk,h3]
  |succ i=>simp at h1
 have hkR:∀b,R b→h'.get b=h.get b:=hs0.keepR st
 obtain ⟨j,mb,hj1,hj2,hE,hvy⟩:∃(j:Nat) (mb:Option Nat),s1[j]?=some (.row sz els')∧m1[j]?=some mb∧JH lo m1 R' h' (.row sz els') mb∧Af m1 R' h' (.c (.own j sz 0 els'.length)) r:=by
  rcases hK0 with ⟨rfl,rfl⟩|⟨rfl,rfl⟩
  ·have hl:0<m1.length:=by rw [hs1.len];simp
   exact ⟨0,m1[0],rfl,List.getElem?_eq_getElem hl,hs1.ent 0 _ _ rfl (List.getElem?_eq_getElem hl),hv⟩
  ·have hl:1<m1.length:=by rw [hs1.len];simp
   exact ⟨1,m1[1],rfl,List.getElem?_eq_getElem hl,hs1.ent 1 _ _ rfl (List.getElem?_eq_getElem hl),hv⟩
 have hnew:∀b,mb=some b→b<h.n→m[k]?=some (some b):=fun b hb hbn=>hB0 b (st.old b ⟨j,_,hj1,by simp,by rw [hj2,hb]⟩ hbn)
 have hlen:(s.set k Ent.dead).length=s.length:=by simp
 have key:∀(i:Nat) (e:Ent) (mc:Option Nat),(s.set k Ent.dead++[.row sz els'])[i]?=some e→(m++[mb])[i]?=some mc→e≠.dead→(i<s.length∧i≠k∧s[i]?=some e∧m[i]?=some mc)∨(i=s.length∧e=.row sz els'∧mc=mb):=by
  intro i e mc g1 g2 he
  rcases EF g1 with ⟨hi,g1⟩|⟨hi,g1⟩
  ·rw [hlen] at hi
   rw [List.getElem?_append_left (by rw [hs.len];exact hi)] at g2
   rcases CK g1 with ⟨_,rfl⟩|⟨hik,g1⟩
   ·exact absurd rfl he
   ·exact .inl ⟨hi,hik,g1,g2⟩
  ·rw [hlen] at hi
   rw [hi,←hs.len] at g2;simp at g2
   exact .inr ⟨hi,g1,g2.symm⟩
 have hoth:∀(i:Nat) (e:Ent) (b:Nat),i≠k→s[i]?=some e→e≠.dead→m[i]?=some (some b)→¬Dl [m[k]] [Ent.row sz els] b:=fun i e b hik h1 h2 h3 hb=>
  hik (hs.inj i k e _ b h1 hk h2 (by simp) h3 (hB0 b hb))
 have hle:Co m (m++[mb]):=Co.push _ _
 refine ⟨m++[mb],R',s.set k .dead++[.row sz els'],_,hK,⟨by simp [hs.len],fun i e mc g1 g2=>?_,fun i i' e e' b g1 g2 he he' g3 g4=>?_,fun b hb hrb=>?_,hs1.rd,hs1.lo⟩,?_,⟨st.n,fun b hb hn=>st.keep b hb fun hc=>?_,fun b hb hbn=>?_,st.rd,fun b hb hbn=>?_⟩,hle,fun hd=>by cases hd⟩
 ·by_cases hd:e=.dead
  ·subst hd;trivial
  rcases key i e mc g1 g2 hd with ⟨_,hik,a,b⟩|⟨_,rfl,rfl⟩
  ·have h3:=hs.ent i e mc a b
   exact h3.mono hle st.rd hkR fun c hc=>by subst hc;exact st.keep c (h3.lt hd) (hoth i e c hik a hd b)
  ·rcases hE with hE|⟨c,vs,e1,e2,e3,e4⟩
   ·exact .inl hE
   ·exact .inr ⟨c,vs,e1,e2,e3,e4⟩
 ·rcases key i e _ g1 g3 he with ⟨_,a1,a2,a3⟩|⟨a1,a2,a3⟩<;>rcases key i' e' _ g2 g4 he' with ⟨_,b1,b2,b3⟩|⟨b1,b2,b3⟩
  ·exact hs.inj i i' e e' b a2 b2 he he' a3 b3
  ·have hbn:=hs.blkLt ⟨i,e,a2,he,a3⟩
   exact absurd (hs.inj i k e _ b a2 hk he (by simp) a3 (hnew b b3.symm hbn)) a1
  ·have hbn:=hs.blkLt ⟨i',e',b2,he',b3⟩
   exact absurd (hs.inj i' k e' _ b b2 hk he' (by simp) b3 (hnew b a3.symm hbn)) b1
  ·omega
 ·obtain ⟨i,e,g1,g2,g3⟩:=hb
  rcases key i e _ g1 g3 g2 with ⟨_,a1,a2,a3⟩|⟨a1,a2,a3⟩
  ·have hbn:=hs.blkLt ⟨i,e,a2,g2,a3⟩
   rcases st.rd' b hrb hbn with hr|hr
   ·exact hs.own b ⟨i,e,a2,g2,a3⟩ hr
   ·exact hoth i e b a1 a2 g2 a3 hr
  ·exact hs1.own b ⟨j,_,hj1,by simp,by rw [hj2,a3]⟩ hrb
 ·obtain ⟨hz,hv⟩:=hvy
  refine ⟨hz,hv.imp (fun h=>h) fun ⟨b,g1,g2⟩=>⟨b,?_,g2⟩⟩
  rw [hs.mlen]
  rw [hj2] at g1;exact g1
 ·exact hn ⟨k,_,hk,by simp,hB0 b hc⟩
 ·obtain ⟨i,e,g1,g2,g3⟩:=hb
  rcases key i e _ g1 g3 g2 with ⟨_,a1,a2,a3⟩|⟨a1,a2,a3⟩
  ·exact ⟨i,e,a2,g2,a3⟩
  ·exact ⟨k,_,hk,by simp,hnew b a3.symm hbn⟩
 ·exact (st.rd' b hb hbn).imp (fun h=>h) fun hc=>⟨k,_,hk,by simp,hB0 b hc⟩
theorem Ua {f:FuncId} {sz:Nat} {els':List (List PC)} {args:List YV} {K:YV→BH→Prop} (hz:sz≠0) (hp:args.all Ow=true)
  (h0:YC C false f (.c (.own 0 sz 0 0)::args) [.row sz []] (Ya sz els'))
  (hK:K (.c (.own (s.length+1) sz 0 els'.length)) (s++[.dead]++[.row sz els'])):YC C false f (.c (.p (.d (.slice none 0 0)))::args) s K:=by
 intro lo m R h vals hs hargs
 obtain ⟨g1,g2⟩:=hs.push0 sz
 cases vals with
 |nil=>exact absurd hargs.1 (by simp)
 |cons v vals=>
 have ha:L2 (Af (m++[none]) R h) (.c (.own s.length sz 0 ([]:List (List PC)).length)::args) (v::vals):=by
  refine L2.cons ?_ (hargs.tail.vmono (Co.push _ _) (fun _ h=>h) fun _ _=>rfl)
  have:=hargs.head
  generalize hu:Value.slice none 0 0=u at this
  cases this
  subst hu
  exact ⟨hz,.inl ⟨rfl,rfl,rfl⟩⟩
 have hc:=bV (s:=s++[.row sz []]) (k:=s.length) (els:=[]) (K:=K) hp (by simp) h0 (by
  rw [List.set_append_right _ _ (by omega),Nat.sub_self]
  simp only [List.length_append,List.length_singleton]
  exact hK)
 refine (hc lo _ R h _ g1 ha).mono ?_
 rintro r h' ⟨m1,R1,s1,y,k1,k2,k3,k4,k5,_⟩
 exact ⟨m1,R1,s1,y,k1,k2,k3,g2.trans k4,fun i b hb=>k5 i b (Co.push _ _ i b hb),fun hd=>by cases hd⟩
variable {pin:Nat} {e:List YV} {fs:List Fr} {Q:FI} {gs:List (Option Nat)} {rest:List Oper} {d:Option Nat}
theorem Ba {f:FuncId} {sz:Nat} {els':List (List PC)} {args:List YV} (hz:sz≠0) (hp:args.all Ow=true)
  (h0:YC C false f (.c (.own 0 sz 0 0)::args) [.row sz []] (Ya sz els'))
  (hK:Rg C pin false gs rest fs Q (yput e d (.c (.own (s.length+1) sz 0 els'.length))) (s++[.dead]++[.row sz els'])):Av C pin false gs d rest fs Q e f (.c (.p (.d (.slice none 0 0)))::args) s:=Ua hz hp h0 hK
theorem Ec {f:FuncId} {sz k n n':Nat} {els els':List (List PC)} {args:List YV} (hn:els.length=n) (hn':els'.length=n') (hp:args.all Ow=true) (hk:s[k]?=some (.row sz els))
  (h0:YC C false f (.c (.own 0 sz 0 els.length)::args) [.row sz els] (Ya sz els'))
  (hK:Rg C pin false gs rest fs Q (yput e d (.c (.own s.length sz 0 n'))) (s.set k .dead++[.row sz els'])):Av C pin false gs d rest fs Q e f (.c (.own k sz 0 n)::args) s:=by
 subst hn;subst hn'
 exact bV hp hk h0 hK
end
end Go.Vx
