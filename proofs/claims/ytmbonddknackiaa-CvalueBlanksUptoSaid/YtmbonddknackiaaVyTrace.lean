/- Drawn regions that read beside what they turn: what is read is no block that is turned. -/
import Derived.Test.YtmbonddknackiaaVyFn
set_option linter.unusedVariables false
namespace Go.Vx
noncomputable def KQ (s:BH) (rs ts:List Nat) (ρ:Operand→YV):Op→Option (List Nat×List Nat)
 |.load _ a=>(match ρ a with
  |.c (.rp _)=>some (rs,ts)
  |.c (.ptr id _ _ _)=>(match By s id with
   |some (.box _)=>(match ts.contains id with|true=>none|false=>some (id::rs,ts))
   |_=>none)
  |_=>none)
 |.store _ a _=>(match ρ a with
  |.c (.ptr id _ _ _)=>(match rs.contains id with|true=>none|false=>some (rs,id::ts))
  |_=>none)
 |.convert _ _ x=>(match ρ x with
  |.c (.own ..)=>none
  |.c .top=>none
  |_=>some (rs,ts))
 |.buildSlice t len parts=>(match Rx ρ (.buildSlice t len parts) with|true=>none|false=>some (rs,ts))
 |_=>some (rs,ts)
def NK:YV→Bool
 |.tup []=>true
 |.c (.p (.d _))=>true
 |_=>false
def Ir (ρ:Operand→YV):Op→Bool
 |.load _ a=>NK (ρ a)
 |.store _ a _=>NK (ρ a)
 |.convert _ _ x=>NK (ρ x)
 |.call {callee:=.builtin .append,..}=>false
 |_=>true
def n7 (A:List Nat→List Nat→Prop):Option (List Nat×List Nat)→Prop
 |some (rs,ts)=>A rs ts
 |none=>False
def qB (A:Prop):Bool→Prop
 |true=>A
 |false=>False
noncomputable def YT (C:Cx) (gs:List (Option Nat)):List Oper→List Nat→List Nat→List YV→BH→(List YV→BH→Prop)→Prop
 |[],_,_,e,s,Q=>Q e s
 |⟨d,op,_,_,_,none⟩::rest,rs,ts,e,s,Q=>n7 (fun rs ts=>cA C true (fun v s=>YT C gs rest rs ts (yput e d v) s Q) (Em C.P C.eqs (yv e) op s)) (KQ s rs ts (yv e) op)
 |⟨d,op,_,_,_,some (j,w)⟩::rest,rs,ts,e,s,Q=>i7 (n7 (fun rs ts=>cA C true (fun v s=>YT C gs rest rs ts (yput e d v) s Q) (Em C.P C.eqs (yv e) op s)) (KQ s rs ts (yv e) op))
   (qB (YT C gs rest rs ts (yput e d (.tup [])) s Q) (Ir (yv e) op)) (HE gs e j w)
section
variable {C:Cx} {P:Program} {lo pin:Nat} {m m':Mp} {R R':Nat→Prop} {h h':H} {s s':BH} {e:List YV} {env:BF}
structure TrOk (pre:Tr) (m:Mp) (R:Nat→Prop) (h:H) (s:BH) (rs ts:List Nat):Prop where
 reads:∀r x,(some r,x)∈pre→R r∨∃(c:Nat) (cs:List Ce),c∈rs∧s[c]?=some (.box cs)∧m[c]?=some (some r)
 turns:∀t x,(x,some t)∈pre→t<h.n∧¬R t∧∀(c:Nat) (cs:List Ce),s[c]?=some (.box cs)→m[c]?=some (some t)→c∈ts
 pairs:∀r t x y,(some r,x)∈pre→(y,some t)∈pre→r≠t
theorem SRep.box (hs:SRep lo m R h s) {id:Nat} {cs:List Ce} {mb:Option Nat} (h1:s[id]?=some (.box cs)) (h2:m[id]?=some mb):∃b,mb=some b:=by
 obtain ⟨b,vs,h3,_⟩:=hs.ent _ _ _ h1 h2
 exact ⟨b,h3⟩
structure KeepB (s s':BH):Prop where
 on:∀(c:Nat) (cs:List Ce),s[c]?=some (.box cs)→∃cs',s'[c]?=some (.box cs')
 back:∀(c:Nat) (cs:List Ce),s'[c]?=some (.box cs)→(∃cs',s[c]?=some (.box cs'))∨s.length≤c∧∀(j:Nat) (f:Ent),s[j]?=some f→s'[j]?=some f
theorem KeepB.refl (s:BH):KeepB s s:=⟨fun c cs h=>⟨cs,h⟩,fun c cs h=>.inl ⟨cs,h⟩⟩
theorem KeepB.push (s:BH) (x:Ent):KeepB s (s++[x]):=⟨fun c cs h=>⟨cs,by rw [List.getElem?_append_left (Az h)];exact h⟩,fun c cs h=>by
 rcases EF h with ⟨_,h⟩|⟨h,_⟩
 ·exact .inl ⟨cs,h⟩
 ·exact .inr ⟨by omega,fun j f hj=>by rw [List.getElem?_append_left (Az hj)];exact hj⟩⟩
theorem KeepB.box {id:Nat} {cs cs':List Ce} (h1:s[id]?=some (.box cs)):KeepB s (s.set id (.box cs')):=⟨fun c xs h=>by
 by_cases hc:id=c
 ·subst hc;exact ⟨cs',by rw [List.getElem?_set,if_pos rfl,if_pos (Az h)]⟩
 ·exact ⟨xs,by rw [List.getElem?_set,if_neg hc];exact h⟩,fun c xs h=>by
 rcases CK h with ⟨rfl,_⟩|⟨_,h⟩
 ·exact .inl ⟨cs,h1⟩
 ·exact .inl ⟨xs,h⟩⟩
theorem KeepB.row {id z:Nat} {els:List (List PC)} {x:Ent} (hx:∀cs,x≠.box cs) (h1:s[id]?=some (.row z els)):KeepB s (s.set id x):=⟨fun c xs h=>by
 by_cases hc:id=c
 ·subst hc;rw [h1] at h;cases h
 ·exact ⟨xs,by rw [List.getElem?_set,if_neg hc];exact h⟩,fun c xs h=>by
 rcases CK h with ⟨rfl,h2⟩|⟨_,h2⟩
 ·exact absurd h2.symm (hx xs)
 ·exact .inl ⟨xs,h2⟩⟩
structure KeepS (s s':BH):Prop where
 len:s'.length=s.length
 on:∀(c:Nat) (cs:List Ce),s'[c]?=some (.box cs)↔s[c]?=some (.box cs)
theorem KeepS.refl (s:BH):KeepS s s:=⟨rfl,fun _ _=>Iff.rfl⟩
theorem KeepS.trans {a b c:BH} (h:KeepS a b) (k:KeepS b c):KeepS a c:=⟨k.len.trans h.len,fun i cs=>(k.on i cs).trans (h.on i cs)⟩
theorem KeepS.kill {id z:Nat} {els:List (List PC)} (h1:s[id]?=some (.row z els)):KeepS s (s.set id .dead):=⟨by simp,fun c cs=>by
 by_cases hc:id=c
 ·subst hc
  rw [h1]
  constructor
  ·intro h;rcases CK h with ⟨_,h2⟩|⟨h2,_⟩
   ·cases h2
   ·exact absurd rfl h2
  ·intro h;cases h
 ·rw [List.getElem?_set,if_neg hc]⟩
theorem KeepS.push {s':BH} (h:KeepS s s') {y:Nat} (els:List (List PC)):KeepB s (s'++[.row y els]):=⟨fun c xs hx=>⟨xs,by rw [List.getElem?_append_left (by rw [h.len];exact Az hx)];exact (h.on c xs).mpr hx⟩,fun c xs hx=>by
 rcases EF hx with ⟨_,h2⟩|⟨_,h2⟩
 ·exact .inl ⟨xs,(h.on c xs).mp h2⟩
 ·cases h2⟩
theorem TrOk.nil (s:BH):TrOk [] m R h s [] []:=⟨fun r x h=>by simp at h,fun t x h=>by simp at h,fun r t x y h=>by simp at h⟩
theorem TrOk.on {pre:Tr} {rs ts rs' ts':List Nat} {m1:Mp} {R1:Nat→Prop} {h1:H} {s1:BH} (k:TrOk pre m R h s rs ts) (hs:SRep lo m R h s) (hs1:SRep lo m1 R1 h1 s1) (hm:Co m m1) (st:Stp m R h s m1 R1 h1 s1)
  (hk:KeepB s s1) (hrd':∀b,R1 b→b<h.n→R b) (hrs:∀x,x∈rs→x∈rs') (hts:∀x,x∈ts→x∈ts'):TrOk pre m1 R1 h1 s1 rs' ts' where
 reads r x hx:=(k.reads r x hx).imp (st.rd r) fun ⟨c,cs,a,b,d⟩=>let ⟨cs',e⟩:=hk.on c cs b;⟨c,cs',hrs c a,e,hm _ _ d⟩
 turns t x hx:=by
  obtain ⟨a,b,d⟩:=k.turns t x hx
  refine ⟨Nat.lt_of_lt_of_le a st.n,fun hr=>b (hrd' t hr a),fun c cs g1 g2=>hts c ?_⟩
  rcases hk.back c cs g1 with ⟨cs',g3⟩|⟨g3,g4⟩
  ·have hc:=Az g3
   rw [←hs.len] at hc
   obtain ⟨b',hb'⟩:=hs.box g3 (List.getElem?_eq_getElem hc)
   have hmc:m[c]?=some (some b'):=by rw [List.getElem?_eq_getElem hc,hb']
   have:=hm _ _ hmc
   rw [g2] at this
   cases this
   exact d c cs' g3 hmc
  ·exfalso
   obtain ⟨j,f,j1,j2,j3⟩:=st.old t ⟨c,_,g1,by simp,g2⟩ a
   have:=hs1.inj c j _ f t g1 (g4 j f j1) (by simp) j2 g2 (hm _ _ j3)
   have:=Az j1
   omega
 pairs:=k.pairs
theorem Kl {α:Type} {xs:List α} {x y:α} (h:y∈xs++[x]):y∈xs∨y=x:=by simpa using h
theorem TrOk.add {pre:Tr} {rs ts rs' ts':List Nat} {a b:Option Nat} (k:TrOk pre m R h s rs ts) (hs:SRep lo m R h s) (hrs:∀x,x∈rs→x∈rs') (hts:∀x,x∈ts→x∈ts')
  (ha:∀r,a=some r→R r∨∃(c:Nat) (cs:List Ce),c∈rs'∧c∉ts∧s[c]?=some (.box cs)∧m[c]?=some (some r))
  (hb:∀t,b=some t→∃(i:Nat) (f:Ent),s[i]?=some f∧f≠.dead∧m[i]?=some (some t)∧((∃sz els,f=.row sz els)∨i∉rs∧i∈ts')) (hab:a=none∨b=none):TrOk (pre++[(a,b)]) m R h s rs' ts' where
 reads r x hx:=by
  rcases Kl hx with hx|hx
  ·exact (k.reads r x hx).imp (fun h=>h) fun ⟨c,cs,g,j⟩=>⟨c,cs,hrs c g,j⟩
  ·cases hx
   exact (ha r rfl).imp (fun h=>h) fun ⟨c,cs,g1,_,g3⟩=>⟨c,cs,g1,g3⟩
 turns t x hx:=by
  rcases Kl hx with hx|hx
  ·obtain ⟨p,q,d⟩:=k.turns t x hx
   exact ⟨p,q,fun c cs g1 g2=>hts c (d c cs g1 g2)⟩
  ·cases hx
   obtain ⟨i,f,g1,g2,g3,g4⟩:=hb t rfl
   have hB:Dl m s t:=⟨i,f,g1,g2,g3⟩
   refine ⟨hs.blkLt hB,hs.own t hB,fun c cs q1 q2=>?_⟩
   have:=hs.inj c i _ f t q1 g1 (by simp) g2 q2 g3
   subst this
   rcases g4 with ⟨sz,els,rfl⟩|⟨_,g4⟩
   ·rw [q1] at g1;cases g1
   ·exact g4
 pairs r t x y hx hy:=by
  rcases Kl hx with hx1|hx1<;>rcases Kl hy with hy1|hy1
  ·exact k.pairs r t x y hx1 hy1
  ·cases hy1
   obtain ⟨i,f,g1,g2,g3,g4⟩:=hb t rfl
   have hB:Dl m s t:=⟨i,f,g1,g2,g3⟩
   rintro rfl
   rcases k.reads r x hx1 with hr|⟨c,cs,q1,q2,q3⟩
   ·exact hs.own r hB hr
   ·have:=hs.inj c i _ f r q2 g1 (by simp) g2 q3 g3
    subst this
    rcases g4 with ⟨sz,els,rfl⟩|⟨g4,_⟩
    ·rw [q2] at g1;cases g1
    ·exact g4 q1
  ·cases hx1
   obtain ⟨p,q,d⟩:=k.turns t y hy1
   rintro rfl
   rcases ha r rfl with hr|⟨c,cs,q1,q2,q3,q4⟩
   ·exact q hr
   ·exact q2 (d c cs q3 q4)
  ·cases hx1
   cases hy1
   rcases hab with h|h<;>cases h
theorem WT.mono {gs:List (Option Nat)} {os:List Oper} {pre:Tr} {Q Q':BF→H→Tr→Prop} (hw:WT C lo gs os env h pre Q) (hq:∀e h tr,Q e h tr→Q' e h tr):WT C lo gs os env h pre Q':=
 let ⟨n,e',h',tr,h1,h2⟩:=hw;⟨n,e',h',tr,h1,hq _ _ _ h2⟩
end
end Go.Vx
