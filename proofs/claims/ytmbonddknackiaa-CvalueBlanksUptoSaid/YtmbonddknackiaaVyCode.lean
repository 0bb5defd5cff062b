/- Regions, code and calls among values as they are. -/
import Derived.Test.YtmbonddknackiaaVyApp
namespace Go.Vx
def YC (C:Cx) (draw:Bool) (f:FuncId) (args:List YV) (s:BH) (K:YV→BH→Prop):Prop:=
 ∀(lo:Nat) (m:Mp) (R:Nat→Prop) (h:H) (vals:List Value),SRep lo m R h s→L2 (Af m R h) args vals→
  G7 C (if draw then max lo h.n else lo) f vals h fun v h'=>∃m' R' s' y,K y s'∧SRep lo m' R' h' s'∧Af m' R' h' y v∧Stp m R h s m' R' h' s'∧Co m m'∧(draw=true→s'=s∧m'=m∧∀b,R' b→b<h.n→R b)
def cA (C:Cx) (draw:Bool) (K:YV→BH→Prop):Option (YOut×BH)→Prop
 |some (.val v,s)=>K v s
 |some (.call f args,s)=>YC C draw f args s K
 |none=>False
def yput (e:List YV) (d:Option Nat) (v:YV):List YV:=match d with|some d=>e.set d v|none=>e
def lA (w:Bool):Option YV→Option Bool
 |some (.c (.p (.d (.bool b))))=>some (b==w)
 |some (.tup [])=>some false
 |_=>none
noncomputable def pI (e:List YV) (w:Bool):Option (Option Nat)→Option Bool
 |some (some d)=>lA w (By e d)
 |_=>some false
noncomputable def HE (gs:List (Option Nat)) (e:List YV) (j:Nat) (w:Bool):Option Bool:=pI e w (By gs j)
def i7 (A B:Prop):Option Bool→Prop
 |some true=>A
 |some false=>B
 |none=>False
noncomputable def YG (C:Cx) (draw:Bool) (gs:List (Option Nat)):List Oper→List YV→BH→(List YV→BH→Prop)→Prop
 |[],e,s,Q=>Q e s
 |⟨d,op,_,_,_,none⟩::rest,e,s,Q=>cA C draw (fun v s=>YG C draw gs rest (yput e d v) s Q) (Em C.P C.eqs (yv e) op s)
 |⟨d,op,_,_,_,some (j,w)⟩::rest,e,s,Q=>i7 (cA C draw (fun v s=>YG C draw gs rest (yput e d v) s Q) (Em C.P C.eqs (yv e) op s)) (YG C draw gs rest (yput e d (.tup [])) s Q) (HE gs e j w)
def Gu (k:List YV→BH→Prop) (Q:X→List YV→BH→Prop):X→List YV→BH→Prop
 |.normal,e,s=>k e s
 |x,e,s=>Q x e s
def f5 (id:Nat) (Q:X→List YV→BH→Prop):X→List YV→BH→Prop
 |.exit i,e,s=>if i=id then Q .normal e s else Q (.exit i) e s
 |x,e,s=>Q x e s
def MO (A B:Prop):YV→Prop
 |.c (.p (.d (.bool true)))=>A
 |.c (.p (.d (.bool false)))=>B
 |_=>False
def JI (C:Cx) (pin:Nat) (c:Code) (e:List YV) (s:BH) (Q:X→List YV→BH→Prop):Prop:=
 ∀(lo:Nat) (m:Mp) (R:Nat→Prop) (h:H) (env:BF),SRep lo m R h s→L2 (Af m R h) e env→
  W C lo c env h fun x env' h'=>∃m' R' e' s',Q x e' s'∧SRep lo m' R' h' s'∧L2 (Af m' R' h') e' env'∧Stp m R h s m' R' h' s'∧∀(i b:Nat),i<pin→m[i]?=some (some b)→m'[i]?=some (some b)
def YL (C:Cx) (pin:Nat) (c:Code) (e:List YV) (s:BH) (Q:X→List YV→BH→Prop):Prop:=JI C pin (.loop c) e s Q
def YD (C:Cx) (pin:Nat) (id:Nat) (ops:Array Oper) (e:List YV) (s:BH) (Q:X→List YV→BH→Prop):Prop:=JI C pin (.region id ops true) e s Q
noncomputable def YW (C:Cx) (pin:Nat):Code→List YV→BH→(X→List YV→BH→Prop)→Prop
 |.skip,e,s,Q=>Q .normal e s
 |.ret,e,s,Q=>Q .ret e s
 |.exit id,e,s,Q=>Q (.exit id) e s
 |.seq a b,e,s,Q=>YW C pin a e s (Gu (fun e s=>YW C pin b e s Q) Q)
 |.cond t a b,e,s,Q=>MO (YW C pin a e s Q) (YW C pin b e s Q) (yv e t)
 |.block id c,e,s,Q=>YW C pin c e s (f5 id Q)
 |.region _ ops false,e,s,Q=>YG C false (ops.toList.map Oper.dst) ops.toList e s (Q .normal)
 |.region id ops true,e,s,Q=>YD C pin id ops e s Q
 |.loop c,e,s,Q=>YL C pin c e s Q
 |_,_,_,_=>False
section
variable {C:Cx} {lo pin:Nat} {m m':Mp} {R R':Nat→Prop} {h h':H} {s s':BH} {e:List YV} {env:BF}
theorem L2.vmono {e:List YV} {env:List Value} (hl:L2 (Af m R h) e env) (hm:Co m m') (hr:∀b,R b→R' b) (hg:∀b,R b→h'.get b=h.get b):L2 (Af m' R' h') e env:=
 hl.mono fun _ _ hp=>hp.mono hm hr hg
theorem L2.yput {v:YV} {v':Value} (hl:L2 (Af m R h) e env) (hv:Af m R h v v') (d:Option Nat):L2 (Af m R h) (yput e d v) (Fz env d v'):=by
 cases d with
 |none=>exact hl
 |some d=>exact hl.set hv d
theorem Qr {gs:List (Option Nat)} {j:Nat} {w b:Bool} (hl:L2 (Af m R h) e env) (hy:HE gs e j w=some b):JT gs env j w=b:=by
 unfold HE pI at hy
 unfold JT
 split at hy
 ·rename_i d hd
  rw [hd]
  simp only
  rw [Cf] at hy ⊢
  unfold lA at hy
  split at hy
  ·rename_i b' hb
   cases hy
   obtain ⟨v,h1,h2⟩:=hl.get hb
   rw [h1]
   generalize hu:Value.bool b'=u at h2
   cases h2
   subst hu
   rfl
  ·rename_i hb
   cases hy
   obtain ⟨v,h1,vs,rfl,h2⟩:=hl.get hb
   rw [h1]
  ·cases hy
 ·rename_i hne
  cases hy
  split
  ·rename_i d hd;exact absurd hd (hne d)
  ·rfl
theorem WG.mono {draw:Bool} {gs:List (Option Nat)} {os:List Oper} {Q Q':BF→H→Prop} (hw:WG C draw lo gs os env h Q) (hq:∀e h,Q e h→Q' e h):WG C draw lo gs os env h Q':=
 let ⟨n,e',h',h1,h2⟩:=hw;⟨n,e',h',h1,hq _ _ h2⟩
theorem JE {draw:Bool} {gs:List (Option Nat)}:∀{os:List Oper} {e:List YV} {s:BH} {Q:List YV→BH→Prop} {m:Mp} {R:Nat→Prop} {h:H} {env:BF},YG C draw gs os e s Q→SRep lo m R h s→L2 (Af m R h) e env→
  WG C draw lo gs os env h fun env' h'=>∃m' R' e' s',Q e' s'∧SRep lo m' R' h' s'∧L2 (Af m' R' h') e' env'∧Stp m R h s m' R' h' s'∧Co m m'
 |[],e,s,Q,m,R,h,env,hy,hs,he=>by
  rw [jY]
  exact ⟨m,R,e,s,hy,hs,he,Stp.refl _ _ _ _,Co.refl _⟩
 |⟨d,op,t,p,a,g⟩::rest,e,s,Q,m,R,h,env,hy,hs,he=>by
  have go:cA C draw (fun v s=>YG C draw gs rest (yput e d v) s Q) (Em C.P C.eqs (yv e) op s)→
    iU C draw lo gs rest d env (fun env' h'=>∃m' R' e' s',Q e' s'∧SRep lo m' R' h' s'∧L2 (Af m' R' h') e' env'∧Stp m R h s m' R' h' s'∧Co m m') (KJ C.P C.eqs lo (ev env) op h):=by
   intro hy0
   cases hr:Em C.P C.eqs (yv e) op s with
   |none=>rw [hr] at hy0;exact hy0.elim
   |some r=>
    obtain ⟨out,s1⟩:=r
    rw [hr] at hy0
    rcases XD hs (Kg he) hr with ⟨y,v',h1,rfl,hx,m1,R1,hs1,hv1,st,hm,_⟩|⟨f,args,vals,rfl,rfl,hx,ha⟩
    ·rw [hx,eI]
     have he1:=he.vmono (m':=m1) (h':=h1) (R':=R1) hm st.rd (hs.keepR st)
     refine WG.mono (JE (draw:=draw) (gs:=gs) (os:=rest) (Q:=Q) hy0 hs1 (he1.yput hv1 d)) ?_
     rintro env2 h2 ⟨m2,R2,e2,s2,q,k1,k2,k3,k4⟩
     exact ⟨m2,R2,e2,s2,q,k1,k2,st.trans k3,fun i b hb=>k4 i b (hm i b hb)⟩
    ·rw [hx,ZQ]
     refine G7.mono (hy0 lo m R h vals hs ha) ?_
     rintro v h1 ⟨m1,R1,s2,y,hk,hs1,hv1,st,hm,_⟩
     have he1:=he.vmono (m':=m1) (h':=h1) (R':=R1) hm st.rd (hs.keepR st)
     refine WG.mono (JE hk hs1 (he1.yput hv1 d)) ?_
     rintro env2 h2 ⟨m2,R2,e2,s2,q,k1,k2,k3,k4⟩
     exact ⟨m2,R2,e2,s2,q,k1,k2,st.trans k3,fun i b hb=>k4 i b (hm i b hb)⟩
  cases g with
  |none=>
   rw [eH]
   exact go hy
  |some g=>
   obtain ⟨j,w⟩:=g
   rw [dT]
   have hy':i7 (cA C draw (fun v s=>YG C draw gs rest (yput e d v) s Q) (Em C.P C.eqs (yv e) op s)) (YG C draw gs rest (yput e d (.tup [])) s Q) (HE gs e j w):=hy
   cases hg:HE gs e j w with
   |none=>rw [hg] at hy';exact hy'.elim
   |some b=>
    rw [hg] at hy'
    rw [Qr he hg]
    cases b with
    |true=>rw [X4];exact go hy'
    |false=>
     rw [W1]
     exact JE hy' hs (he.yput (v:=.tup []) ⟨[],rfl,L2.nil⟩ d)
end
end Go.Vx
