/- Appends, calls, and each operation. -/
import Derived.Test.YtmbonddknackiaaVyMake
namespace Go.Vx
section
variable {P:Program} {lo:Nat} {m:Mp} {R:Nat→Prop} {h:H} {s:BH}
theorem SRep.kill (hs:SRep lo m R h s) (i:Nat):SRep lo m R h (s.set i .dead)∧Stp m R h s m R h (s.set i .dead):=by
 have hblk:∀c,Dl m (s.set i Ent.dead) c→Dl m s c:=by
  rintro c ⟨j,f,g1,g2,g3⟩
  rcases CK g1 with ⟨rfl,rfl⟩|⟨hj,g1⟩
  ·exact absurd rfl g2
  ·exact ⟨j,f,g1,g2,g3⟩
 refine ⟨⟨by simp [hs.len],fun j f mb g1 g2=>?_,fun j k f g c g1 g2 hf hg g3 g4=>?_,fun c hc hr=>hs.own c (hblk c hc) hr,hs.rd,hs.lo⟩,
  ⟨Nat.le_refl _,fun _ _ _=>rfl,fun c hc _=>hblk c hc,fun _ h=>h,fun _ h _=>.inl h⟩⟩
 ·rcases CK g1 with ⟨rfl,rfl⟩|⟨hj,g1⟩
  ·trivial
  ·exact hs.ent j f mb g1 g2
 ·rcases CK g1 with ⟨rfl,rfl⟩|⟨hj,g1⟩
  ·exact absurd rfl hf
  rcases CK g2 with ⟨rfl,rfl⟩|⟨hk,g2⟩
  ·exact absurd rfl hg
  exact hs.inj j k f g c g1 g2 hf hg g3 g4
theorem SRep.push0 (hs:SRep lo m R h s) (sz:Nat):SRep lo (m++[none]) R h (s++[.row sz []])∧Stp m R h s (m++[none]) R h (s++[.row sz []]):=by
 have key:∀(j:Nat) (f:Ent) (c:Nat),(s++[Ent.row sz []])[j]?=some f→(m++[none])[j]?=some (some c)→s[j]?=some f∧m[j]?=some (some c):=by
  intro j f c g1 g2
  rcases EF g1 with ⟨hj,g1⟩|⟨hj,g1⟩
  ·rw [List.getElem?_append_left (by rw [hs.len];exact hj)] at g2;exact ⟨g1,g2⟩
  ·rw [hj,←hs.len] at g2;simp at g2
 have hblk:∀c,Dl (m++[none]) (s++[Ent.row sz []]) c→Dl m s c:=by
  rintro c ⟨j,f,g1,g2,g3⟩
  obtain ⟨a,b⟩:=key j f c g1 g3
  exact ⟨j,f,a,g2,b⟩
 refine ⟨⟨by simp [hs.len],fun j f mb g1 g2=>?_,fun j k f g c g1 g2 hf hg g3 g4=>?_,fun c hc hr=>hs.own c (hblk c hc) hr,hs.rd,hs.lo⟩,
  ⟨Nat.le_refl _,fun _ _ _=>rfl,fun c hc _=>hblk c hc,fun _ h=>h,fun _ h _=>.inl h⟩⟩
 ·rcases EF g1 with ⟨hj,g1⟩|⟨hj,g1⟩
  ·rw [List.getElem?_append_left (by rw [hs.len];exact hj)] at g2
   exact (hs.ent j f mb g1 g2).mono (Co.push _ _) (fun _ h=>h) (fun _ _=>rfl) fun _ _=>rfl
  ·rw [hj,←hs.len] at g2;simp at g2;subst g1;subst g2;exact .inl ⟨rfl,rfl⟩
 ·obtain ⟨a1,a2⟩:=key j f c g1 g3
  obtain ⟨b1,b2⟩:=key k g c g2 g4
  exact hs.inj j k f g c a1 b1 hf hg a2 b2
theorem O7 (hs:SRep lo m R h s) {x:YV} {v:Value} {sz:Nat} {src:List (List PC)} (h0:sz≠0) (hv:Af m R h x v) (hy:FU s sz x=some src):
  ∃vals,EW h sz v=some (src.length,vals)∧L2 (PRep R h) src.flatten vals∧∀cs,cs∈src→cs.length=sz:=by
 unfold FU at hy
 split at hy
 ·cases hy;cases hv;exact ⟨[],rfl,L2.nil,fun cs hc=>by simp at hc⟩
 ·rename_i b
  split at hy
  ·rename_i hz
   subst hz
   cases hy;cases hv
   exact ⟨_,by simp only [EW,if_true,List.length_map,DT,CD],Pj b,NJ b⟩
  ·cases hy
 ·split at hy
  ·rename_i z els hr
   split at hy
   ·rename_i hz
    subst hz
    cases hy
    rcases GU hs hv hr with ⟨rfl,rfl⟩|⟨b,off,blk,rfl,k1,k2⟩
    ·exact ⟨[],rfl,L2.nil,fun cs hc=>by simp at hc⟩
    ·exact ⟨_,by simp only [EW,H.getK_eq,k1];rw [if_pos k2.bound],k2.at_,k2.each⟩
   ·cases hy
  ·cases hy
theorem Lay.app {els src:List (List PC)} {sz len:Nat} {vs vals:List Value} (hl:Lay R h vs 0 sz els) (hlen:len≤els.length) (he:∀cs,cs∈src→cs.length=sz) (hv:L2 (PRep R h) src.flatten vals):
  (∀cs,cs∈els.take len++src→cs.length=sz)∧L2 (PRep R h) (els.take len++src).flatten ((vs.drop 0).take (len*sz)++vals):=by
 have h1:=hl.sub (a:=0) (n:=len) (by omega)
 rw [List.drop_zero,Nat.zero_mul,Nat.add_zero] at h1
 have hn:(els.take len).length=len:=by simp;omega
 refine ⟨fun cs hc=>?_,?_⟩
 ·rcases List.mem_append.mp hc with hc|hc
  ·exact h1.each cs hc
  ·exact he cs hc
 ·have h2:=h1.at_
  rw [hn] at h2
  rw [List.flatten_append]
  exact h2.append hv
theorem J3 (hs:SRep lo m R h s) {t xt:TypeId} {sv x:YV} {v vx:Value} (hv:Af m R h sv v) (hx:Af m R h x vx) {out:YOut} {s':BH} (hy:H5 P t xt sv x s=some (out,s')):
  ∃y v' h',out=.val y∧Fq (EZ P lo t xt v vx h)=some (.val v',h')∧Mo lo m R h s y s' v' h':=by
 unfold H5 at hy
 split at hy
 ·cases hy
 rename_i e he
 split at hy
 ·cases hy
 rename_i z hz
 obtain ⟨u,z1,z2,z3⟩:=Hk hz
 subst z2
 split at hy
 ·rename_i hc
  obtain ⟨c1,c2,c3,c4⟩:=hc
  split at hy
  ·cases hy
  rename_i src hsrc
  obtain ⟨vals,k1,k2,k3⟩:=O7 hs c1 hx hsrc
  unfold EZ
  simp only [he]
  rw [if_neg (by rw [c3];simp [c1,c2])]
  simp only [z1]
  rw [if_neg (by simp [c4])]
  simp only [k1]
  split at hy
  ·split at hy
   ·rename_i hb
    cases hy;cases hv
    cases src with
    |nil=>
     obtain ⟨g1,g2⟩:=hs.push0 (Ab P e)
     exact ⟨_,_,_,rfl,rfl,_,g1,⟨c1,.inl ⟨rfl,rfl,rfl⟩⟩,g2,Co.push _ _⟩
    |cons a src=>
     simp only [List.length_cons] at hb ⊢
     rw [if_pos hb]
     exact ⟨_,_,_,rfl,rfl,Gc hs c1 k3 k2⟩
   ·cases hy
  ·rename_i id sz off len
   rw [Cf] at hy
   split at hy
   ·rename_i z els hen
    split at hy
    ·rename_i hcc
     obtain ⟨rfl,hsz,rfl,d3,d4⟩:=hcc
     cases hy
     have hid:=Az hen
     rw [←hs.len] at hid
     have hmid:m[id]?=some m[id]:=List.getElem?_eq_getElem hid
     cases src with
     |nil=>
      simp only [List.append_nil,List.length_nil,Nat.add_zero]
      have hent:JH lo (m++[m[id]]) R h (.row z (els.take len)) m[id]:=by
       rcases hs.ent _ _ _ hen hmid with ⟨e1,e2⟩|⟨b',vs,e1,e2,h3,h4⟩
       ·exact .inl ⟨e1,by rw [e2];simp⟩
       ·refine .inr ⟨b',vs,e1,e2,h3,?_⟩
        have h5:=h4.sub (a:=0) (n:=len) (by omega)
        rw [List.drop_zero,Nat.zero_mul,Nat.add_zero] at h5
        exact h5
      obtain ⟨g1,g2⟩:=hs.alias hen (by simp) hmid hent
      rcases hv with ⟨hz0,⟨rfl,_,rfl⟩|⟨b,hm,rfl⟩⟩
      ·exact ⟨_,_,_,rfl,rfl,_,g1,⟨hz0,.inl ⟨rfl,rfl,rfl⟩⟩,g2,Co.push _ _⟩
      ·refine ⟨_,_,_,rfl,rfl,_,g1,⟨hz0,.inr ⟨b,?_,rfl⟩⟩,g2,Co.push _ _⟩
       rw [hs.mlen];rw [hm] at hmid;exact hmid.symm
     |cons a src=>
      simp only [List.length_cons] at d4 ⊢
      rcases hv with ⟨hz0,⟨rfl,_,rfl⟩|⟨b,hm,rfl⟩⟩
      ·obtain ⟨g1,g2⟩:=hs.kill id
       simp only [Nat.zero_add,List.take_zero,List.nil_append] at d4 ⊢
       rw [←hsz] at k3 c1
       rw [if_pos d4]
       rw [←hsz]
       obtain ⟨m',p1,p2,p3,p4⟩:=Gc g1 c1 k3 k2
       rw [show (s.set id Ent.dead).length=s.length by simp] at p2
       exact ⟨_,_,_,rfl,rfl,m',p1,p2,g2.trans p3,p4⟩
      ·rcases hs.ent _ _ _ hen hm with ⟨e1,_⟩|⟨b',vs,e1,e2,h3,h4⟩
       ·cases e1
       cases e1
       have hbd:=h4.bound
       have hmm:len*z≤els.length*z:=Nat.mul_le_mul_right _ d3
       simp only [H.getK_eq,h3,Nat.zero_mul]
       rw [if_pos ⟨trivial,e2,hsz,by rw [←hsz];omega,d4⟩]
       obtain ⟨g1,g2⟩:=hs.set (e':=.dead) (x:=none) hen (by simp) hm trivial
       rw [←hsz] at k3
       have hRk:∀c,R c→(h.put b none).get c=h.get c:=fun c hc=>H.get_put_ne _ (H.get_lt h3) fun he'=>by
        subst he';exact hs.own c ⟨_,_,hen,by simp,hm⟩ hc
       obtain ⟨a1,a2⟩:=Lay.app (h4.mono (fun _ h=>h) hRk) d3 k3 (k2.prep_mono (fun _ h=>h) hRk)
       obtain ⟨m',p1,p2,p3,p4⟩:=Gc g1 hz0 a1 a2
       rw [show (s.set id Ent.dead).length=s.length by simp] at p2
       have hlen2:(els.take len++a::src).length=len+(src.length+1):=by simp;omega
       rw [hlen2] at p2
       rw [←hsz]
       refine ⟨_,_,_,rfl,rfl,m',?_,?_,?_,p4⟩
       ·exact p1
       ·exact p2
       ·exact g2.trans p3
    ·cases hy
   ·cases hy
  ·cases hy
 ·cases hy
theorem L2.args {ρ:Operand→YV} {σ:Operand→Value} (hρ:∀o,Af m R h (ρ o) (σ o)):∀os:List Operand,L2 (Af m R h) (os.map ρ) (os.map σ)
 |[]=>L2.nil
 |o::os=>(L2.args hρ os).cons (hρ o)
theorem XD (hs:SRep lo m R h s) {eqs:List TypeId} {ρ:Operand→YV} {σ:Operand→Value} (hρ:∀o,Af m R h (ρ o) (σ o)) {op:Op} {out:YOut} {s':BH} (hy:Em P eqs ρ op s=some (out,s')):
  (∃y v' h',out=.val y∧KJ P eqs lo σ op h=some (.val v',h')∧T9 lo m R h s y s' v' h' (Rx ρ op))∨
  (∃f args vals,out=.call f args∧s'=s∧KJ P eqs lo σ op h=some (.call f vals,h)∧L2 (Af m R h) args vals):=by
 have res:∀{r:Option YV} {r':Option Value},Jn s r=some (out,s')→(∀x,r=some x→∃v,r'=some v∧Af m R h x v)→∀fz,∃y v' h',out=.val y∧De h r'=some (.val v',h')∧T9 lo m R h s y s' v' h' fz:=by
  intro r r' hy hk fz
  unfold Jn at hy
  split at hy
  ·rename_i x
   cases hy
   obtain ⟨v,h1,h2⟩:=hk x rfl
   subst h1
   exact ⟨x,v,h,rfl,rfl,(Mo.same hs h2).did' fz⟩
  ·cases hy
 have did:∀{r:Option (Out×H)} {fz:Bool},(∃y v' h',out=.val y∧r=some (.val v',h')∧Mo lo m R h s y s' v' h')→∃y v' h',out=.val y∧r=some (.val v',h')∧T9 lo m R h s y s' v' h' fz:=
  fun ⟨y,v',h',k1,k2,k3⟩=>⟨y,v',h',k1,k2,k3.did' _⟩
 cases op<;>simp only [Em] at hy
 case move x=>cases hy;exact .inl (did ⟨_,_,_,rfl,rfl,Mo.same hs (hρ x)⟩)
 case assign x=>cases hy;exact .inl (did ⟨_,_,_,rfl,rfl,Mo.same hs (hρ x)⟩)
 case pick c a b=>exact .inl (res hy (fun x hx=>TL (hρ c) (hρ a) (hρ b) hx) _)
 case alloc t=>exact .inl (did (QU hs hy))
 case box t x=>exact .inl (did (Uo hs (hρ x) hy))
 case build t parts=>exact .inl (res hy (fun x hx=>RK hρ hx) _)
 case buildSlice t len parts=>exact .inl (LR hs hρ hy)
 case load t a=>exact .inl (res hy (fun x hx=>MT hs (hρ a) hx) _)
 case store t a v=>exact .inl (did (Qy hs (hρ a) (hρ v) hy))
 case nilCheck x=>exact .inl (res hy (fun y hx=>VD (hρ x) hx) _)
 case binOp op t x y p=>exact .inl (res hy (fun z hz=>Un (hρ x) (hρ y) hz) _)
 case unOp op t x=>exact .inl (res hy (fun z hz=>Xm (hρ x) hz) _)
 case convert sT d x=>exact .inl (did (OQ hs (hρ x) hy))
 case slice t x l hi mx=>
  cases mx with
  |some mx=>cases hy
  |none=>
   simp only at hy
   split at hy
   ·rename_i a b h1 h2
    have e1:a=l.map σ:=by
     cases l with
     |none=>cases h1;rfl
     |some l=>
      simp only [Option.map_eq_some_iff] at h1
      obtain ⟨v,hv,rfl⟩:=h1
      rw [Option.map_some,((hρ l).dv hv).1]
    have e2:b=hi.map σ:=by
     cases hi with
     |none=>cases h2;rfl
     |some l=>
      simp only [Option.map_eq_some_iff] at h2
      obtain ⟨v,hv,rfl⟩:=h2
      rw [Option.map_some,((hρ l).dv hv).1]
    subst e1;subst e2
    exact .inl (res hy (fun z hz=>by
     obtain ⟨u,k1,k2⟩:=Qm (hρ x) hz
     exact ⟨u,by simp only [NA,Option.map_none];exact k1,k2⟩) _)
   ·cases hy
 case fieldAddr t x f=>exact .inl (res hy (fun z hz=>Lp (hρ x) hz) _)
 case field t x f=>exact .inl (res hy (fun z hz=>Qg (hρ x) hz) _)
 case indexAddr t x i=>exact .inl (res hy (fun z hz=>Lr (hρ x) (hρ i) hz) _)
 case index t x i=>exact .inl (res hy (fun z hz=>Qf (hρ x) (hρ i) hz) _)
 case extract x i=>exact .inl (res hy (fun z hz=>N5 (hρ x) hz) _)
 case makeSlice t l c=>exact .inl (did (Rr hs (hρ l) (hρ c) hy))
 case call c=>
  unfold WY at hy
  show _∨∃f args vals,out=.call f args∧s'=s∧FD P lo σ c h=some (.call f vals,h)∧L2 (Af m R h) args vals
  split at hy
  ·rename_i f hf
   split at hy
   ·rename_i f' a b hff
    split at hy
    ·rename_i hc
     cases hy
     have hk:=hρ f
     rw [hff] at hk
     have hv:σ f=.func (.func f') a b:=by generalize σ f=u at hk;cases hk;rfl
     refine .inr ⟨f',_,_,rfl,rfl,?_,L2.args hρ c.args.toList⟩
     simp only [FD,hf,hv,F9,hc,if_true]
    ·cases hy
   ·cases hy
  ·rename_i hf
   refine .inl ?_
   show ∃y v' h',out=.val y∧FD P lo σ c h=some (.val v',h')∧T9 lo m R h s y s' v' h' _
   simp only [FD,hf]
   split at hy
   ·split at hy
    ·rename_i x xs h2
     simp only [‹c.argTypes.toList=_›,h2]
     exact res hy (fun z hz=>Uw (hρ _) hz) _
    ·cases hy
   ·cases hy
  ·rename_i hf
   refine .inl ?_
   show ∃y v' h',out=.val y∧FD P lo σ c h=some (.val v',h')∧T9 lo m R h s y s' v' h' _
   simp only [FD,hf]
   split at hy
   ·split at hy
    ·rename_i a x h2
     simp only [‹c.argTypes.toList=_›,h2]
     exact did (J3 hs (hρ _) (hρ _) hy)
    ·cases hy
   ·cases hy
  ·cases hy
 all_goals cases hy
end
end Go.Vx
