/- Operations that turn nothing. -/
import Derived.Test.YtmbonddknackiaaVyStep
namespace Go.Vx
section
variable {P:Program} {lo:Nat} {m:Mp} {R:Nat→Prop} {h:H} {s:BH}
theorem Kg {e:List YV} {env:BF} (he:L2 (Af m R h) e env) (o:Operand):Af m R h (yv e o) (ev env o):=by
 cases o with
 |tmp t=>
  show Af m R h (Gi e (.c .top) t) (Gi env undef t)
  rw [F0,F0,List.getD,List.getD]
  cases hx:e[t]? with
  |none=>exact Af.top _
  |some x=>
   obtain ⟨b,hb,hr⟩:=he.get hx
   rw [hb];exact hr
 |const v=>
  show Af m R h (Fy v) v
  unfold Fy
  cases hd:dry v with
  |true=>exact Af.yd hd
  |false=>
   simp only
   cases v with
   |agg cs=>
    simp only
    cases hc:cs.toList.all dry with
    |true=>exact ⟨cs.toList,rfl,L2.pds hc⟩
    |false=>exact Af.top _
   |_=>exact Af.top _
 |global g=>exact Af.top _
 |func f=>exact Af.yd rfl
theorem TL {c a b x:YV} {vc va vb:Value} (hc:Af m R h c vc) (ha:Af m R h a va) (hb:Af m R h b vb) (hy:Sz c a b=some x):∃v,Li vc va vb=some v∧Af m R h x v:=by
 unfold Sz at hy
 split at hy
 ·cases hy;cases hc;exact ⟨_,rfl,ha⟩
 ·cases hy;cases hc;exact ⟨_,rfl,hb⟩
 ·cases hy
theorem Kx (hs:SRep lo m R h s) {a:YV} {va:Value} {cs:List Ce} (ha:Af m R h a va) (hy:Fu s a=some cs) (hne:cs≠[]):
  ∃b o blk,va=.pointer (some ⟨b,o,none⟩)∧h.get b=some blk∧o+cs.length≤blk.cells.length∧L2 (CI m R h) cs ((blk.cells.drop o).take cs.length):=by
 unfold Fu at hy
 split at hy
 ·rename_i id sz i off
  obtain ⟨b,hm,rfl⟩:=ha
  rw [Cf] at hy
  split at hy
  ·rename_i cs0 he
   obtain ⟨b',vs,e1,_,h3,h4⟩:=hs.ent _ _ _ he hm
   cases e1
   split at hy
   ·cases hy
    have hl:=h4.1
    have hoff:off<cs0.length:=by apply Classical.byContradiction;intro hc;exact hne (List.drop_of_length_le (by omega))
    refine ⟨b,off,_,by simp,h3,by simp [hl];omega,?_⟩
    rw [List.take_of_length_le (by simp [hl])]
    exact h4.drop off
   ·cases hy
  ·rename_i z els he
   split at hy
   ·rename_i hz
    subst hz
    split at hy
    ·rename_i cs0 hi
     cases hy
     rcases hs.ent _ _ _ he hm with ⟨e1,_⟩|⟨b',vs,e1,_,h3,h4⟩
     ·cases e1
     cases e1
     obtain ⟨k1,k2,k3⟩:=h4.elem hi
     have hoff:off<cs0.length:=by apply Classical.byContradiction;intro hc;exact hne (by rw [List.drop_of_length_le (by omega)];rfl)
     refine ⟨b,i*z+off,_,rfl,h3,by simp;omega,?_⟩
     have k4:=k3.drop off
     rw [Nat.zero_add,List.drop_take,List.drop_drop] at k4
     rw [List.length_map,List.length_drop,k2]
     exact L2.mapl k4
    ·cases hy
   ·cases hy
  ·cases hy
 ·rename_i cs0
  cases hy
  obtain ⟨b,o,blk,h1,h2,h3,h4,h5⟩:=ha
  exact ⟨b,o,blk,h3,h2,by simpa using h4,by rw [List.length_map];exact L2.mapl h5⟩
 ·cases hy
theorem MT (hs:SRep lo m R h s) {a x:YV} {va:Value} {t:TypeId} (ha:Af m R h a va) (hy:NT P t s a=some x):∃v,G0 P t h va=some v∧Af m R h x v:=by
 unfold NT at hy
 split at hy
 ·rename_i c cs hc
  obtain ⟨b,o,blk,rfl,h1,h2,h3⟩:=Kx hs ha hc (by simp)
  simp only [List.length_cons] at h2 h3
  split at hy
  ·rename_i ht
   split at hy
   ·rename_i hl
    cases hy
    simp only [G0,H.getK_eq,h1,ht]
    rw [if_pos (by omega)]
    refine ⟨_,rfl,_,rfl,?_⟩
    have h4:=h3.take (Ab P t)
    rw [List.take_take,Nat.min_eq_left hl] at h4
    exact h4
   ·cases hy
  ·rename_i ht
   cases hy
   simp only [G0,H.getK_eq,h1,ht]
   obtain ⟨v,hv,hr⟩:=h3.get (i:=0) (a:=c) rfl
   rw [List.getElem?_take,if_pos (by omega),List.getElem?_drop] at hv
   exact ⟨v,hv,hr⟩
  ·cases hy
 ·cases hy
theorem VD {a x:YV} {va:Value} (ha:Af m R h a va) (hy:Qc a=some x):∃v,P0 va=some v∧Af m R h x v:=by
 unfold Qc at hy
 split at hy
 ·cases hy;have:=ha;obtain ⟨b,_,rfl⟩:=ha;exact ⟨_,rfl,this⟩
 ·cases hy;have:=ha;obtain ⟨b,o,blk,_,_,rfl,_⟩:=ha;exact ⟨_,rfl,this⟩
 ·cases hy
theorem Un {eqs:List TypeId} {op:BinOp} {t:TypeId} {a b x:YV} {va vb:Value} (ha:Af m R h a va) (hb:Af m R h b vb) (hy:bL P eqs op t a b=some x):∃v,EH P eqs op t va vb=some v∧Af m R h x v:=by
 unfold bL at hy
 split at hy
 ·rename_i u w hu hw
  have e1:=ha.dvA hu
  have e2:=hb.dvA hw
  subst e1;subst e2
  split at hy
  ·rename_i v hv
   obtain ⟨rfl,hd⟩:=Id hy
   exact ⟨v,hv,Af.yd hd⟩
  ·cases hy
 ·cases hy
theorem Xm {op:UnOp} {a x:YV} {va:Value} (ha:Af m R h a va) (hy:lM op a=some x):∃v,VT op va=some v∧Af m R h x v:=by
 unfold lM at hy
 split at hy
 ·rename_i u hu
  obtain ⟨rfl,_⟩:=ha.dv hu
  split at hy
  ·rename_i v hv
   obtain ⟨rfl,hd⟩:=Id hy
   exact ⟨v,hv,Af.yd hd⟩
  ·cases hy
 ·cases hy
theorem GU (hs:SRep lo m R h s) {x:YV} {v:Value} {sz:Nat} {els:List (List PC)} (hv:Af m R h x v) (hy:ES s x=some (sz,els)):
  (v=.slice none 0 0∧els=[])∨∃b off blk,v=.slice (some ⟨b,off,none⟩) els.length sz∧h.get b=some blk∧Lay R h blk.cells off sz els:=by
 unfold ES at hy
 split at hy
 ·cases hy
  rcases PRep.lay hv with h1|⟨b,off,blk,h1,_,h2,h3⟩
  ·exact .inl h1
  ·exact .inr ⟨b,off,blk,h1,h2,h3⟩
 ·rename_i id z off len
  rw [Cf] at hy
  split at hy
  ·rename_i z els0 he
   split at hy
   ·rename_i hz
    obtain ⟨hz,hlen⟩:=hz
    subst hz
    cases hy
    rcases hv with ⟨_,⟨rfl,rfl,rfl⟩|⟨b,hm,rfl⟩⟩
    ·exact .inl ⟨rfl,by simp⟩
    ·rcases hs.ent _ _ _ he hm with ⟨e1,_⟩|⟨b',vs,e1,_,h3,h4⟩
     ·cases e1
     cases e1
     have h5:=h4.sub hlen
     rw [Nat.zero_add] at h5
     exact .inr ⟨b,_,_,by simp;omega,h3,h5⟩
   ·cases hy
  ·cases hy
 ·cases hy
theorem Qm {t:TypeId} {x y:YV} {v:Value} {l hi:Option Value} (hv:Af m R h x v) (hy:GS P t x l hi=some y):∃u,Aw P t v l hi=some u∧Af m R h y u:=by
 unfold GS at hy
 split at hy
 ·cases hv
  split at hy
  ·rename_i u hu
   obtain ⟨rfl,hd⟩:=Id hy
   exact ⟨u,hu,Af.yd hd⟩
  ·cases hy
 ·rename_i sz els
  split at hy
  ·rename_i e a b h1 h2 h3
   split at hy
   ·rename_i hc
    obtain ⟨c1,c2,c3,c4,c5⟩:=hc
    cases hy
    rcases PRep.lay hv with ⟨rfl,rfl⟩|⟨b',off,blk,rfl,k1,k2,k3⟩
    ·simp only [List.length_nil] at h3 c3
     simp only [Aw,h1,h2,h3]
     rw [if_pos ⟨c1,c2,c3,c4⟩]
     exact ⟨_,rfl,by simp;exact PRep.nil⟩
    ·simp only [Aw,h1,h2,h3]
     rw [if_pos ⟨c1,c2,c3,c4⟩,if_pos c5]
     refine ⟨_,rfl,?_⟩
     have hl:((els.drop a.toNat).take (b.toNat - a.toNat)).length=b.toNat - a.toNat:=by simp;omega
     have:=Lay.prep k1 k2 (k3.sub (a:=a.toNat) (n:=b.toNat - a.toNat) (by omega))
     rw [hl] at this
     exact this
   ·cases hy
  ·cases hy
 ·rename_i id sz off len
  split at hy
  ·rename_i e a b h1 h2 h3
   split at hy
   ·rename_i hc
    obtain ⟨c1,c2,c3,c4,c5⟩:=hc
    cases hy
    rcases hv with ⟨hz,⟨rfl,rfl,rfl⟩|⟨b',hm,rfl⟩⟩
    ·simp only [Aw,h1,h2,h3]
     rw [if_pos ⟨c1,c2,c3,c4⟩]
     exact ⟨_,rfl,hz,.inl ⟨rfl,by omega,by omega⟩⟩
    ·simp only [Aw,h1,h2,h3]
     rw [if_pos ⟨c1,c2,c3,c4⟩,if_pos c5]
     exact ⟨_,rfl,hz,.inr ⟨b',hm,by rw [Nat.add_mul]⟩⟩
   ·cases hy
  ·cases hy
 ·cases hy
theorem Lp {t:TypeId} {f:Nat} {x y:YV} {v:Value} (hv:Af m R h x v) (hy:GW P t f x=some y):∃u,C8 P t f v=some u∧Af m R h y u:=by
 unfold GW at hy
 split at hy
 ·rename_i o ft hf
  split at hy
  ·cases hy
  ·rename_i hz
   split at hy
   ·rename_i id sz i off
    cases hy
    obtain ⟨b,hm,rfl⟩:=hv
    simp only [C8,hf]
    rw [if_neg hz]
    exact ⟨_,rfl,b,hm,by rw [Nat.add_assoc]⟩
   ·rename_i cs
    split at hy
    ·rename_i ho
     cases hy
     obtain ⟨b,o',blk,h1,h2,rfl,h3,h4⟩:=hv
     simp only [C8,hf]
     rw [if_neg hz]
     refine ⟨_,rfl,b,o'+o,blk,h1,h2,rfl,by simp;omega,?_⟩
     have h5:=h4.drop o
     rw [List.drop_take,List.drop_drop] at h5
     rw [List.length_drop];exact h5
    ·cases hy
   ·cases hy
 ·cases hy
theorem Ma {t:TypeId} {cs:List Ce} {vs:List Value} {off:Nat} {y:YV} (hl:L2 (CI m R h) cs vs) (hy:Pb P t cs off=some y):∃u,Ka P t vs off=some u∧Af m R h y u:=by
 unfold Pb at hy
 unfold Ka
 split at hy
 ·rename_i ht;cases hy;rw [ht];exact ⟨_,rfl,_,rfl,(hl.drop off).take _⟩
 ·rename_i ht
  split at hy
  ·rename_i c hc
   cases hy
   rw [ht]
   obtain ⟨u,hu,hr⟩:=hl.get hc
   exact ⟨u,hu,hr⟩
  ·cases hy
 ·cases hy
theorem Qg {t:TypeId} {f:Nat} {x y:YV} {v:Value} (hv:Af m R h x v) (hy:KP P t f x=some y):∃u,Gq P t f v=some u∧Af m R h y u:=by
 unfold KP at hy
 split at hy
 ·obtain ⟨vs,rfl,hl⟩:=hv
  split at hy
  ·rename_i hf
   simp only [Gq,hf]
   exact Ma hl hy
  ·cases hy
 ·cases hy
theorem Lr {t:TypeId} {x i y:YV} {v vi:Value} (hv:Af m R h x v) (hi:Af m R h i vi) (hy:GN P t x i=some y):∃u,CL P t v vi=some u∧Af m R h y u:=by
 unfold GN at hy
 split at hy
 ·rename_i k n hd
  obtain ⟨rfl,_⟩:=hi.dv hd
  split at hy
  ·rename_i id sz off len
   split at hy
   ·rename_i e he
    split at hy
    ·rename_i hc
     obtain ⟨c1,c2,c3,c4⟩:=hc
     cases hy
     rcases hv with ⟨hz,⟨rfl,rfl,rfl⟩|⟨b',hm,rfl⟩⟩
     ·exfalso;omega
     ·simp only [CL,he]
      rw [if_pos ⟨c1,c2,c3,c4⟩]
      exact ⟨_,rfl,b',hm,by rw [c3,Nat.add_mul];rfl⟩
    ·cases hy
   ·cases hy
  ·rename_i sz els
   split at hy
   ·rename_i e he
    split at hy
    ·rename_i hc
     obtain ⟨c1,c3,c4⟩:=hc
     split at hy
     ·rename_i cs hcs
      cases hy
      have hlt:=Az hcs
      rcases PRep.lay hv with ⟨rfl,rfl⟩|⟨b',off,blk,rfl,k1,k2,k3⟩
      ·simp at hcs
      ·simp only [CL,he]
       rw [if_pos ⟨c1,by omega,c3,c4⟩]
       obtain ⟨k4,k5,k6⟩:=k3.elem hcs
       refine ⟨_,rfl,b',_,blk,k1,k2,rfl,?_,?_⟩
       ·rw [c3,k5];omega
       ·rw [c3,k5];exact k6
     ·cases hy
    ·cases hy
   ·cases hy
  ·rename_i id sz i0 off
   obtain ⟨b,hm,rfl⟩:=hv
   split at hy
   ·rename_i len e he
    split at hy
    ·rename_i hc
     cases hy
     simp only [CL,he]
     rw [if_pos hc]
     exact ⟨_,rfl,b,hm,by rw [Nat.add_assoc]⟩
    ·cases hy
   ·cases hy
  ·rename_i cs
   obtain ⟨b,o',blk,h1,h2,rfl,h3,h4⟩:=hv
   split at hy
   ·rename_i len e he
    split at hy
    ·rename_i hc
     obtain ⟨c1,c2,c3,c4⟩:=hc
     cases hy
     simp only [CL,he]
     rw [if_pos ⟨c1,c2,c3⟩]
     refine ⟨_,rfl,b,_,blk,h1,h2,rfl,by simp;omega,?_⟩
     have h5:=h4.drop (n.toNat*Ab P e)
     rw [List.drop_take,List.drop_drop] at h5
     rw [List.length_drop];exact h5
    ·cases hy
   ·cases hy
  ·cases hy
 ·cases hy
theorem Qf {t:TypeId} {x i y:YV} {v vi:Value} (hv:Af m R h x v) (hi:Af m R h i vi) (hy:Nr P t x i=some y):∃u,AV P t v vi=some u∧Af m R h y u:=by
 unfold Nr at hy
 split at hy
 ·rename_i k n hd
  obtain ⟨rfl,_⟩:=hi.dv hd
  split at hy
  ·cases hv
   split at hy
   ·rename_i u hu
    obtain ⟨rfl,hd⟩:=Id hy
    exact ⟨u,hu,Af.yd hd⟩
   ·cases hy
  ·obtain ⟨vs,rfl,hl⟩:=hv
   split at hy
   ·rename_i len e he
    split at hy
    ·rename_i hc
     simp only [AV,he]
     rw [if_pos hc]
     exact Ma hl hy
    ·cases hy
   ·cases hy
  ·cases hy
 ·cases hy
theorem Gl.vrep {x:YV} {v:Value} (hb:Gl m R h x v):Af m R h x v:=by
 cases x with
 |tup xs=>exact hb.elim
 |_=>exact hb
theorem N5 {i:Nat} {x y:YV} {v:Value} (hv:Af m R h x v) (hy:GX i x=some y):∃u,GE i v=some u∧Af m R h y u:=by
 unfold GX at hy
 split at hy
 ·obtain ⟨vs,rfl,hl⟩:=hv
  obtain ⟨u,hu,hr⟩:=hl.get hy
  exact ⟨u,hu,hr.vrep⟩
 ·cases hy
theorem Uw {t:TypeId} {x y:YV} {v:Value} (hv:Af m R h x v) (hy:Nb P t x=some y):∃u,AY P t v=some u∧Af m R h y u:=by
 unfold Nb at hy
 split at hy
 ·cases hv
  split at hy
  ·rename_i u hu
   obtain ⟨rfl,hd⟩:=Id hy
   exact ⟨u,hu,Af.yd hd⟩
  ·cases hy
 ·rename_i sz els
  split at hy
  ·rename_i ht
   cases hy
   rcases PRep.lay hv with ⟨rfl,rfl⟩|⟨b',off,blk,rfl,k1,k2,k3⟩
   ·simp only [AY,ht];exact ⟨_,rfl,Af.yd rfl⟩
   ·simp only [AY,ht];exact ⟨_,rfl,Af.yd rfl⟩
  ·cases hy
 ·split at hy
  ·rename_i ht
   cases hy
   rcases hv with ⟨hz,⟨rfl,rfl,rfl⟩|⟨b',hm,rfl⟩⟩
   ·simp only [AY,ht];exact ⟨_,rfl,Af.yd rfl⟩
   ·simp only [AY,ht];exact ⟨_,rfl,Af.yd rfl⟩
  ·cases hy
 ·cases hy
end
end Go.Vx
