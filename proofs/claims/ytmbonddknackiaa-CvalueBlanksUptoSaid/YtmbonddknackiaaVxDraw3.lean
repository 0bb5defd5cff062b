/- A region that draws its order: one operation more, and the whole. -/
import Derived.Test.YtmbonddknackiaaVxDraw2
namespace Go.Vx
open Go.RowKit
section
variable {C:Cx} {base:Nat} {callf:Nat→FuncId→List Value→H→Option (Value×H)} {lo:Nat} {ops:Array Oper} {E:Nat→BF} {Hs:Nat→H} {V:Nat→Value}
variable {φ0 φ:Cy} {w0 w:World} {S:Nat→Bool} {ν:Nat} {a:Act}
theorem SP {i:Nat} (hup:∀k,ET (E7 ops.toList []) k i=true→S k=true)
  (hd:∀i j,S j=true→ET (E7 ops.toList []) i j=true→S i=true):∀k j,add S i j=true→ET (E7 ops.toList []) k j=true→add S i k=true:=by
 intro k j hj h
 unfold add at hj ⊢
 split
 ·rfl
 ·by_cases e:j=i
  ·subst e;exact hup k h
  ·rw [if_neg e] at hj;exact hd k j hj h
theorem Inv.grow (I:Inv C base lo ops E Hs V φ0 w0 S φ ν a w) (R:Run C callf lo ops.toList 0 E Hs V) (hk:CC callf) (D:DrawOk C.P ops)
  (hn:∀i,(Hs 0).n≤i→i<(Hs ops.toList.length).n→φ0 i=none) {i:Nat} {o:Oper} (ho:ops.toList[i]?=some o) (hi:S i=false)
  (hup:∀k,ET (E7 ops.toList []) k i=true→S k=true) (hm:DH C.P o.op=false) (hok:IQ o.op=true) (hr:∀x∈o.op.operands.toList,Cl x=true→VR φ (ev (E i) x) (a.eval x))
  {L:Nat} {φ':Cy} {g g':H} {w':World} {v':Value} (hv:VR φ' (V i) v') (hst:Step base L φ φ' g g' w w') (hL:(Hs i).n≤L) (hgn:g.n=(Hs i).n) (hgn':g'.n=(Hs (i+1)).n)
  (hnew:∀id,(Hs i).n≤id→id<(Hs (i+1)).n→g'.get id=(Hs (i+1)).get id):
  Inv C base lo ops E Hs V φ0 w0 (add S i) φ' ν (a.put o.dst v') w':=by
 have hin:i<ops.toList.length:=by apply Classical.byContradiction;intro hc;rw [List.getElem?_eq_none (by omega)] at ho;cases ho
 have hmi:F3 C ops.toList i=false:=by simp only [F3,ho,hm]
 have nt:∀b,¬IH L φ g b:=fun b ⟨j,l,bl,_,h2,_,h4,_⟩=>by have:=H.get_lt h2;omega
 have hold:∀b,b<w.heap.size→w'.heap[b]?=w.heap[b]?:=fun b hb=>hst.frame b hb (nt b)
 have hfresh:∀j l,φ' j=some l→φ j=none→w.heap.size≤l.blk:=fun j l h1 h2=>(hst.fresh j l h1 h2).resolve_right (nt _)
 have hnewid:∀j,φ' j≠none→φ j=none→(Hs i).n≤j∧j<(Hs (i+1)).n:=fun j h1 h2=>by
  rcases hst.dom j h1 with h|h
  ·exact absurd h2 h
  ·rw [hgn,hgn'] at h;exact h
 have hfree:∀j,(Hs i).n≤j→j<(Hs (i+1)).n→φ j=none:=fun j h1 h2=>I.free R hk hn hin hi h1 h2
 have hcont:∀j,φ' j≠none→φ j=none→HA Hs ops.toList.length ν j=g'.get j:=fun j h1 h2=>by
  obtain ⟨h3,h4⟩:=hnewid j h1 h2
  rw [hnew j h3 h4]
  have hb1:bi Hs j ops.toList.length≤i+1:=R.bi_first hk h4
  have hb2:i+1≤bi Hs j ops.toList.length:=by
   apply Classical.byContradiction;intro hc
   have:=WH Hs j ops.toList.length (Nat.lt_of_lt_of_le h4 (R.mono hk (by omega) (Nat.le_refl _)))
   have:=Nat.lt_of_lt_of_le this (R.mono hk (show bi Hs j ops.toList.length≤i by omega) (by omega))
   omega
  have hbi:bi Hs j ops.toList.length=i+1:=by omega
  unfold HA
  rw [hbi]
  by_cases hc:ν≤i+1
  ·rw [Nat.max_eq_right hc]
  ·rw [Nat.max_eq_left (by omega)]
   refine R.stable hk (by omega) I.nu h4 fun m hm1 hm2 hmm ht=>?_
   exact I.tgt m (I.below m hm2 hmm) hmm j ht h2
 refine ⟨I.nu,fun k h1 h2=>?_,fun k h1 h2=>?_,I.isM,SP hup I.down,?_,?_,I.slot' D ho hi hst.ext hv,?_,fun j l h=>hst.ext j l (I.ext j l h),fun j hj=>?_,
  I.tgt' ho hst.ext hok hr,I.bel.trans hst.below,fun b hb hnt=>?_,fun j l h1 h2=>?_⟩
 ·unfold add;split
  ·rfl
  ·exact I.below k h1 h2
 ·unfold add;rw [if_neg (fun e=>by subst e;rw [hmi] at h2;cases h2)];exact I.above k h1 h2
 ·cases o.dst<;>simp [Act.put,I.len]
 ·cases o.dst<;>simp [Act.put,I.defers]
 ·refine ⟨fun j l h=>hst.heap.bound j l h,fun j l b h1 h2=>?_,fun j l b h1 h2 h3=>?_,fun j k lj lk bj bk hjk hj hk' h1 h2 h3=>?_⟩
  ·cases hφ:φ j with
   |none=>rw [hcont j (by rw [h1];simp) hφ] at h2;exact hst.heap.live j l b h1 h2
   |some l'=>
    have:=hst.ext j l' hφ;rw [h1] at this;cases this
    exact ((I.heap.live j l b hφ h2).mono hst.ext).same (hold _ (I.heap.bound j l hφ))
  ·cases hφ:φ j with
   |none=>rw [hcont j (by rw [h1];simp) hφ] at h2;exact hst.heap.base j l b h1 h2 h3
   |some l'=>
    have:=hst.ext j l' hφ;rw [h1] at this;cases this
    exact I.heap.base j l b hφ h2 h3
  ·cases hφj:φ j with
   |none=>
    have hj':=hj
    cases hφk:φ k with
    |none=>
     rw [hcont j (by rw [hj];simp) hφj] at h1
     rw [hcont k (by rw [hk'];simp) hφk] at h2
     exact hst.heap.sep j k lj lk bj bk hjk hj hk' h1 h2 h3
    |some l'=>
     have:=hst.ext k l' hφk;rw [hk'] at this;cases this
     have e1:=hfresh j lj hj hφj
     have e2:=I.heap.bound k lk hφk
     omega
   |some l'=>
    have:=hst.ext j l' hφj;rw [hj] at this;cases this
    cases hφk:φ k with
    |none=>
     have e1:=hfresh k lk hk' hφk
     have e2:=I.heap.bound j lj hφj
     omega
    |some l'=>
     have:=hst.ext k l' hφk;rw [hk'] at this;cases this
     exact I.heap.sep j k lj lk bj bk hjk hφj hφk h1 h2 h3
 ·cases hφ:φ j with
  |none=>exact .inr ⟨i,hin,by simp [add],(hnewid j hj hφ).1,(hnewid j hj hφ).2⟩
  |some l=>
   rcases I.dom j (by rw [hφ];simp) with h|⟨k,h1,h2,h3⟩
   ·exact .inl h
   ·exact .inr ⟨k,h1,by unfold add;split<;>first|rfl|exact h2,h3⟩
 ·rw [hold b (Nat.lt_of_lt_of_le hb I.bel.size)];exact I.frame b hb hnt
 ·cases hφ:φ j with
  |none=>exact .inl (Nat.le_trans I.bel.size (hfresh j l h1 hφ))
  |some l'=>
   have:=hst.ext j l' hφ;rw [h1] at this;cases this
   exact I.fresh j l hφ h2
theorem Oc (C:Cx) (ops:List Oper):∀d k,ops.length - k=d→k≤ops.length→∃ν',k≤ν'∧ν'≤ops.length∧(∀j,k≤j→j<ν'→F3 C ops j=false)∧(ν'<ops.length→F3 C ops ν'=true)
 |0,k,hd,hk=>⟨k,Nat.le_refl _,hk,fun j h1 h2=>by omega,fun h=>by omega⟩
 |d+1,k,hd,hk=>by
  cases hm:F3 C ops k with
  |true=>exact ⟨k,Nat.le_refl _,hk,fun j h1 h2=>by omega,fun _=>hm⟩
  |false=>
   obtain ⟨ν',h1,h2,h3,h4⟩:=Oc C ops d (k+1) (by omega) (by omega)
   refine ⟨ν',by omega,h2,fun j h5 h6=>?_,h4⟩
   by_cases e:j=k
   ·subst e;exact hm
   ·exact h3 j (by omega) h6
theorem Inv.turned (I:Inv C base lo ops E Hs V φ0 w0 S φ ν a w) (R:Run C callf lo ops.toList 0 E Hs V) (hk:CC callf) (D:DrawOk C.P ops)
  (hn:∀i,(Hs 0).n≤i→i<(Hs ops.toList.length).n→φ0 i=none) {o:Oper} (ho:ops.toList[ν]?=some o) (hi:S ν=false)
  (hup:∀k,ET (E7 ops.toList []) k ν=true→S k=true) (hok:IQ o.op=true) (hr:∀x∈o.op.operands.toList,Cl x=true→VR φ (ev (E ν) x) (a.eval x))
  {φ':Cy} {w':World} {v':Value} (hv:VR φ' (V ν) v') (hst:Step base lo φ φ' (Hs ν) (Hs (ν+1)) w w'):
  ∃ν',Inv C base lo ops E Hs V φ0 w0 (add S ν) φ' ν' (a.put o.dst v') w':=by
 have hin:ν<ops.toList.length:=by apply Classical.byContradiction;intro hc;rw [List.getElem?_eq_none (by omega)] at ho;cases ho
 obtain ⟨ν',n1,n2,n3,n4⟩:=Oc C ops.toList _ (ν+1) rfl (by omega)
 have hfree:∀j,(Hs ν).n≤j→j<(Hs (ν+1)).n→φ j=none:=fun j h1 h2=>I.free R hk hn hin hi h1 h2
 have hnewid:∀j,φ' j≠none→φ j=none→(Hs ν).n≤j∧j<(Hs (ν+1)).n:=fun j h1 h2=>by
  rcases hst.dom j h1 with h|h
  ·exact absurd h2 h
  ·exact h
 have hmono:=R.mono hk (show ν≤ν+1 by omega) (by omega)
 have c1:∀j,j<(Hs (ν+1)).n→HA Hs ops.toList.length ν' j=(Hs (ν+1)).get j:=fun j hj=>by
  rw [R.cont_old hk (Nat.lt_of_lt_of_le hj (R.mono hk n1 n2))]
  exact R.stable hk n1 n2 hj fun m h1 h2 h3=>by rw [n3 m h1 h2] at h3;cases h3
 have c2:∀j,¬j<(Hs (ν+1)).n→HA Hs ops.toList.length ν' j=HA Hs ops.toList.length ν j:=fun j hj=>by
  have hbn:=aN Hs j ops.toList.length
  by_cases hc:j<(Hs ops.toList.length).n
  ·have hjb:=WH Hs j ops.toList.length hc
   have hb:ν+1<bi Hs j ops.toList.length:=by
    apply Classical.byContradiction;intro hc2
    exact hj (Nat.lt_of_lt_of_le hjb (R.mono hk (by omega) (by omega)))
   unfold HA
   rw [Nat.max_eq_right (show ν≤_ by omega)]
   by_cases hc:ν'≤bi Hs j ops.toList.length
   ·rw [Nat.max_eq_right hc]
   ·rw [Nat.max_eq_left (by omega)]
    exact R.stable hk (by omega) n2 hjb fun m h1 h2 h3=>by rw [n3 m (by omega) h2] at h3;cases h3
  ·have dead:∀k,k≤ops.toList.length→(Hs k).get j=none:=fun k hk'=>H.get_ge (by have:=R.mono hk hk' (Nat.le_refl _);omega)
   unfold HA
   rw [dead _ (by omega),dead _ (by have:=I.nu;omega)]
 have old:∀j l,φ' j=some l→¬j<(Hs (ν+1)).n→φ j=some l:=fun j l h1 h2=>by
  cases hφ:φ j with
  |none=>exact absurd (hnewid j (by rw [h1];simp) hφ).2 h2
  |some l'=>have:=hst.ext j l' hφ;rw [h1] at this;exact this.symm
 have apart:∀j l b,φ j=some l→¬j<(Hs (ν+1)).n→HA Hs ops.toList.length ν j=some b→¬IH lo φ (Hs ν) l.blk:=fun j l b h1 h2 h3 ⟨i0,l0,b0,g1,g2,g3,_,g5⟩=>by
  have hi0:=H.get_lt g2
  exact I.heap.sep i0 j l0 l b0 b (fun e=>by subst e;omega) g1 h1 (by rw [R.cont_old hk hi0];exact g2) h3 g3 g5
 have oldlive:∀j l b,φ' j=some l→φ j=some l→j<(Hs (ν+1)).n→(Hs (ν+1)).get j=some b→∃b0,HA Hs ops.toList.length ν j=some b0∧b0.own=b.own:=fun j l b h1 h2 h3 h4=>by
  have hlt:j<(Hs ν).n:=by
   apply Classical.byContradiction;intro hc
   rw [hfree j (by omega) h3] at h2;cases h2
  obtain ⟨b0,hb0,ho0⟩:=(R.keep1 hk ho).2.2 j hlt b h4
  exact ⟨b0,by rw [R.cont_old hk hlt];exact hb0,ho0⟩
 have mixed:∀i j li lj bi bj,φ' i=some li→φ' j=some lj→i<(Hs (ν+1)).n→¬j<(Hs (ν+1)).n→(Hs (ν+1)).get i=some bi→HA Hs ops.toList.length ν j=some bj→
   (bi.own=true∨bj.own=true)→li.blk≠lj.blk:=fun i j li lj bi bj h1 h2 h3 h4 h5 h6 h7=>by
  have hφj:=old j lj h2 h4
  cases hφ:φ i with
  |none=>
   rcases hst.fresh i li h1 hφ with h|h
   ·have:=I.heap.bound j lj hφj;omega
   ·intro e;rw [e] at h;exact apart j lj bj hφj h4 h6 h
  |some l'=>
   have:=hst.ext i l' hφ;rw [h1] at this;cases this
   obtain ⟨b0,hb0,ho0⟩:=oldlive i li bi h1 hφ h3 h5
   rcases h7 with h7|h7
   ·exact I.heap.sep i j li lj b0 bj (fun e=>by subst e;omega) hφ hφj hb0 h6 (ho0.trans h7)
   ·exact (I.heap.sep j i lj li bj b0 (fun e=>by subst e;omega) hφj hφ h6 hb0 h7).symm
 refine ⟨ν',n2,fun k h1 h2=>?_,fun k h1 h2=>?_,n4,SP hup I.down,?_,?_,I.slot' D ho hi hst.ext hv,?_,fun j l h=>hst.ext j l (I.ext j l h),fun j hj=>?_,
  I.tgt' ho hst.ext hok hr,I.bel.trans hst.below,fun b hb hnt=>?_,fun j l h1 h2=>?_⟩
 ·unfold add;split
  ·rfl
  ·rename_i hne
   by_cases hlt:k<ν
   ·exact I.below k hlt h2
   ·rw [n3 k (by omega) h1] at h2;cases h2
 ·unfold add;rw [if_neg (by omega)];exact I.above k (by omega) h2
 ·cases o.dst<;>simp [Act.put,I.len]
 ·cases o.dst<;>simp [Act.put,I.defers]
 ·refine ⟨fun j l h=>hst.heap.bound j l h,fun j l b h1 h2=>?_,fun j l b h1 h2 h3=>?_,fun j k lj lk bj bk hjk hj hk' h1 h2 h3=>?_⟩
  ·by_cases hc:j<(Hs (ν+1)).n
   ·rw [c1 j hc] at h2;exact hst.heap.live j l b h1 h2
   ·rw [c2 j hc] at h2
    have hφ:=old j l h1 hc
    exact ((I.heap.live j l b hφ h2).mono hst.ext).same (hst.frame _ (I.heap.bound j l hφ) (apart j l b hφ hc h2))
  ·by_cases hc:j<(Hs (ν+1)).n
   ·rw [c1 j hc] at h2;exact hst.heap.base j l b h1 h2 h3
   ·rw [c2 j hc] at h2
    exact I.heap.base j l b (old j l h1 hc) h2 h3
  ·by_cases hc:j<(Hs (ν+1)).n
   ·rw [c1 j hc] at h1
    by_cases hd:k<(Hs (ν+1)).n
    ·rw [c1 k hd] at h2;exact hst.heap.sep j k lj lk bj bk hjk hj hk' h1 h2 h3
    ·rw [c2 k hd] at h2;exact mixed j k lj lk bj bk hj hk' hc hd h1 h2 (.inl h3)
   ·rw [c2 j hc] at h1
    by_cases hd:k<(Hs (ν+1)).n
    ·rw [c1 k hd] at h2;exact (mixed k j lk lj bk bj hk' hj hd hc h2 h1 (.inr h3)).symm
    ·rw [c2 k hd] at h2
     exact I.heap.sep j k lj lk bj bk hjk (old j lj hj hc) (old k lk hk' hd) h1 h2 h3
 ·cases hφ:φ j with
  |none=>exact .inr ⟨ν,hin,by simp [add],(hnewid j hj hφ).1,(hnewid j hj hφ).2⟩
  |some l=>
   rcases I.dom j (by rw [hφ];simp) with h|⟨k,h1,h2,h3⟩
   ·exact .inl h
   ·exact .inr ⟨k,h1,by unfold add;split<;>first|rfl|exact h2,h3⟩
 ·rw [hst.frame b (Nat.lt_of_lt_of_le hb I.bel.size) fun ht=>hnt (I.turns R hk hn (by omega) hb ht)];exact I.frame b hb hnt
 ·cases hφ:φ j with
  |none=>
   rcases hst.fresh j l h1 hφ with h|h
   ·exact .inl (Nat.le_trans I.bel.size h)
   ·by_cases hb:l.blk<w0.heap.size
    ·exact .inr (I.turns R hk hn (by omega) hb h)
    ·exact .inl (by omega)
  |some l'=>
   have:=hst.ext j l' hφ;rw [h1] at this;cases this
   exact I.fresh j l hφ h2
end
end Go.Vx
