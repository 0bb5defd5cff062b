/- A run moved: operations over the heap. -/
import Derived.Test.YtmbonddknackiaaVyShift1
set_option linter.unusedVariables false
namespace Go.Vx
section
variable {k:Nat} {g h h':H} {u v:Value}
theorem MN:∀{xs:List Value} {l:List UInt8},bytesOf xs=some l→xs.all dry=true
 |[],l,h=>rfl
 |x::xs,l,h=>by
  unfold bytesOf at h
  split at h
  ·rename_i heq;cases heq
  ·rename_i n r heq
   cases heq
   split at h
   ·rename_i l' hl';simp only [List.all_cons,dry,Bool.true_and];exact MN hl'
   ·cases h
  ·cases h
theorem FW (s:ByteArray):(BE s).all dry=true:=by
 rw [List.all_eq_true]
 intro v hv
 obtain ⟨b,_,rfl⟩:=List.mem_map.mp hv
 rfl
def jB (k:Nat) (g:H) (r r':Option (Value×H)):Prop:=∀x h1,r=some (x,h1)→∃x' h1',r'=some (x',h1')∧ShV k x x'∧ShH k g h1 h1'
theorem PW {sz:Nat} (hh:ShH k g h h') (hs:ShV k u v) {n:Nat} {xs:List Value} (hx:EW h sz u=some (n,xs)):∃ys,EW h' sz v=some (n,ys)∧L2 (ShC k) xs ys:=by
 unfold EW at hx
 simp only [H.getK_eq] at hx
 split at hx
 ·obtain ⟨_,rfl,rfl⟩:=hs.nilE
  cases hx;exact ⟨[],rfl,L2.nil⟩
 ·rename_i a m c
  rw [hs.slcE]
  split at hx
  ·rename_i b hb
   obtain ⟨cs,h1,h2⟩:=hh.getE hb
   split at hx
   ·rename_i hc
    cases hx
    refine ⟨_,?_,(h2.drop a.off).take (n*sz)⟩
    unfold EW
    simp only [H.getK_eq,Xs,h1]
    exact if_pos (by rw [←h2.1];exact hc)
   ·cases hx
  ·cases hx
 ·rw [hs.dryE rfl]
  split at hx
  ·rename_i hz
   cases hx
   exact ⟨_,by simp only [EW,if_pos hz],L2.shrefl (FW _)⟩
  ·cases hx
 ·cases hx
theorem Pd {P:Program} {lo lo':Nat} {t xt:TypeId} {s s' x x':Value} (hh:ShH k g h h') (hlo:lo'≤lo+k) (hs:ShV k s s') (hx:ShV k x x'):jB k g (EZ P lo t xt s x h) (EZ P lo' t xt s' x' h'):=by
 intro r h1 he
 unfold EZ at he ⊢
 simp only [H.getK_eq] at he ⊢
 split at he
 ·cases he
 ·rename_i e hte
  split at he
  ·cases he
  ·rename_i hc1
   rw [if_neg hc1]
   split at he
   ·cases he
   ·rename_i z hz
    split at he
    ·cases he
    ·rename_i hc2
     rw [if_neg hc2]
     split at he
     ·cases he
     ·rename_i w xs hsrc
      obtain ⟨ys,g1,g2⟩:=PW hh hx hsrc
      rw [g1]
      simp only
      split at he
      ·rename_i a n c
       cases he
       cases a with
       |none=>obtain ⟨rfl,rfl,rfl⟩:=hs.nilE;exact ⟨_,_,rfl,hs,hh⟩
       |some a=>
        have:=hs.slcE
        subst this
        exact ⟨_,_,rfl,hs,hh⟩
      ·cases he
     ·rename_i m src hsrc
      obtain ⟨ys,g1,g2⟩:=PW hh hx hsrc
      rw [g1]
      simp only
      split at he
      ·obtain ⟨_,_,rfl⟩:=hs.nilE
       split at he
       ·rename_i hb
        cases he
        simp only [if_pos hb]
        exact ⟨_,_,rfl,ShV.new hh 0 _ _,hh.push g2⟩
       ·cases he
      ·rename_i a n c
       have:=hs.slcE
       subst this
       simp only
       split at he
       ·rename_i b hb
        obtain ⟨cs,k1,k2⟩:=hh.getE hb
        simp only [Xs,k1]
        split at he
        ·rename_i hc
         cases he
         obtain ⟨c1,c2,c3,c4,c5⟩:=hc
         have hcc:b.own=true∧lo'≤a.block+k∧c=Ab P e∧a.off+n*Ab P e≤cs.length∧(n+(m+1))*A0 P e≤70368744177664:=⟨c1,by omega,c3,by rw [←k2.1];exact c4,c5⟩
         exact ⟨_,_,if_pos hcc,ShV.new hh 0 _ _,(hh.kill hb).push (((k2.drop _).take _).append g2)⟩
        ·cases he
       ·cases he
      ·cases he
theorem Vo {P:Program} {t:TypeId} (hh:ShH k g h h') (hs:ShV k u v):J8 k (G0 P t h u) (G0 P t h' v):=by
 intro x hx
 unfold G0 at hx
 simp only [H.getK_eq] at hx
 split at hx
 ·rename_i a
  rw [hs.ptrE]
  unfold G0
  simp only [H.getK_eq,Xs]
  split at hx
  ·rename_i b hb ht
   obtain ⟨cs,k1,k2⟩:=hh.getE hb
   simp only [k1,ht]
   split at hx
   ·rename_i hc
    cases hx
    exact ⟨_,if_pos (by rw [←k2.1];exact hc),.b (.agg ((k2.drop _).take _))⟩
   ·cases hx
  ·rename_i b hb ht
   obtain ⟨cs,k1,k2⟩:=hh.getE hb
   simp only [k1,ht]
   obtain ⟨y,h3,h4⟩:=k2.get hx
   exact ⟨y,h3,.b (.cell h4)⟩
  ·cases hx
 ·cases hx
theorem aM {P:Program} {lo lo':Nat} {t:TypeId} {p p':Value} (hh:ShH k g h h') (hlo:lo'≤lo+k) (hp:ShV k p p') (hs:ShV k u v) {h1:H} (hx:Fv P lo t h p u=some h1):∃h1',Fv P lo' t h' p' v=some h1'∧ShH k g h1 h1':=by
 unfold Fv at hx
 simp only [H.getK_eq] at hx
 split at hx
 ·rename_i a
  rw [hp.ptrE]
  unfold Fv
  simp only [H.getK_eq,Xs]
  split at hx
  ·rename_i b hb
   obtain ⟨cs,k1,k2⟩:=hh.getE hb
   simp only [k1]
   split at hx
   ·rename_i hc
    cases hx
    obtain ⟨c1,c2,c3,c4,c5,c6⟩:=hc
    obtain ⟨e1,e2⟩:=hs.cl c5
    exact ⟨_,if_pos ⟨c1,by omega,by rw [←e2.1];exact c3,by rw [←e2.1,←k2.1];exact c4,e1,c6⟩,hh.put hb (k2.splice e2)⟩
   ·cases hx
  ·cases hx
 ·cases hx
theorem M9 {place:Nat→Option (Nat×Nat)}:∀{parts parts':List (Nat×Value)} {xs ys:List Value},L2 (fun p q=>p.1=q.1∧ShV k p.2 q.2) parts parts'→L2 (ShC k) xs ys→∀{cs:List Value},Fh place xs parts=some cs→∃cs',Fh place ys parts'=some cs'∧L2 (ShC k) cs cs'
 |[],[],xs,ys,hp,hl,cs,he=>by cases he;exact ⟨ys,rfl,hl⟩
 |[],_::_,xs,ys,hp,hl,cs,he=>absurd hp.1 (by simp)
 |_::_,[],xs,ys,hp,hl,cs,he=>absurd hp.1 (by simp)
 |(i,a)::parts,(j,b)::parts',xs,ys,hp,hl,cs,he=>by
  have h1:=hp.head
  obtain ⟨rfl,hab⟩:i=j∧ShV k a b:=h1
  unfold Fh at he ⊢
  split at he
  ·cases he
  ·rename_i off size hpl
   split at he
   ·cases he
   ·rename_i hc
    simp only [not_or] at hc
    obtain ⟨c1,c2,c3⟩:=hc
    obtain ⟨e1,e2⟩:=hab.cl (by simpa using c3)
    rw [if_neg (by rw [←e2.1,←hl.1,e1];simp only [not_or];exact ⟨c1,c2,by simp⟩)]
    exact M9 hp.tail (hl.splice e2) he
theorem OI {ρ ρ':Operand→Value} {parts:List (Nat×Operand)} (hρ:∀p,p∈parts→ShV k (ρ p.2) (ρ' p.2)):L2 (fun p q=>p.1=q.1∧ShV k p.2 q.2) (parts.map fun p=>(p.1,ρ p.2)) (parts.map fun p=>(p.1,ρ' p.2)):=
 ⟨by simp,fun i a b h1 h2=>by
  rw [List.getElem?_map] at h1 h2
  cases hp:parts[i]? with
  |none=>rw [hp] at h1;cases h1
  |some p=>rw [hp] at h1 h2;cases h1;cases h2;exact ⟨rfl,hρ p (List.mem_of_getElem? hp)⟩⟩
theorem ZP {P:Program} (hz:Ca P) {t:TypeId} {z:Value} (h:Cv P t=some z):L2 (ShC k) (clist z) (clist z):=by
 have hd:=hz t z h
 cases z with
 |agg cs=>exact L2.shrefl hd
 |_=>exact L2.shrefl (by simp only [clist,List.all_cons,List.all_nil,Bool.and_true];exact hd)
theorem IX {z:List Value} (hd:z.all dry=true):∀n,(DK z n).all dry=true
 |0=>rfl
 |n+1=>by rw [DK,List.all_append,hd,IX hd n];rfl
theorem TB {P:Program} (hz:Ca P) {t:TypeId} {z:Value} (h:Cv P t=some z) (n:Nat):L2 (ShC k) (DK (clist z) n) (DK (clist z) n):=by
 have hd:=hz t z h
 cases z with
 |agg cs=>exact L2.shrefl (IX hd n)
 |_=>exact L2.shrefl (IX (by simp only [clist,List.all_cons,List.all_nil,Bool.and_true];exact hd) n)
theorem bM {P:Program} (hz:Ca P) {ρ ρ':Operand→Value} {t:TypeId} {parts:List (Nat×Operand)} (hρ:∀p,p∈parts→ShV k (ρ p.2) (ρ' p.2)):J8 k (Gw P ρ t parts) (Gw P ρ' t parts):=by
 intro x hx
 unfold Gw at hx ⊢
 split at hx
 ·rename_i z hzz
  split at hx
  ·rename_i pl hpl
   split at hx
   ·rename_i cs hcs
    cases hx
    obtain ⟨cs',h1,h2⟩:=M9 (OI hρ) (ZP hz hzz) hcs
    simp only [h1]
    exact ⟨_,rfl,.b (.agg h2)⟩
   ·cases hx
  ·split at hx
   ·split at hx
    ·cases hx
    ·rename_i hc
     split at hx
     ·rename_i cs hcs
      cases hx
      obtain ⟨cs',h1,h2⟩:=M9 (OI hρ) (ZP hz hzz) hcs
      rw [if_neg hc]
      simp only [h1]
      exact ⟨_,rfl,.b (.agg h2)⟩
     ·cases hx
   ·cases hx
 ·cases hx
inductive ShO (k:Nat):Out→Out→Prop where
 |val {u v:Value}:ShV k u v→ShO k (.val u) (.val v)
 |call {f:FuncId} {xs ys:List Value}:L2 (ShV k) xs ys→ShO k (.call f xs) (.call f ys)
def j6 (k:Nat) (g:H) (r r':Option (Out×H)):Prop:=∀x h1,r=some (x,h1)→∃x' h1',r'=some (x',h1')∧ShO k x x'∧ShH k g h1 h1'
theorem EG {r r':Option Value} (hh:ShH k g h h') (hr:J8 k r r'):j6 k g (De h r) (De h' r'):=by
 intro x h1 he
 unfold De at he
 split at he
 ·rename_i v
  cases he
  obtain ⟨x',rfl,hv⟩:=hr v rfl
  exact ⟨_,_,rfl,.val hv,hh⟩
 ·cases he
theorem WI {r r':Option (Value×H)} (hr:jB k g r r'):j6 k g (Fq r) (Fq r'):=by
 intro x h1 he
 unfold Fq at he
 split at he
 ·cases he
  obtain ⟨x',h1',rfl,hv,hh⟩:=hr _ _ rfl
  exact ⟨_,_,rfl,.val hv,hh⟩
 ·cases he
theorem VB {P:Program} {lo lo':Nat} {s d:TypeId} (hh:ShH k g h h') (hlo:lo'≤lo+k) (hs:ShV k u v):jB k g (Bi P lo s d u h) (Bi P lo' s d v h'):=by
 intro x h1 he
 unfold Bi at he
 simp only [H.getK_eq] at he
 split at he
 ·rename_i a b kd n e1 e2
  cases he
  rw [hs.dryE rfl]
  exact ⟨_,_,by simp only [Bi,e1,e2],.of_dry rfl,hh⟩
 ·rename_i e1 e2
  cases he
  rw [hs.dryE rfl]
  exact ⟨_,_,by simp only [Bi,e1,e2],.of_dry rfl,hh⟩
 ·rename_i q w e b e1 e2
  rw [hs.dryE rfl]
  split at he
  ·rename_i hc
   cases he
   refine ⟨_,_,?_,ShV.new hh 0 _ _,hh.push (L2.shrefl (FW _))⟩
   unfold Bi
   simp only [e1,e2]
   rw [if_pos hc]
  ·cases he
 ·rename_i q e a n sz e1 e2
  rw [hs.slcE]
  split at he
  ·rename_i b hb
   obtain ⟨cs,k1,k2⟩:=hh.getE hb
   split at he
   ·rename_i hc
    cases he
    obtain ⟨c1,c2,c3,c4,c5⟩:=hc
    refine ⟨_,_,?_,ShV.new hh a.off _ _,(hh.kill hb).push k2⟩
    unfold Bi
    simp only [e1,e2,H.getK_eq,Xs,k1]
    exact if_pos ⟨c1,c2,c3,by omega,c5⟩
   ·cases he
  ·cases he
 ·rename_i e a n c e1 e2
  split at he
  ·rename_i hc
   split at he
   ·cases he
    obtain ⟨rfl,rfl,rfl⟩:=hs.nilE
    refine ⟨_,_,?_,.of_dry rfl,hh⟩
    unfold Bi
    simp only [e1,e2]
    rw [if_pos hc]
   ·rename_i a
    rw [hs.slcE]
    split at he
    ·rename_i b hb
     obtain ⟨cs,k1,k2⟩:=hh.getE hb
     split at he
     ·rename_i hl
      split at he
      ·rename_i l hbo
       cases he
       have hd:=(k2.drop a.off).take n
       have e:=hd.shdry (MN hbo)
       refine ⟨_,_,?_,.of_dry rfl,hh⟩
       unfold Bi
       simp only [e1,e2,H.getK_eq,Xs,k1]
       rw [if_pos hc]
       refine (if_pos (by rw [←k2.1];exact hl)).trans ?_
       rw [e,hbo]
      ·cases he
     ·cases he
    ·cases he
  ·cases he
 ·cases he
end
end Go.Vx
