/- A run moved: the interpreter's operations over a heap that has other blocks below. Relations and operations. -/
import Derived.Test.YtmbonddknackiaaVyRep
import Derived.Test.YtmbonddknackiaaVxFun
set_option linter.unusedVariables false
namespace Go.Vx
def Xs (k:Nat) (a:Addr):Addr:=⟨a.block+k,a.off,a.spot⟩
inductive ShC (k:Nat):Value→Value→Prop where
 |dry {v:Value}:dry v=true→ShC k v v
 |ptr {a:Addr}:ShC k (.pointer (some a)) (.pointer (some (Xs k a)))
 |slc {a:Addr} {n c:Nat}:ShC k (.slice (some a) n c) (.slice (some (Xs k a)) n c)
inductive ShB (k:Nat):Value→Value→Prop where
 |cell {u v:Value}:ShC k u v→ShB k u v
 |agg {xs ys:List Value}:L2 (ShC k) xs ys→ShB k (.agg ⟨xs⟩) (.agg ⟨ys⟩)
inductive ShV (k:Nat):Value→Value→Prop where
 |b {u v:Value}:ShB k u v→ShV k u v
 |tup {xs ys:List Value}:L2 (ShB k) xs ys→ShV k (.tuple ⟨xs⟩) (.tuple ⟨ys⟩)
structure ShH (k:Nat) (g h h':H):Prop where
 n:h'.n=h.n+k
 base:∀i,i<k→h'.get i=g.get i
 cor:∀i b,h.get i=some b→∃cs,h'.get (i+k)=some ⟨b.own,cs⟩∧L2 (ShC k) b.cells cs
section
variable {k:Nat} {g h h':H} {u v:Value}
theorem ShC.inv (hs:ShC k u v):(Vx.dry u=true∧v=u)∨(∃a,u=.pointer (some a)∧v=.pointer (some (Xs k a)))∨∃a n c,u=.slice (some a) n c∧v=.slice (some (Xs k a)) n c:=by
 cases hs with
 |dry hd=>exact .inl ⟨hd,rfl⟩
 |ptr=>exact .inr (.inl ⟨_,rfl,rfl⟩)
 |slc=>exact .inr (.inr ⟨_,_,_,rfl,rfl⟩)
theorem ShC.cl (hs:ShC k u v):clist u=[u]∧clist v=[v]∧Dv u=false∧Dv v=false:=by
 rcases hs.inv with ⟨hd,rfl⟩|⟨a,rfl,rfl⟩|⟨a,n,c,rfl,rfl⟩
 ·have:=YH hd;exact ⟨this.1,this.1,this.2,this.2⟩
 ·exact ⟨rfl,rfl,rfl,rfl⟩
 ·exact ⟨rfl,rfl,rfl,rfl⟩
theorem ShV.inv (hs:ShV k u v):ShC k u v∨(∃xs ys,u=.agg ⟨xs⟩∧v=.agg ⟨ys⟩∧L2 (ShC k) xs ys)∨∃xs ys,u=.tuple ⟨xs⟩∧v=.tuple ⟨ys⟩∧L2 (ShB k) xs ys:=by
 cases hs with
 |b hs=>
  cases hs with
  |cell hs=>exact .inl hs
  |agg hs=>exact .inr (.inl ⟨_,_,rfl,rfl,hs⟩)
 |tup hs=>exact .inr (.inr ⟨_,_,rfl,rfl,hs⟩)
theorem ShV.dryE (hs:ShV k u v) (hd:dry u=true):v=u:=by
 rcases hs.inv with hs|⟨xs,ys,rfl,rfl,_⟩|⟨xs,ys,rfl,rfl,_⟩
 ·rcases hs.inv with ⟨_,rfl⟩|⟨a,rfl,rfl⟩|⟨a,n,c,rfl,rfl⟩
  ·rfl
  ·cases hd
  ·cases hd
 ·cases hd
 ·cases hd
theorem ShV.of_dry (hd:dry v=true):ShV k v v:=.b (.cell (.dry hd))
theorem ShV.ptrE {a:Addr} (hs:ShV k (.pointer (some a)) v):v=.pointer (some (Xs k a)):=by
 rcases hs.inv with hs|⟨xs,ys,e,_⟩|⟨xs,ys,e,_⟩
 ·rcases hs.inv with ⟨hd,rfl⟩|⟨a,e,rfl⟩|⟨a,n,c,e,rfl⟩
  ·cases hd
  ·cases e;rfl
  ·cases e
 ·cases e
 ·cases e
theorem ShV.slcE {a:Addr} {n c:Nat} (hs:ShV k (.slice (some a) n c) v):v=.slice (some (Xs k a)) n c:=by
 rcases hs.inv with hs|⟨xs,ys,e,_⟩|⟨xs,ys,e,_⟩
 ·rcases hs.inv with ⟨hd,rfl⟩|⟨a,e,rfl⟩|⟨a,n,c,e,rfl⟩
  ·cases hd
  ·cases e
  ·cases e;rfl
 ·cases e
 ·cases e
theorem ShV.nilE {n c:Nat} (hs:ShV k (.slice none n c) v):n=0∧c=0∧v=.slice none 0 0:=by
 rcases hs.inv with hs|⟨xs,ys,e,_⟩|⟨xs,ys,e,_⟩
 ·rcases hs.inv with ⟨hd,rfl⟩|⟨a,e,rfl⟩|⟨a,n,c,e,rfl⟩
  ·unfold dry at hd
   split at hd<;>simp_all
  ·cases e
  ·cases e
 ·cases e
 ·cases e
theorem ShV.aggE {xs:Array Value} (hs:ShV k (.agg xs) v):∃ys,v=.agg ⟨ys⟩∧L2 (ShC k) xs.toList ys:=by
 rcases hs.inv with hs|⟨xs',ys,e,rfl,hl⟩|⟨xs,ys,e,_⟩
 ·rcases hs.inv with ⟨hd,rfl⟩|⟨a,e,rfl⟩|⟨a,n,c,e,rfl⟩
  ·cases hd
  ·cases e
  ·cases e
 ·cases e;exact ⟨ys,rfl,hl⟩
 ·cases e
theorem ShV.tupE {xs:Array Value} (hs:ShV k (.tuple xs) v):∃ys,v=.tuple ⟨ys⟩∧L2 (ShB k) xs.toList ys:=by
 rcases hs.inv with hs|⟨xs,ys,e,_⟩|⟨xs',ys,e,rfl,hl⟩
 ·rcases hs.inv with ⟨hd,rfl⟩|⟨a,e,rfl⟩|⟨a,n,c,e,rfl⟩
  ·cases hd
  ·cases e
  ·cases e
 ·cases e
 ·cases e;exact ⟨ys,rfl,hl⟩
theorem ShV.cl (hs:ShV k u v) (ht:Dv u=false):Dv v=false∧L2 (ShC k) (clist u) (clist v):=by
 rcases hs.inv with hs|⟨xs,ys,rfl,rfl,hl⟩|⟨xs,ys,rfl,rfl,_⟩
 ·obtain ⟨h1,h2,h3,h4⟩:=hs.cl
  rw [h1,h2];exact ⟨h4,L2.single hs⟩
 ·exact ⟨rfl,hl⟩
 ·cases ht
theorem L2.shdry:∀{xs ys:List Value},L2 (ShC k) xs ys→xs.all dry=true→ys=xs
 |[],ys,hl,_=>List.eq_nil_of_length_eq_zero hl.1.symm
 |x::xs,[],hl,_=>absurd hl.1 (by simp)
 |x::xs,y::ys,hl,hd=>by
  simp only [List.all_cons,Bool.and_eq_true] at hd
  rw [(ShV.b (.cell hl.head)).dryE hd.1,L2.shdry hl.tail hd.2]
theorem L2.shrefl {xs:List Value} (hd:xs.all dry=true):L2 (ShC k) xs xs:=⟨rfl,fun i a b h1 h2=>by
 rw [h1] at h2;cases h2;exact .dry (List.all_eq_true.mp hd a (List.mem_of_getElem? h1))⟩
theorem ShV.of_dryV (hd:Hx v=true):ShV k v v:=by
 cases v with
 |agg cs=>exact .b (.agg (L2.shrefl hd))
 |_=>exact .of_dry hd
theorem ShH.getE (hh:ShH k g h h') {i:Nat} {b:Blk} (hg:h.get i=some b):∃cs,h'.get (i+k)=some ⟨b.own,cs⟩∧L2 (ShC k) b.cells cs:=hh.cor i b hg
theorem ShH.push (hh:ShH k g h h') {o:Bool} {xs ys:List Value} (hl:L2 (ShC k) xs ys):ShH k g (h.push ⟨o,xs⟩) (h'.push ⟨o,ys⟩):=by
 have hn:=hh.n
 refine ⟨by simp only [H.n_push];omega,fun i hi=>by rw [H.get_push_ne _ _ (by omega)];exact hh.base i hi,fun i b hb=>?_⟩
 by_cases e:i=h.n
 ·subst e
  rw [H.get_push_self] at hb;cases hb
  exact ⟨ys,by rw [←hn,H.get_push_self],hl⟩
 ·rw [H.get_push_ne _ _ e] at hb
  obtain ⟨cs,h1,h2⟩:=hh.cor i b hb
  exact ⟨cs,by rw [H.get_push_ne _ _ (by omega)];exact h1,h2⟩
theorem ShH.put (hh:ShH k g h h') {j:Nat} {b0:Blk} (hj:h.get j=some b0) {o:Bool} {xs ys:List Value} (hl:L2 (ShC k) xs ys):ShH k g (h.put j (some ⟨o,xs⟩)) (h'.put (j+k) (some ⟨o,ys⟩)):=by
 have hn:=hh.n
 obtain ⟨cs0,hj',_⟩:=hh.cor j b0 hj
 have hlt:=H.get_lt hj'
 refine ⟨by simp only [H.n_put];omega,fun i hi=>by rw [H.get_put_ne _ hlt (by omega)];exact hh.base i hi,fun i b hb=>?_⟩
 by_cases e:i=j
 ·subst e
  rw [H.get_put_self _ hj] at hb;cases hb
  exact ⟨ys,by rw [H.get_put_self _ hj'],hl⟩
 ·rw [H.get_put_ne _ (H.get_lt hj) e] at hb
  obtain ⟨cs,h1,h2⟩:=hh.cor i b hb
  exact ⟨cs,by rw [H.get_put_ne _ hlt (by omega)];exact h1,h2⟩
theorem ShH.kill (hh:ShH k g h h') {j:Nat} {b0:Blk} (hj:h.get j=some b0):ShH k g (h.put j none) (h'.put (j+k) none):=by
 have hn:=hh.n
 obtain ⟨cs0,hj',_⟩:=hh.cor j b0 hj
 have hlt:=H.get_lt hj'
 refine ⟨by simp only [H.n_put];omega,fun i hi=>by rw [H.get_put_ne _ hlt (by omega)];exact hh.base i hi,fun i b hb=>?_⟩
 by_cases e:i=j
 ·subst e
  rw [H.get_put_self _ hj] at hb;cases hb
 ·rw [H.get_put_ne _ (H.get_lt hj) e] at hb
  obtain ⟨cs,h1,h2⟩:=hh.cor i b hb
  exact ⟨cs,by rw [H.get_put_ne _ hlt (by omega)];exact h1,h2⟩
theorem ShV.new (hh:ShH k g h h') (o n c:Nat):ShV k (.slice (some ⟨h.n,o,none⟩) n c) (.slice (some ⟨h'.n,o,none⟩) n c):=by
 have:=hh.n
 rw [this];exact .b (.cell (.slc (a:=⟨h.n,o,none⟩)))
theorem ShV.newP (hh:ShH k g h h') (o:Nat):ShV k (.pointer (some ⟨h.n,o,none⟩)) (.pointer (some ⟨h'.n,o,none⟩)):=by
 have:=hh.n
 rw [this];exact .b (.cell (.ptr (a:=⟨h.n,o,none⟩)))
def J8 (k:Nat) (r r':Option Value):Prop:=∀x,r=some x→∃x',r'=some x'∧ShV k x x'
theorem MK {x x':Option Value} {d:Int} (hx:∀v,x=some v→∃v',x'=some v'∧ShV k v v') (hn:x=none→x'=none) {i:Int} (hl:low x d=some i):low x' d=some i:=by
 cases x with
 |none=>rw [hn rfl];exact hl
 |some v=>
  obtain ⟨v',rfl,hv⟩:=hx v rfl
  cases v with
  |int kd n=>rw [hv.dryE rfl];exact hl
  |_=>cases hl
theorem cK {c c' a a' b b':Value} (hc:ShV k c c') (ha:ShV k a a') (hb:ShV k b b'):J8 k (Li c a b) (Li c' a' b'):=by
 intro x hx
 unfold Li at hx
 split at hx
 ·cases hx;rw [hc.dryE rfl];exact ⟨_,rfl,ha⟩
 ·cases hx;rw [hc.dryE rfl];exact ⟨_,rfl,hb⟩
 ·cases hx
theorem iX (hs:ShV k u v):J8 k (P0 u) (P0 v):=by
 intro x hx
 unfold P0 at hx
 split at hx
 ·cases hx;rw [hs.ptrE];exact ⟨_,rfl,.b (.cell .ptr)⟩
 ·cases hx
theorem RB {P:Program} {s:TypeId} {f:Nat} (hs:ShV k u v):J8 k (C8 P s f u) (C8 P s f v):=by
 intro x hx
 unfold C8 at hx
 split at hx
 ·rename_i a
  rw [hs.ptrE]
  unfold C8
  simp only
  split at hx
  ·rename_i off ft hf
   split at hx
   ·cases hx
   ·rename_i hz
    cases hx
    rw [if_neg hz]
    exact ⟨_,rfl,.b (.cell (.ptr (a:=⟨a.block,a.off+off,none⟩)))⟩
  ·cases hx
 ·cases hx
theorem Wm {P:Program} {t:TypeId} {cs cs':List Value} {off:Nat} (hl:L2 (ShC k) cs cs'):J8 k (Ka P t cs off) (Ka P t cs' off):=by
 intro x hx
 unfold Ka at hx ⊢
 split at hx
 ·cases hx;exact ⟨_,rfl,.b (.agg ((hl.drop _).take _))⟩
 ·obtain ⟨y,h1,h2⟩:=hl.get hx;exact ⟨y,h1,.b (.cell h2)⟩
 ·cases hx
theorem X2 {P:Program} {t:TypeId} {f:Nat} (hs:ShV k u v):J8 k (Gq P t f u) (Gq P t f v):=by
 intro x hx
 unfold Gq at hx
 split at hx
 ·rename_i cs
  obtain ⟨ys,rfl,hl⟩:=hs.aggE
  unfold Gq
  simp only
  split at hx
  ·rename_i off ft hf
   exact Wm hl x hx
  ·cases hx
 ·cases hx
theorem Qn {P:Program} {t:TypeId} {i i':Value} (hs:ShV k u v) (hi:ShV k i i'):J8 k (CL P t u i) (CL P t v i'):=by
 intro x hx
 unfold CL at hx
 split at hx
 ·rename_i a len s kd i
  rw [hs.slcE,hi.dryE rfl]
  unfold CL
  simp only
  split at hx
  ·rename_i e he
   split at hx
   ·rename_i hc
    cases hx
    rw [if_pos hc]
    exact ⟨_,rfl,.b (.cell (.ptr (a:=⟨a.block,a.off+i.toNat*Ab P e,none⟩)))⟩
   ·cases hx
  ·cases hx
 ·rename_i a kd i
  rw [hs.ptrE,hi.dryE rfl]
  unfold CL
  simp only
  split at hx
  ·rename_i len e he
   split at hx
   ·rename_i hc
    cases hx
    rw [if_pos hc]
    exact ⟨_,rfl,.b (.cell (.ptr (a:=⟨a.block,a.off+i.toNat*Ab P e,none⟩)))⟩
   ·cases hx
  ·cases hx
 ·cases hx
theorem Zd {P:Program} {t:TypeId} {i i':Value} (hs:ShV k u v) (hi:ShV k i i'):J8 k (AV P t u i) (AV P t v i'):=by
 intro x hx
 unfold AV at hx
 split at hx
 ·rw [hs.dryE rfl,hi.dryE rfl]
  unfold AV
  simp only
  split at hx
  ·rename_i hc
   rw [if_pos hc]
   split at hx
   ·rename_i b hb;cases hx;exact ⟨_,rfl,.of_dry rfl⟩
   ·cases hx
  ·cases hx
 ·rename_i cs kd i
  obtain ⟨ys,rfl,hl⟩:=hs.aggE
  rw [hi.dryE rfl]
  unfold AV
  simp only
  split at hx
  ·rename_i len e he
   split at hx
   ·rename_i hc
    rw [if_pos hc]
    exact Wm hl x hx
   ·cases hx
  ·cases hx
 ·cases hx
theorem U4 {i:Nat} (hs:ShV k u v):J8 k (GE i u) (GE i v):=by
 intro x hx
 unfold GE at hx
 split at hx
 ·obtain ⟨ys,rfl,hl⟩:=hs.tupE
  obtain ⟨y,h1,h2⟩:=hl.get hx
  exact ⟨y,h1,.b h2⟩
 ·cases hx
theorem YM {P:Program} {t:TypeId} {l l' m m':Option Value} (hs:ShV k u v) (hl:∀x,l=some x→∃x',l'=some x'∧ShV k x x') (hln:l=none→l'=none) (hm:∀x,m=some x→∃x',m'=some x'∧ShV k x x') (hmn:m=none→m'=none):
  J8 k (Aw P t u l m) (Aw P t v l' m'):=by
 intro x hx
 unfold Aw at hx
 split at hx
 ·rw [hs.dryE rfl]
  unfold Aw
  simp only
  split at hx
  ·rename_i ht
   rw [if_pos ht]
   split at hx
   ·rename_i a b h1 h2
    rw [MK hl hln h1,MK hm hmn h2]
    simp only
    split at hx
    ·rename_i hc;cases hx;rw [if_pos hc];exact ⟨_,rfl,.of_dry rfl⟩
    ·cases hx
   ·cases hx
  ·cases hx
 ·rename_i a len s
  split at hx
  ·rename_i e lo hi h0 h1 h2
   split at hx
   ·rename_i hc
    cases a with
    |none=>
     obtain ⟨rfl,rfl,rfl⟩:=hs.nilE
     cases hx
     unfold Aw
     simp only [h0,MK hl hln h1,MK hm hmn h2]
     rw [if_pos hc]
     exact ⟨_,rfl,.of_dry rfl⟩
    |some a=>
     rw [hs.slcE]
     unfold Aw
     simp only [h0,MK hl hln h1,MK hm hmn h2]
     rw [if_pos hc]
     simp only at hx ⊢
     split at hx
     ·rename_i hz
      cases hx
      rw [if_pos hz]
      exact ⟨_,rfl,.b (.cell (.slc (a:=⟨a.block,a.off+lo.toNat*s,none⟩)))⟩
     ·cases hx
   ·cases hx
  ·cases hx
 ·cases hx
theorem iQ {P:Program} {t:TypeId} (hs:ShV k u v):J8 k (AY P t u) (AY P t v):=by
 intro x hx
 unfold AY at hx
 split at hx
 ·rw [hs.dryE rfl]
  split at hx
  ·rename_i hu;cases hx;exact ⟨_,by simp only [AY,hu],.of_dry rfl⟩
  ·cases hx
 ·rename_i a n c
  split at hx
  ·rename_i e hu
   cases hx
   cases a with
   |none=>obtain ⟨rfl,rfl,rfl⟩:=hs.nilE;exact ⟨_,by simp only [AY,hu],.of_dry rfl⟩
   |some a=>rw [hs.slcE];exact ⟨_,by simp only [AY,hu],.of_dry rfl⟩
  ·cases hx
 ·cases hx
theorem kU {op:UnOp} (hs:ShV k u v):J8 k (VT op u) (VT op v):=by
 intro x hx
 unfold VT at hx
 split at hx
 ·cases hx;rw [hs.dryE rfl];exact ⟨_,rfl,.of_dry rfl⟩
 ·cases hx;rw [hs.dryE rfl];exact ⟨_,rfl,.of_dry rfl⟩
 ·cases hx
theorem Hl:∀{zs xs:List Value},CO zs xs=true→xs.all dry=true
 |[],[],_=>rfl
 |.int k1 _::z,.int k2 _::x,h=>by simp only [CO,Bool.and_eq_true] at h;simp only [List.all_cons,dry,Bool.true_and];exact Hl h.2
 |.string _::z,.string _::x,h=>by simp only [CO] at h;simp only [List.all_cons,dry,Bool.true_and];exact Hl h
 |.bool _::z,.bool _::x,h=>by simp only [CO] at h;simp only [List.all_cons,dry,Bool.true_and];exact Hl h
theorem QD {op:BinOp} {kd:IntKind} {a b:Int} {x:Value} (h:D8 op kd a b=some x):dry x=true:=by
 unfold D8 at h
 split at h
 ·cases h
 ·split at h<;>first|(cases h;rfl)|cases h
theorem eK {op:BinOp} {kd:IntKind} {a b:Int} {x:Value} (h:D3 op kd a b=some x):dry x=true:=by
 unfold D3 at h
 split at h
 all_goals first|(cases h;rfl)|(split at h<;>first|(cases h;rfl)|cases h)|cases h
theorem fJ {op:BinOp} {a b:ByteArray} {x:Value} (h:Cr op a b=some x):dry x=true:=by
 unfold Cr at h
 split at h
 all_goals first|(cases h;rfl)|(split at h<;>first|(cases h;rfl)|cases h)|cases h
theorem jQ {P:Program} {eqs:List TypeId} {op:BinOp} {t:TypeId} {a a' b b':Value} (ha:ShV k a a') (hb:ShV k b b'):J8 k (EH P eqs op t a b) (EH P eqs op t a' b'):=by
 intro x hx
 have hx0:=hx
 unfold EH at hx
 split at hx
 ·split at hx
  ·rw [ha.dryE rfl,hb.dryE rfl]
   refine ⟨x,hx0,.of_dry ?_⟩
   unfold LZ at hx
   split at hx
   ·exact QD hx
   ·exact QD hx
   ·split at hx
    ·exact eK hx
    ·cases hx
  ·cases hx
 ·split at hx
  ·rw [ha.dryE rfl,hb.dryE rfl];exact ⟨x,hx0,.of_dry (fJ hx)⟩
  ·cases hx
 ·split at hx
  ·rw [ha.dryE rfl,hb.dryE rfl]
   refine ⟨x,hx0,.of_dry ?_⟩
   unfold Kf at hx
   split at hx
   ·split at hx<;>first|(cases hx;rfl)|cases hx
   ·cases hx
  ·cases hx
 ·rename_i xs
  split at hx
  ·rename_i ys
   obtain ⟨xs',rfl,l1⟩:=ha.aggE
   obtain ⟨ys',rfl,l2⟩:=hb.aggE
   have key:∃q,HU P t xs.toList ys.toList=some q∧dry x=true:=by
    unfold Og at hx
    split at hx
    ·split at hx
     ·rename_i q hq
      refine ⟨q,hq,?_⟩
      split at hx<;>first|(cases hx;rfl)|cases hx
     ·cases hx
    ·cases hx
   obtain ⟨q,hq,hd⟩:=key
   have hdry:xs.toList.all dry=true∧ys.toList.all dry=true:=by
    unfold HU at hq
    split at hq
    ·split at hq
     ·rename_i hk
      simp only [Bool.and_eq_true] at hk
      exact ⟨Hl hk.1,Hl hk.2⟩
     ·cases hq
    ·cases hq
   have e1:=l1.shdry hdry.1
   have e2:=l2.shdry hdry.2
   refine ⟨x,?_,.of_dry hd⟩
   subst e1;subst e2
   exact hx0
  ·cases hx
 ·cases hx
end
end Go.Vx
