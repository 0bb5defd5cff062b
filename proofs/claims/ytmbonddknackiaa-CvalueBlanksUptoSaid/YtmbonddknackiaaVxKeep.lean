/- What an operation of the interpreter leaves as it was. -/
import Derived.Test.YtmbonddknackiaaVxOne
namespace Go.Vx
structure Keep (lo:Nat) (h h':H):Prop where
 n:h.n≤h'.n
 get:∀i,i<h.n→i<lo→h'.get i=h.get i
 back:∀i,i<h.n→∀b',h'.get i=some b'→∃b,h.get i=some b∧b.own=b'.own
theorem Keep.refl (lo:Nat) (h:H):Keep lo h h:=⟨Nat.le_refl _,fun _ _ _=>rfl,fun _ _ b' hb=>⟨b',hb,rfl⟩⟩
theorem Keep.trans {lo:Nat} {a b c:H} (h:Keep lo a b) (k:Keep lo b c):Keep lo a c:=
 ⟨Nat.le_trans h.n k.n,fun i hi hl=>(k.get i (Nat.lt_of_lt_of_le hi h.n) hl).trans (h.get i hi hl),fun i hi b' hb=>by
  obtain ⟨b1,h1,h2⟩:=k.back i (Nat.lt_of_lt_of_le hi h.n) b' hb
  obtain ⟨b0,h3,h4⟩:=h.back i hi b1 h1
  exact ⟨b0,h3,h4.trans h2⟩⟩
theorem Keep.lower {lo lo':Nat} {a b:H} (h:Keep lo a b) (hl:lo'≤lo):Keep lo' a b:=⟨h.n,fun i hi hl'=>h.get i hi (Nat.lt_of_lt_of_le hl' hl),h.back⟩
theorem Ls {h:H} {b:Blk}:∀i,i<h.n→∀b',(h.push b).get i=some b'→∃b,h.get i=some b∧b.own=b'.own:=
 fun i hi b' hb=>by rw [H.get_push_ne _ _ (by omega)] at hb;exact ⟨b',hb,rfl⟩
theorem L6 {h:H}:∀i,i<h.n→∀b',h.get i=some b'→∃b,h.get i=some b∧b.own=b'.own:=fun _ _ b' hb=>⟨b',hb,rfl⟩
theorem Keep.push (lo:Nat) (h:H) (b:Blk):Keep lo h (h.push b):=⟨by simp,fun i hi _=>H.get_push_ne _ _ (by omega),Ls⟩
section
variable {P:Program} {eqs:List TypeId} {lo:Nat} {ρ:Operand→Value} {h h':H} {v:Value}
theorem Ku {t xt:TypeId} {s x:Value} (hx:EZ P lo t xt s x h=some (v,h')):
  h.n≤h'.n∧(∀i,i<h.n→(∀a n c,s=.slice (some a) n c→a.block=i→i<lo)→h'.get i=h.get i)∧
   ∀i,i<h.n→∀b',h'.get i=some b'→∃b,h.get i=some b∧b.own=b'.own:=by
 unfold EZ at hx
 simp only [H.getK_eq] at hx
 split at hx
 ·cases hx
 split at hx
 ·cases hx
 split at hx
 ·cases hx
 split at hx
 ·cases hx
 split at hx
 ·cases hx
 ·split at hx
  ·cases hx;exact ⟨Nat.le_refl _,fun _ _ _=>rfl,L6⟩
  ·cases hx
 ·cases s with
  |slice a n sz=>
   cases a with
   |none=>
    split at hx
    ·split at hx
     ·cases hx
      exact ⟨by simp,fun i hi _=>H.get_push_ne _ _ (by omega),Ls⟩
     ·cases hx
    all_goals (first|(cases hx;done)|simp_all)
   |some a=>
    simp only at hx
    split at hx
    ·rename_i b hg
     split at hx
     ·rename_i hc
      cases hx
      refine ⟨by simp,fun i hi hne=>?_,fun i hi b' hb'=>?_⟩
      ·rw [H.get_push_ne _ _ (by simp;omega),H.get_put_ne _ (H.get_lt hg)]
       intro e
       have:=hne a n sz rfl e.symm
       omega
      ·rw [H.get_push_ne _ _ (by simp;omega)] at hb'
       by_cases e:i=a.block
       ·subst e;rw [H.get_put_self _ hg] at hb';cases hb'
       ·rw [H.get_put_ne _ (H.get_lt hg) e] at hb';exact ⟨b',hb',rfl⟩
     ·cases hx
    ·cases hx
  |_=>simp at hx
theorem Td {t:TypeId} {p v:Value} (hx:Fv P lo t h p v=some h'):
  h.n≤h'.n∧(∀i,i<h.n→(∀a,p=.pointer (some a)→a.block=i→i<lo)→h'.get i=h.get i)∧
   ∀i,i<h.n→∀b',h'.get i=some b'→∃b,h.get i=some b∧b.own=b'.own:=by
 unfold Fv at hx
 simp only [H.getK_eq] at hx
 split at hx
 ·rename_i a
  split at hx
  ·rename_i b hg
   split at hx
   ·cases hx
    refine ⟨by simp,fun i hi hne=>?_,fun i hi b' hb'=>?_⟩
    ·rw [H.get_put_ne _ (H.get_lt hg)]
     intro e
     have:=hne a rfl e.symm
     omega
    ·by_cases e:i=a.block
     ·subst e;rw [H.get_put_self _ hg] at hb';cases hb';exact ⟨b,hg,rfl⟩
     ·rw [H.get_put_ne _ (H.get_lt hg) e] at hb';exact ⟨b',hb',rfl⟩
   ·cases hx
  ·cases hx
 ·cases hx
theorem O8 {s d:TypeId} {x:Value} (hx:Bi P lo s d x h=some (v,h')):(h'=h∨∃b,h'=h.push b)∨∃a n sz b,(Bt P s).isSome=true∧(Bt P d).isSome=true∧x=.slice (some a) n sz∧lo≤a.block∧h.get a.block=some b∧h'=(h.put a.block none).push b:=by
 unfold Bi at hx
 simp only [H.getK_eq,D0] at hx
 split at hx
 case h_4 es e a n sz hs hd=>
  right
  split at hx
  ·rename_i b hg
   split at hx
   ·rename_i hc
    cases hx
    exact ⟨a,n,sz,b,by simp [Bt,hs],by simp [Bt,hd],rfl,hc.2.2.2.1,hg,rfl⟩
   ·cases hx
  ·cases hx
 all_goals
  left
  (repeat' split at hx)<;>first
   |(cases hx;done)
   |(cases hx;exact .inl rfl)
   |(cases hx;exact .inr ⟨_,rfl⟩)
theorem Rj {op:Op} (hx:KJ P eqs lo ρ op h=some (.val v,h')):
  h.n≤h'.n∧(∀i,i<h.n→(Hf P ρ op=some i→i<lo)→h'.get i=h.get i)∧∀i,i<h.n→∀b',h'.get i=some b'→∃b,h.get i=some b∧b.own=b'.own:=by
 have push:∀b:Blk,h.n≤(h.push b).n∧(∀i,i<h.n→(Hf P ρ op=some i→i<lo)→(h.push b).get i=h.get i)∧∀i,i<h.n→∀b',(h.push b).get i=some b'→∃b,h.get i=some b∧b.own=b'.own:=
  fun b=>⟨by simp,fun i hi _=>H.get_push_ne _ _ (by omega),Ls⟩
 have same:h.n≤h.n∧(∀i,i<h.n→(Hf P ρ op=some i→i<lo)→h.get i=h.get i)∧∀i,i<h.n→∀b',h.get i=some b'→∃b,h.get i=some b∧b.own=b'.own:=⟨Nat.le_refl _,fun _ _ _=>rfl,L6⟩
 cases op<;>simp only [KJ] at hx<;>try (first|(cases hx;done)|(cases hx;exact same)|(obtain ⟨_,rfl⟩:=CE hx;exact same))
 case alloc t=>unfold Gp at hx;split at hx<;>cases hx;exact push _
 case box t x=>unfold Mc at hx;split at hx<;>cases hx;exact push _
 case buildSlice t n ps=>unfold CQ at hx;(repeat' split at hx)<;>first|(cases hx;done)|(cases hx;exact push _)
 case makeSlice t l c=>unfold Ge at hx;(repeat' split at hx)<;>first|(cases hx;done)|(cases hx;exact push _)
 case store t a x=>
  obtain ⟨hs,rfl⟩:=Md hx
  obtain ⟨h1,h3,h4⟩:=Td hs
  exact ⟨h1,fun i hi ht=>h3 i hi fun a ha hb=>ht (by simp only [Hf,ha,hb]),h4⟩
 case convert s d x=>
  rcases O8 (GZ hx) with (rfl|⟨b,rfl⟩)|⟨a,n,sz,b,h1,h2,ha,hlo,hg,rfl⟩
  ·exact same
  ·exact push b
  ·refine ⟨by simp,fun i hi hne=>?_,fun i hi b' hb'=>?_⟩
   ·rw [H.get_push_ne _ _ (by simp;omega),H.get_put_ne _ (H.get_lt hg)]
    intro e
    have:=hne (by simp only [Hf,h1,h2,ha,Bool.and_self,if_true,e])
    omega
   ·rw [H.get_push_ne _ _ (by simp;omega)] at hb'
    by_cases e:i=a.block
    ·subst e;rw [H.get_put_self _ hg] at hb';cases hb'
    ·rw [H.get_put_ne _ (H.get_lt hg) e] at hb';exact ⟨b',hb',rfl⟩
 case call c=>
  obtain ⟨callee,⟨args⟩,⟨argTypes⟩⟩:=c
  unfold FD at hx
  cases callee with
  |value f=>
   simp only at hx
   unfold F9 at hx
   split at hx
   ·split at hx<;>simp at hx
   ·cases hx
  |invoke r m=>simp at hx
  |builtin bi=>
   cases bi<;>simp only at hx<;>try (cases hx;done)
   case len=>
    (repeat' split at hx)<;>first
     |(cases hx;done)
     |(obtain ⟨_,rfl⟩:=CE hx;exact same)
   case append=>
    split at hx
    ·split at hx
     ·rename_i s x
      obtain ⟨h1,h3,h4⟩:=Ku (GZ hx)
      exact ⟨h1,fun i hi ht=>h3 i hi fun a n c hs hb=>ht (by simp only [Hf,hs,hb]),h4⟩
     ·cases hx
    ·cases hx
theorem Xo {op:Op} (hm:DH P op=false) (hx:KJ P eqs lo ρ op h=some (.val v,h')) {g:H} (hgn:g.n=h.n) (hg:∀r,GL P ρ op=some r→g.get r=h.get r) (lo':Nat):
  (h'=h∧KJ P eqs lo' ρ op g=some (.val v,g))∨∃b,h'=h.push b∧KJ P eqs lo' ρ op g=some (.val v,g.push b):=by
 have res:∀r r':Option Value,De h r=some (.val v,h')→(r=some v→r'=some v)→(h'=h∧De g r'=some (.val v,g))∨∃b,h'=h.push b∧De g r'=some (.val v,g.push b):=fun r r' h1 h2=>by
  obtain ⟨h3,h4⟩:=CE h1
  left
  rw [h2 h3]
  exact ⟨h4,rfl⟩
 cases op<;>simp only [KJ] at hx ⊢<;>try (first|(cases hx;done)|(cases hx;left;exact ⟨rfl,rfl⟩)|exact res _ _ hx id)
 case store t a x=>simp [DH] at hm
 case load t a=>
  refine res _ _ hx fun hu=>?_
  unfold G0 at hu ⊢
  simp only [H.getK_eq] at hu ⊢
  split at hu
  ·rename_i b hb
   rw [hg b.block (by simp only [GL,hb])]
   exact hu
  ·cases hu
 case alloc t=>
  right
  unfold Gp at hx ⊢
  split at hx
  ·cases hx;exact ⟨_,rfl,by simp only [hgn]⟩
  ·cases hx
 case box t x=>
  right
  unfold Mc at hx ⊢
  split at hx
  ·cases hx
  ·cases hx;exact ⟨_,rfl,by simp only [hgn]⟩
 case buildSlice t len parts=>
  right
  unfold CQ at hx ⊢
  split at hx
  ·rename_i e he
   split at hx
   ·rename_i z hz
    split at hx
    ·rename_i hc
     split at hx
     ·rename_i cs hcs
      cases hx
      refine ⟨_,rfl,?_⟩
      simp only [if_pos hc,hgn]
     ·cases hx
    ·cases hx
   ·cases hx
  ·cases hx
 case makeSlice t l c=>
  right
  unfold Ge at hx ⊢
  split at hx
  ·rename_i e l' c' he hl hc
   split at hx
   ·rename_i z hz
    split at hx
    ·rename_i hcc
     cases hx
     refine ⟨_,rfl,?_⟩
     simp only [if_pos hcc,hgn]
    ·cases hx
   ·cases hx
  ·cases hx
 case convert s d x=>
   have hu:=GZ hx
   clear hx
   have conv:(h'=h∧Bi P lo' s d (ρ x) g=some (v,g))∨∃b,h'=h.push b∧Bi P lo' s d (ρ x) g=some (v,g.push b):=by
    unfold Bi at hu ⊢
    simp only [H.getK_eq,D0] at hu ⊢
    split at hu
    ·cases hu;left;exact ⟨rfl,rfl⟩
    ·cases hu;left;exact ⟨rfl,rfl⟩
    ·split at hu
     ·rename_i hc
      cases hu;right
      refine ⟨_,rfl,?_⟩
      simp only [if_pos hc,hgn]
     ·cases hu
    ·rename_i es e a n sz hs hd hx
     exfalso
     simp [DH,Bt,hs,hd] at hm
    ·rename_i e a n sz hs hd hx
     left
     split at hu
     ·rename_i hc
      split at hu
      ·cases hu;refine ⟨rfl,?_⟩;simp only [if_pos hc]
      ·rename_i a
       have hga:=hg a.block (by simp [GL,Bt,hs,BJ,hd,hx])
       simp only [if_pos hc,hga]
       split at hu
       ·split at hu
        ·rename_i hf
         split at hu
         ·rename_i l hl
          cases hu
          refine ⟨rfl,?_⟩
          simp only [if_pos hf]
         ·cases hu
        ·cases hu
       ·cases hu
     ·cases hu
    ·cases hu
   rcases conv with ⟨h1,h2⟩|⟨b,h1,h2⟩
   ·left;exact ⟨h1,by rw [h2];rfl⟩
   ·right;exact ⟨b,h1,by rw [h2];rfl⟩
 case call c=>
  obtain ⟨callee,⟨args⟩,⟨argTypes⟩⟩:=c
  unfold FD at hx ⊢
  cases callee with
  |value f=>
   simp only at hx
   unfold F9 at hx
   split at hx
   ·split at hx<;>simp at hx
   ·cases hx
  |invoke r m=>simp at hx
  |builtin bi=>
   cases bi<;>simp only at hx<;>try (cases hx;done)
   case len=>
    simp only
    split at hx
    ·split at hx
     ·exact res _ _ hx id
     ·cases hx
    ·cases hx
   case append=>simp [DH] at hm
end
section
variable (C:Cx)
def CC (callf:Nat→FuncId→List Value→H→Option (Value×H)):Prop:=∀lo f args h v h',callf lo f args h=some (v,h')→Keep lo h h'
def Ny:Prop:=∀f g,C.told f=some g→∀lo args h v h',g lo args h=some (v,h')→Keep lo h h'
variable {C} {callf:Nat→FuncId→List Value→H→Option (Value×H)}
theorem HC {P:Program} {eqs:List TypeId} {lo:Nat} {ρ:Operand→Value} {h h':H} {op:Op} {f:FuncId} {args:List Value} (hx:KJ P eqs lo ρ op h=some (.call f args,h')):h'=h:=by
 obtain ⟨_,_,_,_,_,_,_,_,_,_,h1⟩:=Kq hx
 exact h1
theorem KL (hc:CC callf) {draw:Bool} {lo:Nat} {ops:List Oper} {o:Oper} {e:BF} {h h':H} {v:Value}
  (hx:Dy C callf draw lo ops o e h=some (v,h')):Keep lo h h':=by
 unfold Dy at hx
 split at hx
 ·split at hx
  ·rename_i v1 h1 h2
   cases hx
   obtain ⟨k1,k2,k3⟩:=Rj h2
   exact ⟨k1,fun i hi hl=>k2 i hi fun _=>hl,k3⟩
  ·rename_i f args h1 h2
   have:=HC h2
   subst this
   have:=hc _ _ _ _ _ _ hx
   refine this.lower ?_
   split
   ·exact Nat.le_max_left _ _
   ·exact Nat.le_refl _
  ·cases hx
 ·cases hx;exact Keep.refl _ _
theorem L8 (hc:CC callf) {draw:Bool} {lo:Nat} {ops:List Oper}:∀(os:List Oper) (e e':BF) (h h':H),Lt C callf draw lo ops os e h=some (e',h')→Keep lo h h'
 |[],e,e',h,h',hx=>by rw [Hc] at hx;cases hx;exact Keep.refl _ _
 |o::os,e,e',h,h',hx=>by
  rw [Dj] at hx
  split at hx
  ·rename_i v h1 h2
   exact (KL hc h2).trans (L8 hc os _ _ _ _ hx)
  ·cases hx
theorem N2 (hc:CC callf) {lo:Nat} {ops:List Oper}:∀(os:List Oper) (e e':BF) (h h':H) (tr),Gm C callf lo ops os e h=some (e',h',tr)→Keep lo h h'
 |[],e,e',h,h',tr,hx=>by rw [Jf] at hx;cases hx;exact Keep.refl _ _
 |o::os,e,e',h,h',tr,hx=>by
  rw [FG] at hx
  split at hx
  ·rename_i v h1 h2
   split at hx
   ·rename_i e2 h3 tr' h4
    cases hx
    exact (KL hc h2).trans (N2 hc os _ _ _ _ _ h4)
   ·cases hx
  ·cases hx
theorem OZ (ht:Ny C) {run:Nat→Code→BF→H→Option (X×BF×H)} (hrun:∀lo c e h x e' h',run lo c e h=some (x,e',h')→Keep lo h h'):CC (Ei C run):=by
 intro lo f args h v h' hx
 unfold Ei at hx
 split at hx
 ·rename_i g hg;exact ht f g hg lo args h v h' hx
 ·split at hx
  ·split at hx
   ·cases hx
   ·split at hx
    ·cases hx
    ·split at hx
     ·rename_i e h1 h2
      split at hx
      ·cases hx;exact hrun _ _ _ _ _ _ _ h2
      ·cases hx
     ·rename_i e h1 h2
      split at hx
      ·cases hx;exact hrun _ _ _ _ _ _ _ h2
      ·cases hx
     ·cases hx
  ·cases hx
theorem V1 (ht:Ny C):∀n lo c e h x e' h',ex C n lo c e h=some (x,e',h')→Keep lo h h':=by
 intro n
 induction n with
 |zero=>intro lo c e h x e' h' hx;rw [F7] at hx;cases hx
 |succ n ih=>
  have hc:=OZ ht ih
  intro lo c e h x e' h' hx
  rw [Cg] at hx
  unfold H2 at hx
  split at hx
  ·cases hx;exact Keep.refl _ _
  ·unfold D9 at hx
   split at hx
   ·split at hx
    ·rename_i h1;cases hx;exact L8 hc _ _ _ _ _ h1
    ·cases hx
   ·split at hx
    ·rename_i h1
     split at hx
     ·cases hx;exact N2 hc _ _ _ _ _ _ h1
     ·cases hx
    ·cases hx
  ·unfold Gn at hx
   split at hx
   ·rename_i h1;exact (ih _ _ _ _ _ _ _ h1).trans (ih _ _ _ _ _ _ _ hx)
   ·exact ih _ _ _ _ _ _ _ hx
  ·unfold I2 at hx
   split at hx
   ·exact ih _ _ _ _ _ _ _ hx
   ·exact ih _ _ _ _ _ _ _ hx
   ·cases hx
  ·unfold Do at hx
   split at hx
   ·rename_i h1
    split at hx<;>(cases hx;exact ih _ _ _ _ _ _ _ h1)
   ·exact ih _ _ _ _ _ _ _ hx
  ·unfold Gn at hx
   split at hx
   ·rename_i h1;exact (ih _ _ _ _ _ _ _ h1).trans (ih _ _ _ _ _ _ _ hx)
   ·exact ih _ _ _ _ _ _ _ hx
  ·cases hx;exact Keep.refl _ _
  ·cases hx;exact Keep.refl _ _
  ·cases hx
end
end Go.Vx
