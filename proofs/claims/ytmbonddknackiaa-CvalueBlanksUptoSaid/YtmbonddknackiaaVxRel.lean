/- The relation between the interpreter's heap and the model's memory. -/
import Derived.Test.YtmbonddknackiaaVxSem
import Derived.Laws.Append
import Derived.Laws.AppendOwn
import Derived.Laws.IdiomCopy
namespace Go.Vx
open Go.RowKit
theorem CE {h h':H} {r:Option Value} {v:Value} (hx:De h r=some (.val v,h')):r=some v∧h'=h:=by
 cases r with
 |none=>cases hx
 |some u=>simp only [De] at hx;cases hx;exact ⟨rfl,rfl⟩
theorem OU {h h':H} {r:Option Value} {f:FuncId} {args:List Value} (hx:De h r=some (.call f args,h')):False:=by
 cases r<;>simp [De] at hx
theorem GZ {h':H} {r:Option (Value×H)} {v:Value} (hx:Fq r=some (.val v,h')):r=some (v,h'):=by
 cases r with
 |none=>cases hx
 |some u=>obtain ⟨u,g⟩:=u;simp only [Fq] at hx;cases hx;rfl
theorem MV {h':H} {r:Option (Value×H)} {f:FuncId} {args:List Value} (hx:Fq r=some (.call f args,h')):False:=by
 cases r with
 |none=>cases hx
 |some u=>obtain ⟨u,g⟩:=u;simp [Fq] at hx
theorem Md {h':H} {r:Option H} {v:Value} (hx:JL r=some (.val v,h')):r=some h'∧v=undef:=by
 cases r with
 |none=>cases hx
 |some u=>simp only [JL] at hx;cases hx;exact ⟨rfl,rfl⟩
theorem Kq {P:Program} {eqs:List TypeId} {lo:Nat} {ρ:Operand→Value} {h h':H} {op:Op} {f:FuncId} {args:List Value} (hx:KJ P eqs lo ρ op h=some (.call f args,h')):
  ∃g as ts a b,op=.call {callee:=.value g,args:=as,argTypes:=ts}∧ρ g=.func (.func f) a b∧a.toList.isEmpty=true∧b.toList.isEmpty=true∧args=as.toList.map ρ∧h'=h:=by
 cases op<;>simp only [KJ] at hx<;>try (first|(cases hx;done)|exact (OU hx).elim|exact (MV hx).elim)
 case alloc t=>unfold Gp at hx;split at hx<;>simp at hx
 case box t x=>unfold Mc at hx;split at hx<;>simp at hx
 case buildSlice t n ps=>exfalso;unfold CQ at hx;(repeat' split at hx)<;>simp at hx
 case store t a x=>exfalso;unfold JL at hx;split at hx<;>simp at hx
 case makeSlice t l c=>exfalso;unfold Ge at hx;(repeat' split at hx)<;>simp at hx
 case call c=>
  obtain ⟨callee,as,ts⟩:=c
  unfold FD at hx
  cases callee with
  |value g=>
   simp only at hx
   unfold F9 at hx
   split at hx
   ·rename_i f' a b hg
    split at hx
    ·rename_i hab
     simp only [Bool.and_eq_true] at hab
     simp at hx
     obtain ⟨⟨rfl,rfl⟩,rfl⟩:=hx
     exact ⟨g,as,ts,a,b,rfl,hg,hab.1,hab.2,rfl,rfl⟩
    ·cases hx
   ·cases hx
  |invoke r m=>simp at hx
  |builtin bi=>
   exfalso
   cases bi<;>simp only at hx<;>try (cases hx;done)
   ·split at hx
    ·split at hx
     ·exact MV hx
     ·cases hx
    ·cases hx
   ·split at hx
    ·split at hx
     ·exact OU hx
     ·cases hx
    ·cases hx
theorem H.get_of_lt {h:H} {i:Nat} (hi:i<h.n):h.get i=(h.bs[h.n - 1 - i]?).join:=if_pos hi
theorem H.get_ge {h:H} {i:Nat} (hi:h.n≤i):h.get i=none:=if_neg (by omega)
theorem H.get_lt {h:H} {i:Nat} {b:Blk} (hg:h.get i=some b):i<h.n:=by
 apply Classical.byContradiction
 intro hc
 rw [H.get_ge (by omega)] at hg
 cases hg
theorem H.get_push_self (h:H) (b:Blk):(h.push b).get h.n=some b:=by
 rw [H.get_of_lt (h:=h.push b) (show h.n<h.n+1 by omega)]
 show ((some b::h.bs)[h.n+1 - 1 - h.n]?).join=some b
 rw [show h.n+1 - 1 - h.n=0 by omega]
 rfl
theorem H.get_push_ne (h:H) (b:Blk) {i:Nat} (hi:i≠h.n):(h.push b).get i=h.get i:=by
 by_cases h1:i<h.n
 ·rw [H.get_of_lt h1,H.get_of_lt (h:=h.push b) (show i<h.n+1 by omega)]
  show ((some b::h.bs)[h.n+1 - 1 - i]?).join=_
  rw [show h.n+1 - 1 - i=(h.n - 1 - i)+1 by omega,List.getElem?_cons_succ]
 ·rw [H.get_ge (h:=h) (by omega),H.get_ge (h:=h.push b) (show h.n+1≤i by omega)]
theorem H.get_put_ne {h:H} {i j:Nat} (x:Option Blk) (hj:j<h.n) (hij:i≠j):(h.put j x).get i=h.get i:=by
 by_cases h1:i<h.n
 ·rw [H.get_of_lt h1,H.get_of_lt (h:=h.put j x) h1]
  show ((h.bs.set (h.n - 1 - j) x)[h.n - 1 - i]?).join=_
  rw [List.getElem?_set_ne (by omega)]
 ·rw [H.get_ge (h:=h) (by omega),H.get_ge (h:=h.put j x) (show h.n≤i by omega)]
theorem H.get_put_self {h:H} {j:Nat} {b:Blk} (x:Option Blk) (hg:h.get j=some b):(h.put j x).get j=x:=by
 have hj:=H.get_lt hg
 rw [H.get_of_lt hj] at hg
 rw [H.get_of_lt (h:=h.put j x) hj]
 show ((h.bs.set (h.n - 1 - j) x)[h.n - 1 - j]?).join=x
 have hl:h.n - 1 - j<h.bs.length:=by
  apply Classical.byContradiction
  intro hc
  rw [List.getElem?_eq_none (by omega)] at hg
  cases hg
 rw [List.getElem?_set_self hl];rfl
@[simp] theorem H.n_push (h:H) (b:Blk):(h.push b).n=h.n+1:=rfl
@[simp] theorem H.n_put (h:H) (i:Nat) (x:Option Blk):(h.put i x).n=h.n:=rfl
structure Loc where
 blk:Nat
 off:Nat
 room:Nat
 mark:Bool
abbrev Cy:=Nat→Option Loc
def All2 (R:Value→Value→Prop) (xs ys:List Value):Prop:=
 xs.length=ys.length∧∀(i:Nat) (v:Value),xs[i]?=some v→∃u,ys[i]?=some u∧R v u
def CR (φ:Cy):Value→Value→Prop
 |.pointer (some a),v=>∃l,φ a.block=some l∧v=.pointer (some ⟨l.blk,l.off+a.off,none⟩)
 |.slice (some a) n s,v=>∃l ca cc,φ a.block=some l∧v=.slice (some ca) n cc∧n≤cc∧cc≤maxLen∧a.off+cc*s≤l.room∧(ca=⟨l.blk,l.off+a.off,none⟩∨cc=0)∧(s=1→ca.block=l.blk)∧(s≠1→l.mark=false)
 |u,v=>dry u=true∧v=u
def AR (φ:Cy):Value→Value→Prop
 |.agg xs,v=>∃ys,v=.agg ys∧All2 (CR φ) xs.toList ys.toList
 |u,v=>CR φ u v
def VR (φ:Cy):Value→Value→Prop
 |.tuple xs,v=>∃ys,v=.tuple ys∧All2 (AR φ) xs.toList ys.toList
 |u,v=>AR φ u v
theorem AR.cr {φ:Cy} {u v:Value} (hu:∀xs,u≠.agg xs):AR φ u v=CR φ u v:=by
 cases u<;>first|rfl|exact absurd rfl (hu _)
theorem VR.ar {φ:Cy} {u v:Value} (hu:∀xs,u≠.tuple xs):VR φ u v=AR φ u v:=by
 cases u<;>first|rfl|exact absurd rfl (hu _)
def IF (φ φ':Cy):Prop:=∀i l,φ i=some l→φ' i=some l
theorem All2.mono {R R':Value→Value→Prop} {xs ys:List Value} (h:All2 R xs ys) (hr:∀a b,R a b→R' a b):All2 R' xs ys:=
 ⟨h.1,fun i v hv=>let ⟨u,h1,h2⟩:=h.2 i v hv;⟨u,h1,hr _ _ h2⟩⟩
theorem CR.mono {φ φ':Cy} (hφ:IF φ φ'):∀{u v:Value},CR φ u v→CR φ' u v:=by
 intro u v h
 cases u with
 |pointer a=>cases a with
  |none=>exact h
  |some a=>obtain ⟨l,h1,h2⟩:=h;exact ⟨l,hφ _ _ h1,h2⟩
 |slice a n c=>cases a with
  |none=>exact h
  |some a=>obtain ⟨l,ca,cc,h1,h2⟩:=h;exact ⟨l,ca,cc,hφ _ _ h1,h2⟩
 |_=>exact h
theorem AR.mono {φ φ':Cy} (hφ:IF φ φ'):∀{u v:Value},AR φ u v→AR φ' u v:=by
 intro u v h
 cases u with
 |agg xs=>obtain ⟨ys,h1,h2⟩:=h;exact ⟨ys,h1,h2.mono fun _ _=>CR.mono hφ⟩
 |_=>rw [AR.cr (by simp)] at h ⊢;exact CR.mono hφ h
theorem VR.mono {φ φ':Cy} (hφ:IF φ φ'):∀{u v:Value},VR φ u v→VR φ' u v:=by
 intro u v h
 cases u with
 |tuple xs=>obtain ⟨ys,h1,h2⟩:=h;exact ⟨ys,h1,h2.mono fun _ _=>AR.mono hφ⟩
 |_=>rw [VR.ar (by simp)] at h ⊢;exact AR.mono hφ h
theorem It {φ:Cy} {u:Value} (h:dry u=true):CR φ u u:=by
 cases u with
 |pointer a=>cases a with
  |none=>exact ⟨h,rfl⟩
  |some a=>simp [Vx.dry] at h
 |slice a n c=>cases a with
  |none=>exact ⟨h,rfl⟩
  |some a=>simp [Vx.dry] at h
 |_=>exact ⟨h,rfl⟩
theorem All2.same {R:Value→Value→Prop} {xs:List Value} (h:∀v∈xs,R v v):All2 R xs xs:=
 ⟨rfl,fun _ v hv=>⟨v,hv,h v (List.mem_of_getElem? hv)⟩⟩
theorem All2.nil {R:Value→Value→Prop}:All2 R [] []:=⟨rfl,fun i v h=>by simp at h⟩
theorem D6 {φ:Cy} {u:Value} (h:Hx u=true):VR φ u u:=by
 cases u with
 |agg xs=>
  simp only [Hx,List.all_eq_true] at h
  exact ⟨xs,rfl,All2.same fun v hv=>It (h v hv)⟩
 |tuple xs=>simp [Hx,Vx.dry] at h
 |_=>rw [VR.ar (by simp),AR.cr (by simp)];exact It (by simpa only [Hx] using h)
theorem VR.undef {φ:Cy}:VR φ undef undef:=⟨#[],rfl,All2.nil⟩
theorem AR.vr {φ:Cy} {u v:Value} (h:AR φ u v):VR φ u v:=by
 cases u with
 |tuple xs=>rw [AR.cr (by simp)] at h;exact absurd h.1 (by simp [Vx.dry])
 |_=>rw [VR.ar (by simp)];exact h
theorem CR.ar {φ:Cy} {u v:Value} (h:CR φ u v):AR φ u v:=by
 cases u with
 |agg xs=>exact absurd h.1 (by simp [Vx.dry])
 |_=>rw [AR.cr (by simp)];exact h
theorem CR.vr {φ:Cy} {u v:Value} (h:CR φ u v):VR φ u v:=h.ar.vr
theorem CR.oneCell {φ:Cy} {u v:Value} (h:CR φ u v):v.oneCell'=true:=by
 cases u with
 |pointer a=>cases a with
  |none=>obtain ⟨_,rfl⟩:=h;rfl
  |some a=>obtain ⟨l,_,rfl⟩:=h;rfl
 |slice a n c=>cases a with
  |none=>obtain ⟨_,rfl⟩:=h;rfl
  |some a=>obtain ⟨l,ca,cc,_,rfl,_⟩:=h;rfl
 |agg xs=>exact absurd h.1 (by simp [Vx.dry])
 |tuple xs=>exact absurd h.1 (by simp [Vx.dry])
 |_=>obtain ⟨_,rfl⟩:=h;rfl
section All2
variable {R:Value→Value→Prop} {xs ys xs' ys':List Value}
theorem All2.take (h:All2 R xs ys) (n:Nat):All2 R (xs.take n) (ys.take n):=by
 refine ⟨by simp [h.1],fun i v hv=>?_⟩
 rw [List.getElem?_take] at hv ⊢
 split at hv
 ·rename_i hi;rw [if_pos hi];exact h.2 i v hv
 ·cases hv
theorem All2.drop (h:All2 R xs ys) (n:Nat):All2 R (xs.drop n) (ys.drop n):=by
 refine ⟨by simp [h.1],fun i v hv=>?_⟩
 rw [List.getElem?_drop] at hv ⊢
 exact h.2 _ v hv
theorem All2.append (h:All2 R xs ys) (h':All2 R xs' ys'):All2 R (xs++xs') (ys++ys'):=by
 refine ⟨by simp [h.1,h'.1],fun i v hv=>?_⟩
 rw [List.getElem?_append] at hv ⊢
 rw [←h.1]
 split at hv
 ·rename_i hi;rw [if_pos hi];exact h.2 i v hv
 ·rename_i hi;rw [if_neg hi];exact h'.2 _ v hv
theorem All2.splice {off:Nat} (h:All2 R xs ys) (h':All2 R xs' ys'):All2 R (splice xs off xs') (splice ys off ys'):=by
 unfold Vx.splice;rw [←h'.1];exact ((h.take _).append h').append (h.drop _)
end All2
theorem VR.clist {φ:Cy} {u v:Value} (h:VR φ u v) (hu:∀xs,u≠.tuple xs):All2 (CR φ) (clist u) v.cells.toList:=by
 cases u with
 |tuple xs=>exact absurd rfl (hu xs)
 |agg xs=>obtain ⟨ys,rfl,h2⟩:=h;exact h2
 |_=>
  rw [VR.ar (by simp),AR.cr (by simp)] at h
  have hc:=CR.oneCell h
  have hv:v.cells=#[v]:=by cases v<;>first|rfl|(simp [Value.oneCell'] at hc)
  rw [hv]
  refine ⟨rfl,fun i w hw=>?_⟩
  cases i with
  |zero=>simp [Vx.clist] at hw;subst hw;exact ⟨v,by simp,h⟩
  |succ i=>simp [Vx.clist] at hw
def BR (φ:Cy) (b:Blk) (l:Loc) (w:World):Prop:=
 ∃c el fr,w.heap[l.blk]?=some (.cells c el fr)∧l.off+l.room≤c.size∧b.cells.length≤l.room∧
  (∀j v,b.cells[j]?=some v→∃u,c[l.off+j]?=some u∧CR φ v u)∧
  (b.own=true→fr.1=fr.2∨(l.mark=true∧c.size≤fr.1))
theorem BR.mono {φ φ':Cy} {b:Blk} {l:Loc} {w:World} (h:BR φ b l w) (hφ:IF φ φ'):BR φ' b l w:=by
 obtain ⟨c,el,fr,h1,h2,h3,h5,h6⟩:=h
 exact ⟨c,el,fr,h1,h2,h3,fun j v hv=>let ⟨u,a,b⟩:=h5 j v hv;⟨u,a,b.mono hφ⟩,h6⟩
theorem BR.same {φ:Cy} {b:Blk} {l:Loc} {w w':World} (h:BR φ b l w) (he:w'.heap[l.blk]?=w.heap[l.blk]?):BR φ b l w':=by
 obtain ⟨c,el,fr,h1,h2⟩:=h
 exact ⟨c,el,fr,he.trans h1,h2⟩
structure HRg (base:Nat) (φ:Cy) (g:Nat→Option Blk) (w:World):Prop where
 bound:∀i l,φ i=some l→l.blk<w.heap.size
 live:∀i l b,φ i=some l→g i=some b→BR φ b l w
 base:∀i l b,φ i=some l→g i=some b→b.own=true→base≤l.blk
 sep:∀i j li lj bi bj,i≠j→φ i=some li→φ j=some lj→g i=some bi→g j=some bj→bi.own=true→li.blk≠lj.blk
abbrev HR (base:Nat) (φ:Cy) (h:H) (w:World):Prop:=HRg base φ h.get w
def IH (lo:Nat) (φ:Cy) (h:H) (b:Nat):Prop:=∃i l bl,φ i=some l∧h.get i=some bl∧bl.own=true∧lo≤i∧l.blk=b
structure Step (base lo:Nat) (φ φ':Cy) (h h':H) (w w':World):Prop where
 ext:IF φ φ'
 dom:∀i,φ' i≠none→φ i≠none∨(h.n≤i∧i<h'.n)
 n:h.n≤h'.n
 heap:HR base φ' h' w'
 below:Below base w w'
 frame:∀b,b<w.heap.size→¬IH lo φ h b→w'.heap[b]?=w.heap[b]?
 fresh:∀i l,φ' i=some l→φ i=none→w.heap.size≤l.blk∨IH lo φ h l.blk
 back:∀i,i<h.n→∀b',h'.get i=some b'→∃b,h.get i=some b∧b.own=b'.own
theorem Step.refl {base lo:Nat} {φ:Cy} {h:H} {w:World} (hh:HR base φ h w):Step base lo φ φ h h w w where
 ext:=fun _ _ h=>h
 dom:=fun _ h=>.inl h
 n:=Nat.le_refl _
 heap:=hh
 below:=Below.refl _ _
 frame:=fun _ _ _=>rfl
 fresh:=fun i l h1 h2=>by rw [h1] at h2;cases h2
 back:=fun _ _ b' h=>⟨b',h,rfl⟩
theorem Step.turns {base lo:Nat} {φ φ':Cy} {h h':H} {w w':World} (s:Step base lo φ φ' h h' w w')
  (hn:∀i,h.n≤i→i<h'.n→φ i=none) {b:Nat} (hb:b<w.heap.size) (ht:IH lo φ' h' b):IH lo φ h b:=by
 obtain ⟨i,l,bl,h1,h2,h3,h4,h5⟩:=ht
 have hi:=H.get_lt h2
 cases hφ:φ i with
 |none=>
  rcases s.fresh i l h1 hφ with hc|hc
  ·omega
  ·rw [h5] at hc;exact hc
 |some l'=>
  have:l'=l:=by have:=s.ext i l' hφ;rw [h1] at this;exact (Option.some.inj this).symm
  subst this
  have hlt:i<h.n:=by
   apply Classical.byContradiction
   intro hc
   have:=hn i (by omega) hi
   rw [hφ] at this;cases this
  obtain ⟨b0,hb0,ho⟩:=s.back i hlt bl h2
  exact ⟨i,l',b0,hφ,hb0,ho.trans h3,h4,h5⟩
theorem Step.trans {base lo:Nat} {φ φ1 φ2:Cy} {h h1 h2:H} {w w1 w2:World}
  (s:Step base lo φ φ1 h h1 w w1) (t:Step base lo φ1 φ2 h1 h2 w1 w2) (hn:∀i,h.n≤i→i<h2.n→φ i=none):
  Step base lo φ φ2 h h2 w w2 where
 ext:=fun i l h=>t.ext i l (s.ext i l h)
 dom:=fun i h=>by
  rcases t.dom i h with h|h
  ·rcases s.dom i h with h|h
   ·exact .inl h
   ·exact .inr ⟨h.1,Nat.lt_of_lt_of_le h.2 t.n⟩
  ·exact .inr ⟨Nat.le_trans s.n h.1,h.2⟩
 n:=Nat.le_trans s.n t.n
 heap:=t.heap
 below:=s.below.trans t.below
 frame:=fun b hb hnt=>by
  rw [t.frame b (Nat.lt_of_lt_of_le hb s.below.size) fun ht=>hnt (s.turns (fun i a b=>hn i a (Nat.lt_of_lt_of_le b t.n)) hb ht),s.frame b hb hnt]
 fresh:=fun i l hi h0=>by
  cases hφ:φ1 i with
  |some l1=>
   have:=t.ext i l1 hφ;rw [hi] at this;cases this
   exact s.fresh i l hφ h0
  |none=>
   rcases t.fresh i l hi hφ with hc|hc
   ·exact .inl (Nat.le_trans s.below.size hc)
   ·by_cases hb:l.blk<w.heap.size
    ·exact .inr (s.turns (fun i a b=>hn i a (Nat.lt_of_lt_of_le b t.n)) hb hc)
    ·exact .inl (by omega)
 back:=fun i hi b' hb'=>by
  obtain ⟨b1,hb1,ho⟩:=t.back i (Nat.lt_of_lt_of_le hi s.n) b' hb'
  obtain ⟨b0,hb0,ho'⟩:=s.back i hi b1 hb1
  exact ⟨b0,hb0,ho'.trans ho⟩
theorem Step.lower {base lo lo':Nat} {φ φ':Cy} {h h':H} {w w':World} (s:Step base lo φ φ' h h' w w') (hl:lo'≤lo):Step base lo' φ φ' h h' w w' where
 ext:=s.ext
 dom:=s.dom
 n:=s.n
 heap:=s.heap
 below:=s.below
 frame:=fun b hb hnt=>s.frame b hb fun ⟨i,l,bl,h1,h2,h3,h4,h5⟩=>hnt ⟨i,l,bl,h1,h2,h3,Nat.le_trans hl h4,h5⟩
 fresh:=fun i l h1 h2=>(s.fresh i l h1 h2).imp id fun ⟨i,l,bl,h1,h2,h3,h4,h5⟩=>⟨i,l,bl,h1,h2,h3,Nat.le_trans hl h4,h5⟩
 back:=s.back
end Go.Vx
