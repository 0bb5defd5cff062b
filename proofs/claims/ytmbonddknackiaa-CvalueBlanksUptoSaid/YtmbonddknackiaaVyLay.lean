/- Rows that stand before the call, told to the interpreter's heap: by what they read as. -/
import Derived.Test.YtmbonddknackiaaVyFn
import Derived.ChangeArms
import Derived.DataReads
import Derived.SizedLaws
set_option linter.unusedVariables false
namespace Go.Vx
open Go
section
variable {P:Program} {w:World} {base:Nat} {φ φ' φ'':Cy} {h h' h'':H}
structure In (base:Nat) (φ:Cy) (h:H) (w:World):Prop where
 hr:HR base φ h w
 dom:∀i l,φ i=some l→i<h.n
 ro:∀i b,h.get i=some b→b.own=false
def Gr (φ φ':Cy) (h h':H):Prop:=IF φ φ'∧h.n≤h'.n∧∀b,b<h.n→h'.get b=h.get b
theorem Gr.refl (φ:Cy) (h:H):Gr φ φ h h:=⟨fun _ _ h=>h,Nat.le_refl _,fun _ _=>rfl⟩
theorem Gr.trans (a:Gr φ φ' h h') (b:Gr φ' φ'' h' h''):Gr φ φ'' h h'':=
 ⟨fun i l hi=>b.1 i l (a.1 i l hi),Nat.le_trans a.2.1 b.2.1,fun i hi=>(b.2.2 i (Nat.lt_of_lt_of_le hi a.2.1)).trans (a.2.2 i hi)⟩
theorem In.nil (base:Nat) (w:World):In base (fun _=>none) ⟨0,[]⟩ w:=
 ⟨⟨fun i l h=>(by cases h),fun i l b h=>(by cases h),fun i l b h=>(by cases h),fun i j li lj bi bj _ h=>(by cases h)⟩,fun i l h=>(by cases h),fun i b h=>absurd (H.get_lt h) (Nat.not_lt_zero i)⟩
theorem In.push (hi:In base φ h w) {l:Loc} {c:Array Value} {el:TypeId} {fr:Nat×Nat} {xs:List Value} (hw:w.heap[l.blk]?=some (.cells c el fr)) (hl:l.off+l.room≤c.size) (hx:xs.length≤l.room)
  (hc:∀(j:Nat) (v:Value),xs[j]?=some v→∃u,c[l.off+j]?=some u∧CR φ v u):In base (P7 φ h.n l) (h.push ⟨false,xs⟩) w∧Gr φ (P7 φ h.n l) h (h.push ⟨false,xs⟩):=by
 have hn:φ h.n=none:=by
  cases e:φ h.n with
  |none=>rfl
  |some l=>exact absurd (hi.dom _ _ e) (Nat.lt_irrefl _)
 have hle:IF φ (P7 φ h.n l):=O1 hn
 have hro:∀i b,(h.push ⟨false,xs⟩).get i=some b→b.own=false:=fun i b hb=>by
  by_cases e:i=h.n
  ·subst e;rw [H.get_push_self] at hb;cases hb;rfl
  ·rw [H.get_push_ne _ _ e] at hb;exact hi.ro i b hb
 refine ⟨⟨⟨fun i l' h1=>?_,fun i l' b h1 h2=>?_,fun i l' b h1 h2 h3=>?_,fun i j li lj bi bj _ _ _ h1 _ h3=>?_⟩,fun i l' h1=>?_,hro⟩,hle,by simp,fun b hb=>H.get_push_ne _ _ (by omega)⟩
 ·by_cases e:i=h.n
  ·subst e;rw [B0] at h1;cases h1
   have:=(Array.getElem?_eq_some_iff.mp hw).1
   exact this
  ·rw [DP _ _ e] at h1;exact hi.hr.bound i l' h1
 ·by_cases e:i=h.n
  ·subst e;rw [B0] at h1;cases h1
   rw [H.get_push_self] at h2;cases h2
   exact ⟨c,el,fr,hw,hl,hx,fun j v hv=>let ⟨u,a,b⟩:=hc j v hv;⟨u,a,b.mono hle⟩,fun h=>by cases h⟩
  ·rw [DP _ _ e] at h1;rw [H.get_push_ne _ _ e] at h2
   exact (hi.hr.live i l' b h1 h2).mono hle
 ·rw [hro i b h2] at h3;cases h3
 ·rw [hro i bi h1] at h3;cases h3
 ·by_cases e:i=h.n
  ·subst e;simp
  ·rw [DP _ _ e] at h1;have:=hi.dom i l' h1;simp;omega
def Hv (φ:Cy) (h:H) (us cs:List Value) (ps:List PC):Prop:=All2 (CR φ) us cs∧L2 (PRep (fun b=>b<h.n) h) ps us
theorem Hv.mono {us cs:List Value} {ps:List PC} (hl:Hv φ h us cs ps) (g:Gr φ φ' h h'):Hv φ' h' us cs ps:=
 ⟨hl.1.mono fun _ _ hc=>hc.mono g.1,hl.2.prep_mono (fun b hb=>Nat.lt_of_lt_of_le hb g.2.1) fun b hb=>g.2.2 b hb⟩
theorem Hv.len {us cs:List Value} {ps:List PC} (hl:Hv φ h us cs ps):us.length=cs.length∧ps.length=us.length:=⟨hl.1.1,hl.2.1⟩
theorem Hv.app {us cs us' cs':List Value} {ps ps':List PC} (a:Hv φ h us cs ps) (b:Hv φ h us' cs' ps'):Hv φ h (us++us') (cs++cs') (ps++ps'):=⟨a.1.append b.1,a.2.append b.2⟩
theorem Hv.nil:Hv φ h [] [] []:=⟨⟨rfl,fun i v h=>by simp at h⟩,L2.nil⟩
theorem Hv.dry {cs:List Value} (hd:cs.all Vx.dry=true):Hv φ h cs cs (cs.map .d):=
 ⟨All2.same fun v hv=>It (List.all_eq_true.mp hd v hv),L2.dmap hd⟩
def Lays {D:Type} (enc:TypeId×Value→D) (P:Program) (w:World) (base m:Nat) (e:TypeId) (E:List PC→Prop):Prop:=
 ∀(cs:List Value) (x:DataW D×List MemPlace) (φ:Cy) (h:H),In base φ h w→DataW.trod enc P w 0 (fun _=>true) true m e cs=some x→(x.1.weights P e).all (·≤reachBytes)=true→
  ∃(φ':Cy) (h':H) (us:List Value) (ps:List PC),In base φ' h' w∧Gr φ φ' h h'∧Hv φ' h' us cs ps∧E ps
variable {D:Type} {enc:TypeId×Value→D}
theorem QO {m:Nat} {e:TypeId} {E:List PC→Prop} (hE:Lays enc P w base m e E):∀(css:List (List Value)) (φ:Cy) (h:H),In base φ h w→(∀cs,cs∈css→∃x,DataW.trod enc P w 0 (fun _=>true) true m e cs=some x∧(x.1.weights P e).all (·≤reachBytes)=true)→
  ∃(φ':Cy) (h':H) (us:List Value) (pss:List (List PC)),In base φ' h' w∧Gr φ φ' h h'∧Hv φ' h' us css.flatten pss.flatten∧pss.length=css.length∧(∀(i:Nat) (ps:List PC) (cs:List Value),pss[i]?=some ps→css[i]?=some cs→ps.length=cs.length)∧∀ps,ps∈pss→E ps
 |[],φ,h,hi,_=>⟨φ,h,[],[],hi,.refl _ _,.nil,rfl,fun i ps cs h=>by simp at h,fun ps h=>by simp at h⟩
 |cs::css,φ,h,hi,hr=>by
  obtain ⟨x,hx,hxw⟩:=hr cs (List.mem_cons_self ..)
  obtain ⟨φ1,h1,us,ps,i1,g1,l1,e1⟩:=hE cs x φ h hi hx hxw
  obtain ⟨φ2,h2,us2,pss,i2,g2,l2,n2,k2,e2⟩:=QO hE css φ1 h1 i1 fun cs' hc=>hr cs' (List.mem_cons_of_mem _ hc)
  refine ⟨φ2,h2,us++us2,ps::pss,i2,g1.trans g2,(l1.mono g2).app l2,by simp [n2],fun i p c hp hc=>?_,fun p hp=>?_⟩
  ·cases i with
   |zero=>simp at hp hc;subst hp hc;have:=l1.len;omega
   |succ i=>exact k2 i p c (by simpa using hp) (by simpa using hc)
  ·rcases List.mem_cons.mp hp with rfl|hp
   ·exact e1
   ·exact e2 p hp
theorem Iv {R:Value→Value→Prop} {u v:Value} (h:R u v):All2 R [u] [v]:=⟨rfl,fun i x hx=>by
 cases i with
 |zero=>simp at hx;subst hx;exact ⟨v,rfl,h⟩
 |succ i=>simp at hx⟩
theorem TF {e:TypeId} {ds:List (DataW D)}:(DataW.weightsAll P e ds).all (·≤reachBytes)=true→∀d,d∈ds→(d.weights P e).all (·≤reachBytes)=true:=by
 induction ds with
 |nil=>intro _ d h;simp at h
 |cons a r ih=>
  intro h d hd
  rw [DataW.weightsAll,List.all_append,Bool.and_eq_true] at h
  rcases List.mem_cons.mp hd with rfl|hd
  ·exact h.1
  ·exact ih h.2 d hd
end
end Go.Vx
