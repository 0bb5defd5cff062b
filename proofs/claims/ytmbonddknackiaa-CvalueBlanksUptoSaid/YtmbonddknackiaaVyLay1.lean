/- Rows that stand before the call, whose elements may be of one cell: told by what they read as. -/
import Derived.Test.YtmbonddknackiaaVyLay
set_option linter.unusedVariables false
namespace Go.Vx
open Go
section
variable {P:Program} {w:World} {base:Nat} {φ φ' φ'':Cy} {h h' h'':H} {D:Type} {enc:TypeId×Value→D}
theorem QX {m:Nat} {t e:TypeId} {E:List PC→Prop} (hE:Lays enc P w base m e E) (ht:P.underlying t=some (.slice e)) (hsz:0<P.cellsOf e) {cs:List Value} (hg:∀(a:Addr) (n c:Nat),cs=[.slice (some a) n c]→∃c el fr,w.heap[a.block]?=some (.cells c el fr)) (x:DataW D×List MemPlace) (φ:Cy) (h:H) (hi:In base φ h w) (hx:DataW.trod enc P w 0 (fun _=>true) true (m+1) t cs=some x) (hxw:(x.1.weights P t).all (·≤reachBytes)=true):
  ∃(φ':Cy) (h':H) (us:List Value) (ps:List PC),In base φ' h' w∧Gr φ φ' h h'∧Hv φ' h' us cs ps∧∃els:List (List PC),ps=[.row (P.cellsOf e) els]∧els.length*P.bytesOf e≤reachBytes∧(∀p,p∈els→E p)∧∀(a:Addr) (n c:Nat),cs=[.slice (some a) n c]→∃es sp,x.1=.slice es sp∧els.length=es.length:=by
 generalize hz:P.cellsOf e=sz at hsz
 rcases DataW.trod_slice ht hx with ⟨rfl,_⟩|⟨a,len,cap,elems,rest,n,hn,rfl,hxe,_,hlc,hcm,hel,he,hr,_⟩
 ·exact ⟨φ,h,[.slice none 0 0],[.row _ []],hi,.refl _ _,⟨Iv (It rfl),L2.single PRep.nil⟩,[],rfl,by simp,by simp,fun _ _ _ e=>by cases e⟩
 ·obtain rfl:m=n:=by omega
  rw [hz] at he hr
  have hxe0:x.1=.slice (elems.map (·.1)) (rest.map (·.1)):=congrArg Prod.fst hxe
  rw [hxe] at hxw
  simp only [DataW.weights,ht,List.all_cons,List.all_append,Bool.and_eq_true,decide_eq_true_eq,List.length_map] at hxw
  obtain ⟨hwt,hwe,_⟩:=hxw
  have hlb:len*P.bytesOf e≤reachBytes:=Nat.le_trans (Nat.mul_le_mul_right _ (by omega)) hwt
  obtain ⟨hrl,hr⟩:=hr rfl
  have hread:∀i,i<cap→∃cs y,w.cells? 0 (a.add (i*sz)) sz=some cs∧DataW.trod enc P w 0 (fun _=>true) true m e cs=some y:=by
   intro i hic
   by_cases hil:i<len
   ·have h1:=he i hil
    have h2:elems[i]?=some elems[i]:=List.getElem?_eq_getElem (by omega)
    rw [h2,Option.bind_eq_some_iff] at h1
    obtain ⟨cs,h3,h4⟩:=h1
    exact ⟨cs,_,h3,h4⟩
   ·have h1:=hr (i - len) (by omega)
    have h2:rest[i - len]?=some rest[i - len]:=List.getElem?_eq_getElem (by omega)
    rw [h2,Option.bind_eq_some_iff,show len+(i - len)=i by omega] at h1
    obtain ⟨cs,h3,h4⟩:=h1
    exact ⟨cs,_,h3,h4⟩
  by_cases hc0:cap=0
  ·obtain ⟨c,el,fr,hw⟩:=hg _ _ _ rfl
   obtain ⟨i1,g1⟩:=hi.push (l:=⟨a.block,0,0,false⟩) (xs:=[]) hw (by simp) (by simp) (fun j v hv=>by simp at hv)
   obtain rfl:len=0:=by omega
   subst hc0
   refine ⟨_,_,[.slice (some ⟨h.n,0,none⟩) 0 sz],[.row sz []],i1,g1,⟨Iv ⟨⟨a.block,0,0,false⟩,a,0,B0 _ _ _,rfl,by simp,by simp,by simp,.inr rfl,fun _=>rfl,fun _=>rfl⟩,L2.single ?_⟩,[],by simp,by simp,by simp,fun _ _ _ _=>⟨_,_,hxe0,by rw [List.length_map,hel];rfl⟩⟩
   exact PRep.row (b:=h.n) (off:=0) (els:=[]) (blk:=⟨false,[]⟩) (by simp) (H.get_push_self _ _) (by simp) (by omega) (by simp) (by simp)
  ·
   have hcell:∀i,i<cap→∀r,r<sz→∃v,w.cell? ((a.add (i*sz)).add r)=some v:=fun i hic r hr=>by
    obtain ⟨cs,_,h1,_⟩:=hread i hic
    obtain ⟨_,h2,h3⟩:=World.cells?_some h1
    exact ⟨cs[r],by rw [h3 r hr];exact List.getElem?_eq_getElem (by omega)⟩
   obtain ⟨v0,hv0⟩:=hcell 0 (by omega) 0 (by omega)
   have ea:(a.add (0*sz)).add 0=a:=by simp [Addr.add]
   rw [ea] at hv0
   obtain ⟨b,off,spot⟩:=a
   unfold World.cell? at hv0
   split at hv0
   rotate_left
   ·cases hv0
   rename_i c el fr hw
   split at hv0
   ·cases hv0
   rename_i hspot
   simp only at hspot hw hv0
   obtain rfl:spot=none:=by cases spot with|none=>rfl|some s=>simp at hspot
   have hadd:∀p r,((⟨b,off,none⟩:Addr).add p).add r=⟨b,off+p+r,none⟩:=fun p r=>by
    unfold Addr.add;split<;>split<;>simp_all
   have hcw:∀k,w.cell? ⟨b,off+k,none⟩=c[off+k]?:=fun k=>by simp [World.cell?,hw]
   have hroom:off+cap*sz≤c.size:=by
    obtain ⟨v,hv⟩:=hcell (cap - 1) (by omega) (sz - 1) (by omega)
    have e1:(cap - 1)*sz+(sz - 1)=cap*sz - 1:=by
     have:cap*sz=(cap - 1)*sz+sz:=by rw [←Nat.succ_mul];congr 1;omega
     omega
    have hpos:0<cap*sz:=Nat.mul_pos (by omega) (by omega)
    rw [hadd,Nat.add_assoc,e1,hcw] at hv
    have:=(Array.getElem?_eq_some_iff.mp hv).1
    omega
   let css:List (List Value):=(List.range len).map fun i=>(w.cells? 0 ((⟨b,off,none⟩:Addr).add (i*sz)) sz).getD []
   have hcss:∀i,i<len→∃cs,css[i]?=some cs∧cs.length=sz∧(∃y,DataW.trod enc P w 0 (fun _=>true) true m e cs=some y∧(y.1.weights P e).all (·≤reachBytes)=true)∧∀r,r<sz→c[off+(i*sz+r)]?=cs[r]?:=by
    intro i hil
    have k1:=he i hil
    have k2:elems[i]?=some elems[i]:=List.getElem?_eq_getElem (by omega)
    rw [k2,Option.bind_eq_some_iff] at k1
    obtain ⟨cs,h1,h2⟩:=k1
    obtain ⟨_,h3,h4⟩:=World.cells?_some h1
    refine ⟨cs,by simp [css,hil,h1],h3,⟨_,h2,TF hwe _ (List.mem_map_of_mem (List.getElem_mem _))⟩,fun r hr=>?_⟩
    rw [←h4 r hr,hadd,Nat.add_assoc,hcw]
   have hcl:css.length=len:=by simp [css]
   have hmem:∀cs,cs∈css→cs.length=sz∧∃y,DataW.trod enc P w 0 (fun _=>true) true m e cs=some y∧(y.1.weights P e).all (·≤reachBytes)=true:=fun cs hcs=>by
    obtain ⟨i,hi,rfl⟩:=List.mem_iff_getElem.mp hcs
    obtain ⟨cs',h1,h2,h3,_⟩:=hcss i (by omega)
    rw [List.getElem?_eq_getElem hi] at h1
    cases h1
    exact ⟨h2,h3⟩
   obtain ⟨φ1,h1,us,pss,i1,g1,l1,n1,k1,e1⟩:=QO hE css φ h hi fun cs hcs=>(hmem cs hcs).2
   have hpl:∀p,p∈pss→p.length=sz:=fun p hp=>by
    obtain ⟨i,hi,rfl⟩:=List.mem_iff_getElem.mp hp
    obtain ⟨cs',g1,g2,_⟩:=hcss i (by omega)
    rw [k1 i _ cs' (List.getElem?_eq_getElem hi) g1,g2]
   have hfl:css.flatten.length=len*sz:=by rw [U6 fun cs hcs=>(hmem cs hcs).1,hcl]
   have hle:len*sz≤cap*sz:=Nat.mul_le_mul_right _ hlc
   have hul:us.length=len*sz:=by rw [l1.len.1,hfl]
   obtain ⟨i2,g2⟩:=i1.push (l:=⟨b,off,cap*sz,false⟩) (xs:=us) hw hroom (by rw [hul];exact hle) (fun j v hv=>by
    obtain ⟨u,h2,h3⟩:=l1.1.2 j v hv
    refine ⟨u,?_,h3⟩
    have hj:j<len*sz:=by rw [←hul];exact (List.getElem?_eq_some_iff.mp hv).1
    have hjd:j / sz<len:=Nat.div_lt_of_lt_mul (by rw [Nat.mul_comm];exact hj)
    obtain ⟨cs',k2,k3,_,k4⟩:=hcss (j / sz) hjd
    have hfa:=qA (fun cs hcs=>(hmem cs hcs).1) k2
    have hjr:j % sz<sz:=Nat.mod_lt _ (by omega)
    have hje:j / sz*sz+j % sz=j:=by rw [Nat.mul_comm];exact Nat.div_add_mod j sz
    have:=k4 (j % sz) hjr
    rw [hje] at this
    show c[off+j]?=some u
    rw [this,←hfa,List.getElem?_take,if_pos hjr,List.getElem?_drop,hje]
    exact h2)
   refine ⟨_,_,[.slice (some ⟨h1.n,0,none⟩) len sz],[.row sz pss],i2,g1.trans g2,⟨Iv ⟨⟨b,off,cap*sz,false⟩,⟨b,off,none⟩,cap,B0 _ _ _,rfl,hlc,hcm,by simp,.inl (by simp),fun _=>rfl,fun _=>rfl⟩,L2.single ?_⟩,pss,rfl,by rw [n1,hcl];exact hlb,e1,fun _ _ _ _=>⟨_,_,hxe0,by rw [n1,hcl,List.length_map,hel]⟩⟩
   have hpn:pss.length=len:=by rw [n1,hcl]
   have:=PRep.row (R:=fun b=>b<(h1.push ⟨false,us⟩).n) (h:=h1.push ⟨false,us⟩) (b:=h1.n) (off:=0) (sz:=sz) (els:=pss) (blk:=⟨false,us⟩) (by simp) (H.get_push_self _ _) (by rw [hpn];simp [hul]) (by omega) hpl (fun k p v hp hv=>by
    have l2:=(l1.mono g2).2
    exact l2.2 k p v hp (by simpa using hv))
   rw [hpn] at this
   exact this
end
end Go.Vx
