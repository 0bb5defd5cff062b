/- Writing: stores, new blocks, appends. -/
import Derived.Test.YtmbonddknackiaaVxMem
import Derived.Laws.MakeOwn
namespace Go.Vx
open Go.RowKit
structure Only (g:Nat) (w w1:World):Prop where
 os:w1.os=w.os
 tape:w1.tape=w.tape
 out:w1.output=w.output
 size:w1.heap.size=w.heap.size
 rest:∀k,k≠g→w1.heap[k]?=w.heap[k]?
theorem Only.refl (g:Nat) (w:World):Only g w w:=⟨rfl,rfl,rfl,rfl,fun _ _=>rfl⟩
theorem Only.trans {g:Nat} {a b c:World} (h:Only g a b) (k:Only g b c):Only g a c:=
 ⟨k.os.trans h.os,k.tape.trans h.tape,k.out.trans h.out,k.size.trans h.size,fun i hi=>(k.rest i hi).trans (h.rest i hi)⟩
theorem Ot {cs vs:List Value} {off:Nat} (h:off+vs.length≤cs.length) (j:Nat):
  (splice cs off vs)[j]?=if off≤j∧j<off+vs.length then vs[j - off]? else cs[j]?:=by
 have hl:(cs.take off).length=off:=by simp;omega
 unfold splice
 by_cases h1:j<off
 ·rw [if_neg (by omega),List.append_assoc,List.getElem?_append_left (by omega),List.getElem?_take,if_pos h1]
 ·by_cases h2:j<off+vs.length
  ·rw [if_pos (by omega),List.getElem?_append_left (by simp;omega),List.getElem?_append_right (by omega),hl]
  ·rw [if_neg (by omega),List.getElem?_append_right (by simp;omega),List.getElem?_drop]
   congr 1
   simp
   omega
theorem Jz {cs vs:List Value} {off:Nat} (h:off+vs.length≤cs.length):(splice cs off vs).length=cs.length:=by
 simp [splice];omega
section
variable {P:Program} {φ:Cy} {w:World}
theorem B3 (g o:Nat):∀(vs:List Value) (i:Nat) (w:World) (c:Array Value) (el:TypeId) (fr:Nat×Nat),
  w.heap[g]?=some (.cells c el fr)→o+i+vs.length≤c.size→(∀j,j<vs.length→¬(fr.1≤o+i+j∧o+i+j<fr.2))→(∀v∈vs,v.oneCell'=true)→
  ∃w1,(storeCells ⟨g,o,none⟩ vs i).run P w=.ok () w1∧Only g w w1∧∃c',w1.heap[g]?=some (.cells c' el fr)∧c'.size=c.size∧
   ∀j,c'[j]?=if o+i≤j∧j<o+i+vs.length then vs[j - (o+i)]? else c[j]?
 |[],i,w,c,el,fr,hg,_,_,_=>⟨w,rfl,Only.refl _ _,c,hg,rfl,fun j=>by rw [if_neg (by simp)]⟩
 |v::r,i,w,c,el,fr,hg,hl,hf,h1=>by
  have hl':o+i+(r.length+1)≤c.size:=hl
  have hcell:w.cell? ⟨g,o+i,none⟩=some (c[o+i]'(by omega)):=by
   simp only [World.cell?,hg]
   simp
  have hfz:w.frozen? ⟨g,o+i,none⟩=false:=by
   have:=hf 0 (by simp)
   simp only [World.frozen?,hg]
   simp only [Nat.add_zero] at this
   simpa using this
  have hst:(store ((⟨g,o,none⟩:Addr).add i) v).run P w=.ok () (w.setCell ⟨g,o+i,none⟩ v):=by
   rw [Addr.add_lit,run_store P w _ v _ (h1 v (by simp)),hcell]
   simp [hfz]
  have ho:Only g w (w.setCell ⟨g,o+i,none⟩ v):=⟨rfl,rfl,rfl,by simp,fun k hk=>Below.heap_setCell _ _ _ _ hk⟩
  have hg1:(w.setCell ⟨g,o+i,none⟩ v).heap[g]?=some (.cells (c.setIfInBounds (o+i) v) el fr):=by
   simp only [World.setCell,Array.getElem?_modify,if_true,hg,Option.map_some]
   simp
  obtain ⟨w1,hr,hon,c',hc',hsz,hpt⟩:=B3 g o r (i+1) (w.setCell ⟨g,o+i,none⟩ v) (c.setIfInBounds (o+i) v) el fr hg1 (by simp;omega)
   (fun j hj=>by have:=hf (j+1) (by simp;omega);rwa [show o+i+(j+1)=o+(i+1)+j by omega] at this) (fun u hu=>h1 u (List.mem_cons_of_mem _ hu))
  refine ⟨w1,?_,ho.trans hon,c',hc',by simpa using hsz,fun j=>?_⟩
  ·simp only [storeCells,Sem.run_bind,hst,Result.andThen,hr]
  ·rw [hpt j]
   by_cases e:j=o+i
   ·subst e
    rw [if_neg (by omega),if_pos (by simp),Array.getElem?_setIfInBounds_self_of_lt (by omega)]
    simp
   ·by_cases hj:o+(i+1)≤j∧j<o+(i+1)+r.length
    ·rw [if_pos hj,if_pos (by simp;omega)]
     rw [show j - (o+i)=(j - (o+(i+1)))+1 by omega,List.getElem?_cons_succ]
    ·rw [if_neg hj,if_neg (by simp;omega),Array.getElem?_setIfInBounds_ne (by omega)]
theorem Value.cells_size {φ:Cy} {u v:Value} (h:VR φ u v) (hu:∀xs,u≠.tuple xs):v.cells.size=(clist u).length:=by
 rw [(h.clist hu).1];simp
theorem Uv {base lo:Nat} {h h':H} {t:TypeId} {p p' v v':Value} (hh:HR base φ h w) (hx:Fv P lo t h p v=some h') (hp:VR φ p p') (hv:VR φ v v'):∃w',(Instr.storeAt t p' v').run P w=.ok () w'∧Step base lo φ φ h h' w w':=by
 unfold Fv at hx
 simp only [H.getK_eq] at hx
 split at hx
 ·rename_i a
  obtain ⟨l,hφ,rfl⟩:=hp.ptr
  split at hx
  ·rename_i b hg
   split at hx
   ·rename_i hc
    obtain ⟨hown,hlo,hsz,hlen,htup,hnz⟩:=hc
    have hu:∀xs,v≠.tuple xs:=fun xs e=>by subst e;simp [Dv] at htup
    obtain ⟨it,hit,_⟩:=Fc hnz
    have ht:(P.info? t).isSome:=by rw [hit];rfl
    cases hx
    obtain ⟨c,el,fr,h1,h2,h3,h4,h5⟩:=hh.live _ _ _ hφ hg
    have hvc:=hv.clist hu
    have hsize:=Value.cells_size hv hu
    have hlv:v'.cells.toList.length=(clist v).length:=hvc.1.symm
    obtain ⟨w1,hr,hon,c',hc',hcs,hpt⟩:=B3 (P:=P) l.blk (l.off+a.off) v'.cells.toList 0 w c el fr h1 (by rw [hlv];omega)
     (fun j hj=>by rw [hlv] at hj;rcases h5 hown with h|h<;>omega)
     (fun u hu=>by
      obtain ⟨j,hj⟩:=List.getElem?_of_mem hu
      have hj2:j<(clist v).length:=by
       rw [←hlv];apply Classical.byContradiction;intro hc;rw [List.getElem?_eq_none (by omega)] at hj;cases hj
      obtain ⟨u',hu',hcr⟩:=hvc.2 j _ (List.getElem?_eq_getElem hj2)
      rw [hj] at hu';cases hu';exact hcr.oneCell)
    refine ⟨w1,?_,?_⟩
    ·simp [Instr.storeAt,Instr.sureAddr,storeVar,GO ht,hsize,hsz,hr]
    ·refine Step.turn hh hφ hg hown hlo hown hon.size hon.os hon.tape hon.out hon.rest ?_
     refine ⟨c',el,fr,hc',by omega,by rw [Jz hlen];exact h3,fun j u hj=>?_,by rw [hcs];exact h5⟩
     rw [Ot hlen] at hj
     rw [hpt (l.off+j),hlv]
     by_cases e:a.off≤j∧j<a.off+(clist v).length
     ·rw [if_pos e] at hj
      obtain ⟨u',hu',hcr⟩:=hvc.2 _ _ hj
      rw [if_pos (by omega)]
      exact ⟨u',by rw [show l.off+j - (l.off+a.off+0)=j - a.off by omega];exact hu',hcr⟩
     ·rw [if_neg e] at hj
      obtain ⟨u',hu',hcr⟩:=h4 j u hj
      rw [if_neg (by omega)]
      exact ⟨u',hu',hcr⟩
   ·cases hx
  ·cases hx
 ·cases hx
end
end Go.Vx
