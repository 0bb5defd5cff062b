/- What makes structs, arrays and new blocks. -/
import Derived.Test.YtmbonddknackiaaVxWrite
namespace Go.Vx
open Go.RowKit
theorem SH (off:Nat):∀(l:List Value) (k:Nat) (cells:Array Value),off+k+l.length≤cells.size→∀j,
  ((l.zipIdx k).foldl (fun cs (p:Value×Nat)=>cs.setIfInBounds (off+p.2) p.1) cells)[j]?=
   if off+k≤j∧j<off+k+l.length then l[j - (off+k)]? else cells[j]?
 |[],k,cells,_,j=>by rw [if_neg (by simp)];rfl
 |v::l,k,cells,h,j=>by
  have h':off+k+(l.length+1)≤cells.size:=h
  simp only [List.zipIdx_cons,List.foldl_cons]
  rw [SH off l (k+1) (cells.setIfInBounds (off+k) v) (by simp;omega) j]
  by_cases e:j=off+k
  ·subst e
   rw [if_neg (by omega),if_pos (by simp),Array.getElem?_setIfInBounds_self_of_lt (by omega)]
   simp
  ·by_cases hj:off+(k+1)≤j∧j<off+(k+1)+l.length
   ·rw [if_pos hj,if_pos (by simp;omega),show j - (off+k)=(j - (off+(k+1)))+1 by omega,List.getElem?_cons_succ]
   ·rw [if_neg hj,if_neg (by simp;omega),Array.getElem?_setIfInBounds_ne (by omega)]
theorem Ry (off:Nat) (vs cells:Array Value) (h:off+vs.size≤cells.size):
  (vs.zipIdx.foldl (fun cs (c,j)=>cs.setIfInBounds (off+j) c) cells).toList=splice cells.toList off vs.toList:=by
 apply List.ext_getElem?
 intro j
 rw [Ot (by simpa using h)]
 have:=SH off vs.toList 0 cells (by simpa using h) j
 simp only [Nat.add_zero] at this
 have e:cells.toList[j]?=cells[j]?:=Array.getElem?_toList
 rw [e,←this,Array.getElem?_toList,←Array.foldl_toList,Array.toList_zipIdx]
section
variable {P:Program} {φ:Cy} {w:World}
theorem K1 {place:Nat→Option (Nat×Nat)} {ρ ρ':Operand→Value}:∀(ps:List (Nat×Operand)) (xs cs:List Value) (ys:Array Value),
  Fh place xs (ps.map fun p=>(p.1,ρ p.2))=some cs→All2 (CR φ) xs ys.toList→(∀p∈ps,VR φ (ρ p.2) (ρ' p.2))→
  ∃cs',Instr.fill place ys (ps.map fun p=>(p.1,ρ' p.2))=some cs'∧All2 (CR φ) cs cs'.toList
 |[],xs,cs,ys,h,hx,_=>by simp only [List.map_nil,Fh] at h;cases h;exact ⟨ys,rfl,hx⟩
 |(i,x)::ps,xs,cs,ys,h,hx,hr=>by
  simp only [List.map_cons,Fh] at h
  cases hp:place i with
  |none=>rw [hp] at h;cases h
  |some os=>
   obtain ⟨off,size⟩:=os
   rw [hp] at h
   simp only at h
   split at h
   ·cases h
   ·rename_i hc
    simp only [not_or] at hc
    obtain ⟨h1,h2,h3⟩:=hc
    have hv:=hr (i,x) (by simp)
    simp only at hv
    have hu:∀xs,ρ x≠.tuple xs:=fun xs e=>by rw [e] at h3;simp [Dv] at h3
    have hcl:=hv.clist hu
    have hs:=Value.cells_size hv hu
    have hys:ys.size=xs.length:=by rw [hx.1];simp
    have hsp:=Ry off (ρ' x).cells ys (by rw [hs,hys];omega)
    have hnew:=(hx.splice (off:=off) hcl)
    rw [←hsp] at hnew
    obtain ⟨cs',hf,hcs⟩:=K1 ps _ cs _ h hnew (fun p hp=>hr p (List.mem_cons_of_mem _ hp))
    refine ⟨cs',?_,hcs⟩
    simp only [List.map_cons,Instr.fill,hp]
    rw [if_neg,hf]
    rw [hs,hys]
    simp only [ne_eq,Bool.or_eq_true,decide_eq_true_eq,not_or]
    exact ⟨by simpa using h1,by omega⟩
theorem K4 {place:Nat→Option (Nat×Nat)}:∀{ps:List (Nat×Value)} {xs cs:List Value},Fh place xs ps=some cs→cs.length=xs.length
 |[],xs,cs,h=>by simp only [Fh] at h;cases h;rfl
 |(i,v)::ps,xs,cs,h=>by
  simp only [Fh] at h
  split at h
  ·cases h
  ·split at h
   ·cases h
   ·rename_i hc
    simp only [not_or] at hc
    rw [K4 h,Jz (by omega)]
def Ca (P:Program):Prop:=∀t z,Cv P t=some z→Hx z=true
theorem Fm (z:Value):z.cells.toList=clist z:=by cases z<;>rfl
theorem OG {z:Value} (h:Hx z=true):All2 (CR φ) (clist z) z.cells.toList:=by
 rw [Fm]
 refine All2.same fun v hv=>It ?_
 cases z with
 |agg cs=>simp only [Hx,List.all_eq_true] at h;exact h v hv
 |_=>simp only [clist,List.mem_singleton] at hv;subst hv;exact h
theorem PA {t:TypeId} {i:TypeInfo} (h:P.types[t]?=some i):P.info? t=some i:=by
 have hlt:=(Array.getElem?_eq_some_iff.1 h).1
 show Tables.info? P.toTables t=some i
 unfold Tables.info?
 rw [if_pos hlt];exact h
theorem Ko {t:TypeId} {z:Value} (h:Cv P t=some z):∃i,P.types[t]?=some i∧i.zero=some z∧Dv z=false:=by
 unfold Cv at h
 rw [Cf] at h
 split at h
 ·rename_i i hi
  split at h
  ·rename_i z' hz
   split at h
   ·cases h
   ·rename_i ht;cases h;exact ⟨i,by simpa using hi,hz,ht⟩
  ·cases h
 ·cases h
theorem Ej {t:TypeId} {z:Value} (h:Cv P t=some z):∃i,P.info? t=some i∧i.zero=some z:=by
 obtain ⟨i,h1,h2,_⟩:=Ko h
 exact ⟨i,PA h1,h2⟩
theorem Ml:∀(fs:List Field),fs.all (fun f=>(P.info? f.type).isSome)=true→
  fs.mapM (fun f=>(P.info? f.type).map fun i=>(f.offset,i.size))=some (fs.map fun f=>(f.offset,Ab P f.type))
 |[],_=>rfl
 |f::fs,h=>by
  simp only [List.all_cons,Bool.and_eq_true] at h
  obtain ⟨i,hi⟩:=Option.isSome_iff_exists.1 h.1
  simp [List.mapM_cons,hi,Ml fs h.2,Ab]
theorem Uz {t:TypeId} {parts:Array (Nat×Operand)} {ρ ρ':Operand→Value} (hz:Ca P) {v:Value}
  (hx:Gw P ρ t parts.toList=some v) (hr:∀p∈parts.toList,VR φ (ρ p.2) (ρ' p.2)):
  ∃v',(Instr.build t (parts.map fun (i,x)=>(i,ρ' x))).run P w=.ok v' w∧VR φ v v':=by
 unfold Gw at hx
 split at hx
 ·rename_i z hzt
  obtain ⟨it,hit,hiz⟩:=Ej hzt
  have hd:=OG (φ:=φ) (hz t z hzt)
  have hpl:(parts.map fun (i,x)=>(i,ρ' x)).toList=parts.toList.map fun p=>(p.1,ρ' p.2):=by simp
  split at hx
  ·rename_i pl hpl'
   split at hx
   ·rename_i cs hcs
    cases hx
    obtain ⟨cs',hf,ha⟩:=K1 parts.toList _ cs z.cells hcs hd hr
    refine ⟨.agg cs',?_,_,rfl,ha⟩
    refine run_build w t _ cs' ?_
    unfold C3 at hpl'
    split at hpl'
    ·rename_i fs hu
     split at hpl'
     ·rename_i hall
      cases hpl'
      unfold Program.built
      rw [hit,hu,hpl]
      simp only [hiz,Ml _ hall]
      have e:(fun i:Nat=>(List.map (fun f:Field=>(f.offset,Ab P f.type)) fs.toList)[i]?)=(fun x:Nat=>(List.map (fun f:Field=>(f.offset,Ab P f.type)) fs.toList).toArray[x]?):=by funext i;simp
      rw [e] at hf
      exact hf
     ·cases hpl'
    ·cases hpl'
   ·cases hx
  ·split at hx
   ·rename_i n e ha
    split at hx
    ·cases hx
    ·rename_i hne
     obtain ⟨ie,hie,hies⟩:=Fc hne
     split at hx
     ·rename_i cs hcs
      cases hx
      obtain ⟨cs',hf,hall⟩:=K1 parts.toList _ cs z.cells hcs hd hr
      refine ⟨.agg cs',?_,_,rfl,hall⟩
      refine run_build w t _ cs' ?_
      unfold Program.built
      rw [hit,KS ha,hpl]
      simp only [hiz,hie]
      rw [←hies] at hf
      exact hf
     ·cases hx
   ·cases hx
 ·cases hx
theorem Ey (z:List Value):∀n,(DK z n).length=n*z.length
 |0=>by simp [DK]
 |n+1=>by simp [DK,Ey z n,Nat.succ_mul,Nat.add_comm]
theorem Mg (z:List Value):∀n j,j<n*z.length→(DK z n)[j]?=z[j % z.length]?
 |0,j,h=>by omega
 |n+1,j,h=>by
  rw [Nat.succ_mul] at h
  by_cases e:j<z.length
  ·rw [DK,List.getElem?_append_left e,Nat.mod_eq_of_lt e]
  ·rw [DK,List.getElem?_append_right (by omega),Mg z n _ (by omega)]
   congr 1
   rw [Nat.mod_eq_sub_mod (show j≥z.length by omega)]
theorem PK {z:Value} (hd:Hx z=true) (n:Nat) (hp:0<(clist z).length):
  All2 (CR φ) (DK (clist z) n) ((Array.range (n*(clist z).length)).map (z.cells[· % z.cells.size]!)).toList:=by
 have hs:z.cells.size=(clist z).length:=by rw [←Fm];simp
 refine ⟨by rw [Ey];simp,fun j v hj=>?_⟩
 have hl:j<n*(clist z).length:=by
  rw [←Ey];apply Classical.byContradiction;intro hc;rw [List.getElem?_eq_none (by omega)] at hj;cases hj
 rw [Mg _ _ _ hl] at hj
 have hm:j % (clist z).length<z.cells.size:=by rw [hs];exact Nat.mod_lt _ hp
 have hv:z.cells[j % z.cells.size]! =v:=by
  rw [hs,getElem!_pos z.cells _ hm]
  have:z.cells.toList[j % (clist z).length]?=some v:=by rw [Fm];exact hj
  rw [Array.getElem?_toList,Array.getElem?_eq_getElem hm] at this
  exact Option.some.inj this
 refine ⟨v,by simp [hl,hv],?_⟩
 have:=(OG (φ:=φ) hd).2 _ _ hj
 obtain ⟨u,hu,hc⟩:=this
 rw [Fm,hj] at hu;cases hu;exact hc
theorem All2.pts {xs:List Value} {c:Array Value} (h:All2 (CR φ) xs c.toList):∀(j:Nat) (v:Value),xs[j]?=some v→∃u,c[j]?=some u∧CR φ v u:=
 fun j v hv=>let ⟨u,h1,h2⟩:=h.2 j v hv;⟨u,by simpa using h1,h2⟩
theorem All2.len {xs:List Value} {c:Array Value} (h:All2 (CR φ) xs c.toList):xs.length≤c.size:=by rw [h.1];simp
theorem Step.row {base lo:Nat} {h:H} (hh:HR base φ h w) (hb:base≤w.heap.size) (hn:φ h.n=none) {xs:List Value} {c:Array Value} (el:TypeId)
  (hc:All2 (CR φ) xs c.toList):Step base lo φ (P7 φ h.n ⟨w.heap.size,0,c.size,false⟩) h (h.push ⟨true,xs⟩) w {w with heap:=w.heap.push (.cells c el)}:=
 Step.new hh hb hn (fr:=(0,0)) rfl rfl rfl rfl hc.pts hc.len (.inl rfl)
theorem VR.new_ptr {n:Nat} {l:Loc}:VR (P7 φ n l) (.pointer (some ⟨n,0,none⟩)) (.pointer (some ⟨l.blk,l.off,none⟩)):=
 ⟨l,B0 _ _ _,rfl⟩
theorem VR.new_slc {n b len cap s room:Nat} {mk:Bool} (h1:len≤cap) (h2:cap≤maxLen) (h3:cap*s≤room) (h4:s≠1→mk=false:=by exact fun _=>rfl):
  VR (P7 φ n ⟨b,0,room,mk⟩) (.slice (some ⟨n,0,none⟩) len s) (.slice (some ⟨b,0,none⟩) len cap):=
 ⟨_,_,_,B0 _ _ _,rfl,h1,h2,by simpa using h3,.inl rfl,fun _=>rfl,h4⟩
variable {base lo:Nat} {h:H} {eqs:List TypeId} {ρ ρ':Operand→Value}
theorem VH (hz:Ca P) (hh:HR base φ h w) (hb:base≤w.heap.size) (hn:φ h.n=none) {t:TypeId} {z:Value} (ht:Cv P t=some z) (old:Value):
  ∃v' w' φ',(Instr.alloc t true old).run P w=.ok v' w'∧VR φ' (.pointer (some ⟨h.n,0,none⟩)) v'∧Step base lo φ φ' h (h.push ⟨true,clist z⟩) w w':=by
 obtain ⟨i,hi,hiz⟩:=Ej ht
 refine ⟨.pointer (some ⟨w.heap.size,0,none⟩),{w with heap:=w.heap.push (.cells z.cells t)},_,?_,VR.new_ptr (l:=⟨w.heap.size,0,z.cells.size,false⟩),Step.row hh hb hn t (OG (hz t z ht))⟩
 simp [Instr.alloc,zeroValue,typeInfo,hi,hiz,newVar,newRow]
theorem ZF (hh:HR base φ h w) (hb:base≤w.heap.size) (hn:φ h.n=none) (t:TypeId) {u u':Value} (hu:VR φ u u') (htu:Dv u=false):
  ∃v' w' φ',(Instr.box t u').run P w=.ok v' w'∧VR φ' (.pointer (some ⟨h.n,0,none⟩)) v'∧Step base lo φ φ' h (h.push ⟨true,clist u⟩) w w':=by
 have hu':∀xs,u≠.tuple xs:=fun xs e=>by subst e;simp [Dv] at htu
 refine ⟨.pointer (some ⟨w.heap.size,0,none⟩),{w with heap:=w.heap.push (.cells u'.cells t)},_,?_,VR.new_ptr (l:=⟨w.heap.size,0,u'.cells.size,false⟩),Step.row hh hb hn t (hu.clist hu')⟩
 simp [Instr.box,newVar,newRow]
theorem Mt (hz:Ca P) (hh:HR base φ h w) (hb:base≤w.heap.size) (hn:φ h.n=none) {t:TypeId} {len:Nat} {parts:Array (Nat×Operand)} {v:Value} {h':H}
  (hx:CQ P ρ t len parts.toList h=some (.val v,h')) (hr:∀p∈parts.toList,VR φ (ρ p.2) (ρ' p.2)):
  ∃v' w' φ',(Instr.buildSlice t len (parts.map fun (i,x)=>(i,ρ' x))).run P w=.ok v' w'∧VR φ' v v'∧Step base lo φ φ' h h' w w':=by
 unfold CQ at hx
 split at hx
 ·rename_i e he
  split at hx
  ·rename_i z hzt
   split at hx
   ·rename_i hc
    obtain ⟨h1,h2,h3,h4⟩:=hc
    split at hx
    ·rename_i cs hcs
     cases hx
     obtain ⟨it,hit,hiz⟩:=Ej hzt
     have hsz:it.size=Ab P e:=by simp [Ab,hit]
     have hd:=hz e z hzt
     have h0:=PK (φ:=φ) hd len (by omega)
     rw [←h1] at h0
     obtain ⟨cs',hf,hall⟩:=K1 parts.toList _ cs _ hcs h0 hr
     have hpl:(parts.map fun (i,x)=>(i,ρ' x)).toList=parts.toList.map fun p=>(p.1,ρ' p.2):=by simp
     refine ⟨.slice (some ⟨w.heap.size,0,none⟩) len len,{w with heap:=w.heap.push (.cells cs' e)},_,?_,VR.new_slc (room:=cs'.size) (Nat.le_refl _) ?_ ?_,Step.row hh hb hn e hall⟩
     ·have hq:¬len*Ab P e=0:=by
       have:=Nat.mul_pos h4 h2;omega
      rw [←hpl] at hf
      generalize (parts.map fun (i,x)=>(i,ρ' x))=ps at hf
      simp only [Instr.buildSlice,run_underlying (Fl he),sizeOf,typeInfo,zeroValue,Sem.run_bind,Result.andThen,run_program,hit,hsz,hiz,if_neg hq,Sem.run_pure,if_neg (show ¬len*Ab P e>2 ^ 24 by omega),hf]
      simp [newRow]
     ·have:len≤len*Ab P e:=Nat.le_mul_of_pos_right _ h2
      unfold maxLen;omega
     ·have:cs.length=cs'.size:=by rw [hall.1];simp
      rw [←this,K4 hcs,Ey,h1]
      exact Nat.le_refl _
    ·cases hx
   ·cases hx
  ·cases hx
 ·cases hx
theorem N6 (hz:Ca P) (hh:HR base φ h w) (hb:base≤w.heap.size) (hn:φ h.n=none) {t:TypeId} {l c:Operand} {v:Value} {h':H}
  (hx:Ge P t (ρ l) (ρ c) h=some (.val v,h')) (hl:VR φ (ρ l) (ρ' l)) (hc:VR φ (ρ c) (ρ' c)):
  ∃v' w' φ',(Instr.makeSlice t (ρ' l) (ρ' c)).run P w=.ok v' w'∧VR φ' v v'∧Step base lo φ φ' h h' w w':=by
 unfold Ge at hx
 split at hx
 ·rename_i e ln cp he el ec
  rw [el] at hl;rw [ec] at hc
  rw [hl.int,hc.int]
  split at hx
  ·rename_i z hzt
   split at hx
   ·rename_i hcc
    obtain ⟨h0,h1,h2,h3,h4,h5⟩:=hcc
    cases hx
    subst h0
    obtain ⟨n,rfl⟩:=Int.eq_ofNat_of_zero_le h1
    obtain ⟨it,hit,hiz⟩:=Ej hzt
    have hsz:it.size=Ab P e:=by simp [Ab,hit]
    have hby:it.bytes=A0 P e:=by simp [A0,hit]
    have hd:=hz e z hzt
    have ha:=PK (φ:=φ) hd n (by omega)
    rw [←h2] at ha
    refine ⟨.slice (some ⟨w.heap.size,0,none⟩) n n,{w with heap:=w.heap.push (.cells ((Array.range (n*Ab P e)).map (z.cells[· % z.cells.size]!)) e)},_,?_,
     VR.new_slc (φ:=φ) (room:=((Array.range (n*Ab P e)).map (z.cells[· % z.cells.size]!)).size) (Nat.le_refl _) ?_ ?_,?_⟩
    ·have:=run_make (P:=P) w t e it z (Fl he) hit hiz .i64 .i64 n n h1 (Int.le_refl _) (by rw [hby];omega) (by omega)
     rw [this,hsz]
     simp [madeCells]
    ·unfold maxLen;omega
    ·simp
    ·exact Step.row hh hb hn e ha
   ·cases hx
  ·cases hx
 ·cases hx
end
end Go.Vx
