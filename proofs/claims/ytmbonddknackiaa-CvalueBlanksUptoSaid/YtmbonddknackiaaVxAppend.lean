/- Appends and conversions. -/
import Derived.Test.YtmbonddknackiaaVxBuild
import Derived.Lib.AppendStr
import Derived.Laws.BytesString
namespace Go.Vx
open Go.RowKit
section
variable {P:Program} {φ:Cy} {w:World} {base lo:Nat} {h:H}
theorem Jx (s:ByteArray):∀v∈BE s,dry v=true:=by
 intro v hv
 simp only [BE,List.mem_map] at hv
 obtain ⟨b,_,rfl⟩:=hv
 rfl
theorem DT (s:ByteArray):(BE s).length=s.size:=by simp [BE,CD]
theorem MS (hh:HR base φ h w) {sz m:Nat} {x x':Value} {src:List Value} (hx:EW h sz x=some (m,src)) (hr:VR φ x x'):
  ∃cs:List Value,All2 (CR φ) src cs∧cs.length=m*sz∧(∀w',(Builtin.lenOf x').run P w'=.ok m w')∧
   ∀w',w'.heap=w.heap→(Builtin.firstCells sz m x').run P w'=.ok cs.toArray w':=by
 unfold EW at hx
 simp only [H.getK_eq] at hx
 split at hx
 ·cases hx
  obtain ⟨rfl,_⟩:=hr.slc_nil
  exact ⟨[],All2.nil,by simp,fun w'=>by simp [Builtin.lenOf],fun w' _=>by simp [Builtin.firstCells]⟩
 ·rename_i a n s
  obtain ⟨l,ca,cc,hφ,rfl,h1,h2,h3,h4⟩:=hr.slc
  split at hx
  ·rename_i b hg
   split at hx
   ·rename_i hb
    cases hx
    obtain ⟨cs,hcs,hcell⟩:=(hh.live _ _ _ hφ hg).cells
    have hl:((cs.drop a.off).take (m*sz)).length=m*sz:=by simp [←hcs.1];omega
    refine ⟨(cs.drop a.off).take (m*sz),(hcs.drop _).take _,hl,fun w'=>by simp [Builtin.lenOf],fun w' hw=>?_⟩
    rcases h4 with rfl|h0
    ·refine run_firstCells_some w' sz m _ m cc _ hl fun j v hv=>?_
     rw [Addr.add_lit]
     rw [List.getElem?_take] at hv
     split at hv
     ·rw [List.getElem?_drop] at hv
      have:=hcell _ _ hv
      rw [show l.off+a.off+j=l.off+(a.off+j) by omega]
      simpa [World.cell?,hw] using this
     ·cases hv
    ·have hn:m=0:=by omega
     subst hn
     have:(cs.drop a.off).take (0*sz)=[]:=by simp
     rw [this]
     simp [Builtin.firstCells,loadCells,loadCellsFrom]
   ·cases hx
  ·cases hx
 ·rename_i s
  cases hr.str
  split at hx
  ·rename_i hs
   cases hx
   subst hs
   refine ⟨BE s,All2.same fun v hv=>It (Jx s v hv),by rw [DT,CD,Nat.mul_one],fun w'=>by simp [Builtin.lenOf,CD],fun w' _=>?_⟩
   rw [CD,Lib.run_firstCells_string w' 1 s]
   rfl
  ·cases hx
 ·cases hx
theorem UU {xt:TypeId} (hxt:Ac P xt=false):∃d,P.underlying xt=some d∧Builtin.append_.match_1 (fun _=>Bool) d (fun _=>true) (fun _=>false)=false:=by
 unfold Ac at hxt
 cases hu:P.underlying xt with
 |none=>rw [hu] at hxt;cases hxt
 |some d=>
  rw [hu] at hxt
  refine ⟨d,rfl,?_⟩
  cases d<;>first|rfl|cases hxt
theorem O3 {t xt ty e:TypeId} {i:TypeInfo} (ht:P.underlying t=some (.slice e)) (hxt:Ac P xt=false) (hi:P.info? e=some i)
  {g o sLen sCap m:Nat} {x:Value} {news:List Value} (hlen:∀w',(Builtin.lenOf x).run P w'=.ok m w')
  (hf:∀w',w'.heap=w.heap→(Builtin.firstCells i.size m x).run P w'=.ok news.toArray w')
  {w1:World} (hst:(storeCells ⟨g,o+sLen*i.size,none⟩ news).run P w=.ok () w1) (hroom:sLen+m≤sCap):
  (Builtin.append_ #[t,xt] ty #[.slice (some ⟨g,o,none⟩) sLen sCap,x]).run P w=.ok (.slice (some ⟨g,o,none⟩) (sLen+m) sCap) w1:=by
 obtain ⟨d,hu,hd⟩:=UU hxt
 simp [Builtin.append_,run_underlying ht,run_underlying hu,hd,sizeOf,typeInfo,hi,hlen,hroom,hf,Addr.add_lit,hst]
theorem IJ {t xt ty e:TypeId} {i:TypeInfo} (ht:P.underlying t=some (.slice e)) (hxt:Ac P xt=false) (hi:P.info? e=some i)
  {a:Option Addr} {n c:Nat} (hc:n≤c) {x:Value} (hlen:∀w',(Builtin.lenOf x).run P w'=.ok 0 w')
  (hf:∀w',w'.heap=w.heap→(Builtin.firstCells i.size 0 x).run P w'=.ok #[] w'):
  (Builtin.append_ #[t,xt] ty #[.slice a n c,x]).run P w=.ok (.slice a n c) w:=by
 obtain ⟨d,hu,hd⟩:=UU hxt
 cases a<;>simp [Builtin.append_,run_underlying ht,run_underlying hu,hd,sizeOf,typeInfo,hi,hlen,hc,hf,storeCells]
theorem I9 {t xt ty e:TypeId} {i:TypeInfo} {z:Value} (ht:P.underlying t=some (.slice e)) (hxt:Ac P xt=false) (hi:P.info? e=some i) (hz:i.zero=some z)
  {a:Option Addr} {sLen sCap m:Nat} {x:Value} {olds news:List Value} (hlen:∀w',(Builtin.lenOf x).run P w'=.ok m w')
  (hf:∀w',w'.heap=w.heap→(Builtin.firstCells i.size m x).run P w'=.ok news.toArray w')
  (hfo:∀w',w'.heap=w.heap→(Builtin.firstCells i.size sLen (.slice a sLen sCap)).run P w'=.ok olds.toArray w')
  (hg:sCap<sLen+m) (hby:i.bytes≠0) (hfit:(sLen+m)*i.bytes≤140737488355328):
  (Builtin.append_ #[t,xt] ty #[.slice a sLen sCap,x]).run P w=
   .ok (.slice (some ⟨w.heap.size,0,none⟩) (sLen+m) (grownCap w (sLen+m) sCap e))
    (w.drew.alloc (.cells (olds.toArray++news.toArray++Builtin.zeroCells z.cells (grownCap w (sLen+m) sCap e - (sLen+m))) e)):=by
 have hn:¬(sLen+m≤sCap):=by omega
 have h48':¬(281474976710656<Builtin.nextslicecap (sLen+m) sCap*i.bytes):=by have:=growslice_fits (bytes:=i.bytes) hg hfit;omega
 have hb0:¬(9223372036854775807<((sLen:Int)+(m:Int))∧i.bytes=0):=fun h=>hby h.2
 have f1:=hf w.drew rfl
 have f2:=hfo w.drew rfl
 obtain ⟨d,hu,hd⟩:=UU hxt
 simp [Builtin.append_,run_underlying ht,run_underlying hu,hd,sizeOf,typeInfo,zeroValue,hi,hz,hlen,hn,hb0,h48',Question.forced,f1,f2,newRow,grownCap]
 congr 2
 apply Array.ext'
 simp [List.append_assoc]
theorem eR (hh:HR base φ h w):HR base φ h w.drew:=
 ⟨hh.bound,fun i l b hi hg=>(hh.live i l b hi hg).same rfl,hh.base,hh.sep⟩
theorem Step.grown (hh:HR base φ h w) (hb:base≤w.heap.size) (hn:φ h.n=none) {xs:List Value} {cs:List Value} (el:TypeId) (rest:Array Value)
  (hc:All2 (CR φ) xs cs):Step base lo φ (P7 φ h.n ⟨w.heap.size,0,(cs.toArray++rest).size,false⟩) h (h.push ⟨true,xs⟩) w (w.drew.alloc (.cells (cs.toArray++rest) el)):=
 Step.new hh hb hn (fr:=(0,0)) rfl rfl rfl rfl
  (fun j v hv=>by
   obtain ⟨u,hu,hr⟩:=hc.2 j v hv
   have hj:j<cs.length:=by apply Classical.byContradiction;intro hc;rw [List.getElem?_eq_none (by omega)] at hu;cases hu
   refine ⟨u,?_,hr⟩
   rw [Array.getElem?_append_left (by simpa using hj)]
   simpa using hu)
  (by rw [hc.1];simp) (.inl rfl)
theorem Mj {lo:Nat} (hh:HR base φ h w) (hb:base≤w.heap.size) {t xt ty:TypeId} {s s' x x' v:Value} {h':H}
  (hx:EZ P lo t xt s x h=some (v,h')) (hs:VR φ s s') (hxr:VR φ x x') (hn:∀i,h.n≤i→i<h'.n→φ i=none):
  ∃v' w' φ',(Builtin.append_ #[t,xt] ty #[s',x']).run P w=.ok v' w'∧VR φ' v v'∧Step base lo φ φ' h h' w w':=by
 unfold EZ at hx
 simp only [H.getK_eq] at hx
 split at hx
 ·cases hx
 rename_i e he
 have ht:=Fl he
 split at hx
 ·cases hx
 rename_i hc
 simp only [not_or] at hc
 obtain ⟨hsz,hby,hxt⟩:=hc
 have hxt:Ac P xt=false:=by simpa using hxt
 split at hx
 ·cases hx
 rename_i z hzt
 split at hx
 ·cases hx
 rename_i hzl
 have hzl:Ab P e=(clist z).length:=Classical.not_not.1 hzl
 obtain ⟨i,hi,hiz⟩:=Ej hzt
 have his:i.size=Ab P e:=by simp [Ab,hi]
 have hib:i.bytes=A0 P e:=by simp [A0,hi]
 have hzs:z.cells.size=Ab P e:=by rw [hzl,←Fm];simp
 rw [←his] at hsz
 split at hx
 ·cases hx
 ·
  rename_i src hsrc
  split at hx
  ·rename_i a n sz
   cases hx
   obtain ⟨cs,hcs,hl,hlen,hf⟩:=MS hh hsrc hxr
   have:cs=[]:=by apply List.eq_nil_of_length_eq_zero;omega
   subst this
   rw [←his] at hf
   cases a with
   |none=>
    obtain ⟨rfl,rfl,rfl⟩:=hs.slc_nil
    exact ⟨_,w,φ,IJ ht hxt hi (Nat.le_refl _) hlen (fun w' hw=>hf w' hw),hs,Step.refl hh⟩
   |some a=>
    have hs':=hs
    obtain ⟨l,ca,cc,hφ,rfl,h1,_⟩:=hs.slc
    exact ⟨_,w,φ,IJ ht hxt hi h1 hlen (fun w' hw=>hf w' hw),hs',Step.refl hh⟩
  ·cases hx
 ·rename_i m src hsrc
  have hsrc:EW h (Ab P e) x=some (m+1,src):=hsrc
  obtain ⟨news,hnews,hl,hlen,hf⟩:=MS hh hsrc hxr
  rw [←his] at hf hl
  cases s with
  |slice a n sz=>
   cases a with
   |none=>
    obtain ⟨rfl,rfl,rfl⟩:=hs.slc_nil
    simp only at hx
    split at hx
    ·rename_i hbd
     cases hx
     have hnn:=hn h.n (Nat.le_refl _) (by simp)
     have hr:=I9 (P:=P) (w:=w) (ty:=ty) (a:=none) (sLen:=0) (sCap:=0) (olds:=[]) ht hxt hi hiz hlen hf (fun w' _=>by simp [Builtin.firstCells]) (by omega) (by rw [hib];exact hby) (by rw [hib,Nat.zero_add];omega)
     rw [Nat.zero_add] at hr
     have hge:=grownCap_ge w (m+1) 0 e
     have hle:=grownCap_le_maxLen w (m+1) 0 e (by unfold maxLen;have:=Nat.le_mul_of_pos_right (m+1) (Nat.pos_of_ne_zero hby);omega)
     refine ⟨_,_,P7 φ h.n ⟨w.heap.size,0,(news.toArray++Builtin.zeroCells z.cells (grownCap w (m+1) 0 e - (m+1))).size,false⟩,hr,?_,?_⟩
     ·refine VR.new_slc (by omega) hle ?_
      simp only [Array.size_append,List.size_toArray,size_zeroCells,hl,hzs,←his]
      rw [←Nat.add_mul]
      apply Nat.mul_le_mul_right
      omega
     ·have:=Step.grown (lo:=lo) hh hb hnn e (Builtin.zeroCells z.cells (grownCap w (m+1) 0 e - (m+1))) hnews
      simpa using this
    ·cases hx
   |some a=>
    simp only at hx
    split at hx
    ·rename_i b hg
     split at hx
     ·rename_i hcc
      obtain ⟨hown,hlo,hsze,hfit,hbd⟩:=hcc
      cases hx
      subst hsze
      obtain ⟨l,ca,cc,hφ,rfl,h1,h2,h3,h4,_,hmk⟩:=hs.slcB
      have hbr:=hh.live _ _ _ hφ hg
      obtain ⟨olds,holds,hocell⟩:=hbr.cells
      have hnn:=hn h.n (Nat.le_refl _) (by simp)
      have hosl:((olds.drop a.off).take (n*Ab P e)).length=n*Ab P e:=by simp [←holds.1];omega
      have hold:=(holds.drop a.off).take (n*Ab P e)
      by_cases hroom:n+(m+1)≤cc
      ·
       have hca:ca=⟨l.blk,l.off+a.off,none⟩:=h4.resolve_right (by omega)
       subst hca
       obtain ⟨c,el,fr,g1,g2,g3,g4,g5⟩:=hbr
       have e1:(n+(m+1))*Ab P e≤cc*Ab P e:=Nat.mul_le_mul_right _ hroom
       have e2:(n+(m+1))*Ab P e=n*Ab P e+(m+1)*Ab P e:=Nat.add_mul _ _ _
       have hl':news.length=(m+1)*Ab P e:=by rw [hl,his]
       obtain ⟨w1,hr,hon,c',hc',hcs,hpt⟩:=B3 (P:=P) l.blk (l.off+a.off+n*i.size) news 0 w c el fr g1 (by rw [hl',his];omega)
        (fun j hj=>by rw [hl'] at hj;rw [his];rcases g5 hown with h|⟨_,h⟩<;>omega)
        (fun u hu=>by
         obtain ⟨j,hj⟩:=List.getElem?_of_mem hu
         have hj2:j<src.length:=by rw [hnews.1];apply Classical.byContradiction;intro hc;rw [List.getElem?_eq_none (by omega)] at hj;cases hj
         obtain ⟨u',hu',hcr⟩:=hnews.2 j _ (List.getElem?_eq_getElem hj2)
         rw [hj] at hu';cases hu';exact hcr.oneCell)
       refine ⟨_,w1,P7 φ h.n ⟨l.blk,l.off+a.off,l.room - a.off,l.mark⟩,O3 ht hxt hi hlen hf hr hroom,?_,?_⟩
       ·exact ⟨_,_,_,B0 _ _ _,rfl,hroom,h2,by show 0+cc*Ab P e≤l.room - a.off;omega,.inl rfl,fun _=>rfl,hmk⟩
       ·refine Step.over hh hnn hφ hg hown hlo rfl hon.size hon.os hon.tape hon.out hon.rest ?_
        refine ⟨c',el,fr,hc',by show l.off+a.off+(l.room - a.off)≤c'.size;omega,?_,?_,?_⟩
        ·show ((b.cells.drop a.off).take (n*Ab P e)++src).length≤l.room - a.off
         rw [List.length_append,hold.1,hosl,hnews.1,hl'];omega
        ·intro j v hv
         have hv':((b.cells.drop a.off).take (n*Ab P e)++src)[j]?=some v:=hv
         have hol:((b.cells.drop a.off).take (n*Ab P e)).length=n*Ab P e:=by rw [hold.1,hosl]
         show ∃u,c'[l.off+a.off+j]?=some u∧CR φ v u
         rw [hpt (l.off+a.off+j),hl',his]
         rw [List.getElem?_append,hol] at hv'
         by_cases hj:j<n*Ab P e
         ·rw [if_pos hj,List.getElem?_take,if_pos hj,List.getElem?_drop] at hv'
          rw [if_neg (by omega)]
          obtain ⟨u,hu,hcr⟩:=g4 _ _ hv'
          exact ⟨u,by rw [show l.off+a.off+j=l.off+(a.off+j) by omega];exact hu,hcr⟩
         ·rw [if_neg hj] at hv'
          obtain ⟨u,hu,hcr⟩:=hnews.2 _ _ hv'
          have hjl:j - n*Ab P e<news.length:=by apply Classical.byContradiction;intro hc;rw [List.getElem?_eq_none (by omega)] at hu;cases hu
          rw [if_pos (by omega)]
          exact ⟨u,by rw [show l.off+a.off+j - (l.off+a.off+n*Ab P e+0)=j - n*Ab P e by omega];exact hu,hcr⟩
        ·intro _;rw [hcs];exact g5 hown
      ·
       have hfo:∀w',w'.heap=w.heap→(Builtin.firstCells i.size n (.slice (some ca) n cc)).run P w'=.ok ((olds.drop a.off).take (n*Ab P e)).toArray w':=fun w' hw'=>by
        rcases h4 with rfl|h0
        ·refine run_firstCells_some w' i.size n _ n cc _ (by rw [hosl,his]) fun j v hv=>?_
         rw [Addr.add_lit]
         rw [List.getElem?_take] at hv
         split at hv
         ·rw [List.getElem?_drop] at hv
          have:=hocell _ _ hv
          rw [show l.off+a.off+j=l.off+(a.off+j) by omega]
          simpa [World.cell?,hw'] using this
         ·cases hv
        ·have hn0:n=0:=by omega
         subst hn0
         simp [Builtin.firstCells,loadCells,loadCellsFrom]
       have hr:=I9 (P:=P) (w:=w) (ty:=ty) ht hxt hi hiz hlen hf hfo (by omega) (by rw [hib];exact hby) (by rw [hib];omega)
       have hge:=grownCap_ge w (n+(m+1)) cc e
       have hle:=grownCap_le_maxLen w (n+(m+1)) cc e (by unfold maxLen;have:=Nat.le_mul_of_pos_right (n+(m+1)) (Nat.pos_of_ne_zero hby);omega)
       have hk:=Step.kill (lo:=lo) hh (H.get_lt hg)
       have hall:=hold.append hnews
       have hst:=Step.grown (lo:=lo) hk.heap hb (h:=h.put a.block none) hnn e (Builtin.zeroCells z.cells (grownCap w (n+(m+1)) cc e - (n+(m+1)))) hall
       refine ⟨_,_,P7 φ h.n ⟨w.heap.size,0,(((olds.drop a.off).take (n*Ab P e)++news).toArray++Builtin.zeroCells z.cells (grownCap w (n+(m+1)) cc e - (n+(m+1)))).size,false⟩,hr,?_,?_⟩
       ·refine VR.new_slc hge hle ?_
        simp only [Array.size_append,List.size_toArray,size_zeroCells,List.length_append,hosl,hl,hzs,his]
        rw [←Nat.add_mul,←Nat.add_mul]
        apply Nat.mul_le_mul_right
        omega
       ·have htr:=hk.trans hst (fun j hj1 hj2=>hn j hj1 (by simpa using hj2))
        have e3:(((olds.drop a.off).take (n*Ab P e)).toArray++news.toArray:Array Value)=((olds.drop a.off).take (n*Ab P e)++news).toArray:=by simp
        rw [e3]
        exact htr
     ·cases hx
    ·cases hx
  |_=>simp at hx
end
end Go.Vx
