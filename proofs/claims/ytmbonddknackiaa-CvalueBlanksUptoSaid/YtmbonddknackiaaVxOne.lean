/- One operation, any kind. -/
import Derived.Test.YtmbonddknackiaaVxAppend
namespace Go.Vx
open Go.RowKit
section
variable {P:Program} {φ:Cy} {w:World} {base lo:Nat} {h:H}
theorem KE {t:TypeId} {k:IntKind} (h:G4 P t=some k):P.underlying t=some (.int k):=by
 unfold G4 at h;split at h
 ·rename_i hu;cases h;exact hu
 ·cases h
theorem Ou:∀(ns:List Int) (s:ByteArray),AA (ns.foldl (fun r n=>r.push (UInt8.ofNat n.toNat)) s)=AA s++ns.map fun n=>UInt8.ofNat n.toNat
 |[],s=>by simp
 |n::ns,s=>by
  rw [List.foldl_cons,Ou ns]
  simp [AA,List.append_assoc]
theorem K5:∀{cs:List Value} {l:List UInt8},bytesOf cs=some l→∃ns:List Int,cs=ns.map (Value.int .u8)∧l=ns.map fun n=>UInt8.ofNat n.toNat
 |[],l,h=>by simp only [bytesOf] at h;cases h;exact ⟨[],rfl,rfl⟩
 |c::cs,l,h=>by
  cases c with
  |int k n=>
   cases k<;>simp only [bytesOf] at h<;>try (cases h;done)
   split at h
   ·rename_i l' hl'
    cases h
    obtain ⟨ns,rfl,rfl⟩:=K5 hl'
    exact ⟨n::ns,rfl,rfl⟩
   ·cases h
  |_=>simp [bytesOf] at h
theorem Zw {xs ys:List Value} (h:All2 (CR φ) xs ys) (hd:∀v∈xs,dry v=true):ys=xs:=by
 apply List.ext_getElem?
 intro i
 cases hx:xs[i]? with
 |none=>rw [List.getElem?_eq_none_iff] at hx;rw [List.getElem?_eq_none (by rw [←h.1];omega)]
 |some v=>
  obtain ⟨u,hu,hc⟩:=h.2 i v hx
  rw [hu,VR.of_dry hc.vr (hd v (List.mem_of_getElem? hx))]
theorem MD {s d e:TypeId} {b:ByteArray} {ds:TypeDesc} (hs:P.underlying s=some ds) (hd:P.underlying d=some (.slice e)) (he:P.underlying e=some (.int .u8)):
  ∃cap w1,(convert s d (.string b)).run P w=.ok (.slice (some ⟨w.heap.size,0,none⟩) b.size cap) w1∧b.size≤cap∧(b.size≤maxLen→cap≤maxLen)∧
   w1.os=w.os∧w1.tape=w.tape∧w1.output=w.output∧
   w1.heap=w.heap.push (.cells ((BE b).toArray++Array.replicate (cap - b.size) (.int .u8 0)) e (cap,cap+1)):=by
 have hsz:((BE b).toArray++Array.replicate (grownCap w b.size 0 e - b.size) (Value.int .u8 0)).size=grownCap w b.size 0 e:=by
  have:=grownCap_ge w b.size 0 e
  simp [DT];omega
 refine ⟨grownCap w b.size 0 e,((w.drew.alloc (.cells ((BE b).toArray++Array.replicate (grownCap w b.size 0 e - b.size) (.int .u8 0)) e)).freeze ⟨w.heap.size,grownCap w b.size 0 e,none⟩ 1),?_,grownCap_ge w b.size 0 e,fun h=>grownCap_le_maxLen w b.size 0 e h,?_,?_,?_,?_⟩
 ·have e1:(b.data.map fun c=>Value.int .u8 c.toNat)=(BE b).toArray:=by
   apply Array.ext';simp [BE,AA]
  have hshape:∀c:Array Value,(w.drew.alloc (.cells c e)).shape? w.heap.size=some (e,c.size):=fun c=>by
   have:(w.drew.alloc (.cells c e)).heap[w.heap.size]?=some (.cells c e):=by
    show (w.heap.push (Obj.cells c e))[w.heap.size]?=_
    simp
   simp only [World.shape?,this]
  rw [grownCap] at hsz ⊢
  simp [convert,run_underlying hs,run_underlying hd,run_underlying he,Conv.stringToBytes,Question.forced,newRow,e1,markStringish,hshape,hsz]
 ·rfl
 ·rfl
 ·rfl
 ·unfold World.freeze
  rw [if_neg (by decide)]
  dsimp only [World.alloc,World.drew]
  apply Array.ext_getElem?
  intro i
  rw [Array.getElem?_modify,Array.getElem?_push,Array.getElem?_push]
  by_cases hi:i=w.heap.size
  ·subst hi;simp
  ·rw [if_neg (fun e=>hi e.symm),if_neg hi,if_neg hi]
theorem Qa {s d e:TypeId} {b:Blk} {l:Loc} {ca:Addr} {n cc:Nat} {es:TypeId} (hh:HR base φ h w) {i:Nat} (hi:φ i=some l) (hg:h.get i=some b) (hown:b.own=true) (hlo:lo≤i)
  (hs:P.underlying s=some (.slice es)) (hd:P.underlying d=some (.slice e)) (he:P.underlying e=some (.int .u8)) (hsd:(s==d)=true) (hca:ca.block=l.blk) (hn:φ h.n=none):
  ∃w1,(convert s d (.slice (some ca) n cc)).run P w=.ok (.slice (some ca) n cc) w1∧Step base lo φ (P7 φ h.n ⟨l.blk,l.off,l.room,true⟩) h ((h.put i none).push b) w w1:=by
 obtain ⟨c,el,fr,g1,g2,g3,g4,g5⟩:=hh.live i l b hi hg
 have hsh:w.shape? ca.block=some (el,c.size):=by simp only [World.shape?,hca,g1]
 refine ⟨w.freeze ⟨ca.block,c.size,none⟩ 1,?_,?_⟩
 ·simp [convert,run_underlying hs,run_underlying hd,run_underlying he,hsd,markStringish,hsh]
 ·have hget:(w.freeze ⟨ca.block,c.size,none⟩ 1).heap[l.blk]?=some (.cells c el (if fr.1==fr.2 then (c.size,c.size+1) else (min fr.1 c.size,max fr.2 (c.size+1)))):=by
   unfold World.freeze
   rw [if_neg (by decide)]
   dsimp only
   rw [Array.getElem?_modify,if_pos hca,g1]
   rfl
  have hne:∀k,k≠l.blk→(w.freeze ⟨ca.block,c.size,none⟩ 1).heap[k]?=w.heap[k]?:=fun k hk=>by
   unfold World.freeze
   rw [if_neg (by decide)]
   dsimp only
   rw [Array.getElem?_modify,if_neg (by rw [hca];exact fun e=>hk e.symm)]
  have hsize:(w.freeze ⟨ca.block,c.size,none⟩ 1).heap.size=w.heap.size:=by
   unfold World.freeze
   rw [if_neg (by decide)]
   simp
  have hbr:BR φ b ⟨l.blk,l.off,l.room,true⟩ (w.freeze ⟨ca.block,c.size,none⟩ 1):=by
   refine ⟨c,el,_,hget,g2,g3,g4,fun ho=>?_⟩
   right
   refine ⟨rfl,?_⟩
   rcases g5 ho with h1|⟨_,h1⟩
   ·rw [if_pos (by simpa using h1)];exact Nat.le_refl _
   ·split
    ·exact Nat.le_refl _
    ·show c.size≤min fr.1 c.size
     omega
  exact Step.over hh hn hi hg hown hlo rfl hsize rfl rfl rfl hne hbr
theorem Qo (hh:HR base φ h w) (hb:base≤w.heap.size) {s d:TypeId} {x x' v:Value} {h':H}
  (hx:Bi P lo s d x h=some (v,h')) (hr:VR φ x x') (hn:∀i,h.n≤i→i<h'.n→φ i=none):
  ∃v' w' φ',(convert s d x').run P w=.ok v' w'∧VR φ' v v'∧Step base lo φ φ' h h' w w':=by
 unfold Bi at hx
 simp only [H.getK_eq,D0] at hx
 split at hx
 ·rename_i ds k k' n hs hd
  cases hx
  cases hr.int
  exact ⟨_,w,φ,by cases ds<;>simp [convert,run_underlying hs,run_underlying hd,Conv.intToInt],D6 rfl,Step.refl hh⟩
 ·rename_i sx hs hd
  cases hx
  cases hr.str
  exact ⟨_,w,φ,by simp [convert,run_underlying hs,run_underlying hd],D6 rfl,Step.refl hh⟩
 ·rename_i ds e b hs hd
  cases hr.str
  split at hx
  ·rename_i hc
   cases hx
   have he:=KE hc.1
   obtain ⟨cap,w1,h1,h2,h3,h4,h5,h6,h7⟩:=MD (P:=P) (w:=w) hs hd he
   have hb2:b.size≤maxLen:=by have:=hc.2;rw [CD] at this;unfold maxLen;omega
   have hcap:=h3 hb2
   have hcs:((BE b).toArray++Array.replicate (cap - b.size) (Value.int .u8 0)).size=cap:=by simp [DT];omega
   refine ⟨_,w1,P7 φ h.n ⟨w.heap.size,0,((BE b).toArray++Array.replicate (cap - b.size) (Value.int .u8 0)).size,true⟩,h1,?_,?_⟩
   ·rw [CD]
    exact VR.new_slc h2 hcap (by rw [hcs];omega) (fun h=>absurd rfl h)
   ·refine Step.new hh hb (hn h.n (Nat.le_refl _) (by simp)) h7 h4 h5 h6 (fun j v hv=>?_) (by simp) (.inr ⟨rfl,by rw [hcs];exact Nat.le_refl _⟩)
    have hj:j<(BE b).length:=by apply Classical.byContradiction;intro hc;rw [List.getElem?_eq_none (by omega)] at hv;cases hv
    exact ⟨v,by rw [Array.getElem?_append_left (by simpa using hj)];simpa using hv,It (Jx b v (List.mem_of_getElem? hv))⟩
  ·cases hx
 ·rename_i es e a n sz hs hd
  split at hx
  ·rename_i b hg
   split at hx
   ·rename_i hc
    obtain ⟨h1,h2,h3,h4,h5⟩:=hc
    cases hx
    obtain ⟨l,ca,cc,hφ,rfl,g1,g2,g3,g4,hblk,_⟩:=hr.slcB
    obtain ⟨w1,r1,r2⟩:=Qa (n:=n) (cc:=cc) hh hφ hg h3 h4 hs hd (KE h1) h2 (hblk h5) (hn h.n (Nat.le_refl _) (by simp))
    exact ⟨_,w1,P7 φ h.n ⟨l.blk,l.off,l.room,true⟩,r1,⟨⟨l.blk,l.off,l.room,true⟩,ca,cc,B0 _ _ _,rfl,g1,g2,g3,g4,hblk,fun h=>absurd h5 h⟩,r2⟩
   ·cases hx
  ·cases hx
 ·rename_i e a n sz hs hd
  split at hx
  ·rename_i he
   have he:=KE he
   split at hx
   ·cases hx
    obtain ⟨rfl,_,_⟩:=hr.slc_nil
    refine ⟨_,w,φ,?_,D6 rfl,Step.refl hh⟩
    rw [run_convert_bytes_string w s d e none 0 0 hs he hd]
    simp [Conv.bytesToString]
    rfl
   ·rename_i a
    split at hx
    ·rename_i b hg
     split at hx
     ·rename_i hf
      split at hx
      ·rename_i l hl
       cases hx
       obtain ⟨lc,ca,cc,hφ,rfl,g1,g2,g3,g4⟩:=hr.slc
       obtain ⟨cs,hcs,hcell⟩:=(hh.live _ _ _ hφ hg).cells
       obtain ⟨ns,hns,rfl⟩:=K5 hl
       have hce:(cs.drop a.off).take n=ns.map (Value.int .u8):=by
        have:=(hcs.drop a.off).take n
        rw [hns] at this
        exact Zw this (by simp;intro a _;rfl)
       have hlen:((cs.drop a.off).take n).length=n:=by simp [←hcs.1];omega
       have hload:(loadCells ca n).run P w=.ok (ns.map (Value.int .u8)).toArray w:=by
        rcases g4 with rfl|h0
        ·have:=run_loadCells_list (P:=P) w ⟨lc.blk,lc.off+a.off,none⟩ ((cs.drop a.off).take n) (fun j v hv=>by
          rw [Addr.add_lit]
          rw [List.getElem?_take] at hv
          split at hv
          ·rw [List.getElem?_drop] at hv
           rw [Nat.add_assoc];exact hcell _ _ hv
          ·cases hv)
         rw [hlen,hce] at this
         exact this
        ·have hn0:n=0:=by omega
         subst hn0
         have:ns.map (Value.int .u8)=[]:=by rw [←hce];simp
         rw [this]
         simp [loadCells,loadCellsFrom]
       refine ⟨_,w,φ,?_,D6 rfl,Step.refl hh⟩
       rw [run_convert_bytes_string w s d e (some ca) n cc hs he hd,run_bytesToString w ca n cc ns hload]
       congr 2
       exact (NM _ _ (by rw [Ou];rfl)).symm
      ·cases hx
     ·cases hx
    ·cases hx
  ·cases hx
 ·cases hx
theorem LD {s:TypeId} {f off ft:Nat} (h:A5 P s f=some (off,ft)):∃fs fd,P.underlying s=some (.struct fs)∧fs[f]?=some fd∧fd.offset=off∧fd.type=ft:=by
 unfold A5 at h
 split at h
 ·rename_i fs hu
  split at h
  ·rename_i fd hf
   cases h
   exact ⟨fs,fd,hu,by simpa using hf,rfl,rfl⟩
  ·cases h
 ·cases h
def HY (P:Program) (base lo:Nat) (φ:Cy) (h h':H) (w:World) (ρ':Operand→Value) (o:Oper) (v:Value):Prop:=
 ∃v' w' φ',((execOp ρ' o).run P w=.ok (.value v') w'∨((execOp ρ' o).run P w=.ok .skip w'∧v'=undef))∧VR φ' v v'∧Step base lo φ φ' h h' w w'
theorem HY.pure {ρ':Operand→Value} {o:Oper} {v v':Value} (hh:HR base φ h w) (hr:(execOp ρ' o).run P w=.ok (.value v') w) (hv:VR φ v v'):HY P base lo φ h h w ρ' o v:=
 ⟨v',w,φ,.inl hr,hv,Step.refl hh⟩
theorem kA {eqs:List TypeId} {ρ ρ':Operand→Value} {o:Oper} {v:Value} {h':H} (hE:LX P eqs) (hz:Ca P) (hh:HR base φ h w) (hb:base≤w.heap.size)
  (hx:KJ P eqs lo ρ o.op h=some (.val v,h')) (hr:∀x∈o.op.operands.toList,VR φ (ρ x) (ρ' x)) (hn:∀i,h.n≤i→i<h'.n→φ i=none):
  HY P base lo φ h h' w ρ' o v:=by
 obtain ⟨dst,op,type,pos,after,guard⟩:=o
 simp only at hx hr
 cases op<;>simp only [KJ] at hx<;>try (cases hx;done)
 case move x=>cases hx;exact HY.pure hh (by simp [execOp]) (hr x (by simp [Op.operands]))
 case assign x=>cases hx;exact HY.pure hh (by simp [execOp]) (hr x (by simp [Op.operands]))
 case pick c a b=>
  obtain ⟨hx1,rfl⟩:=CE hx;clear hx;have hx:=hx1
  have hc:=hr c (by simp [Op.operands])
  unfold Li at hx
  split at hx
  ·rename_i ht
   cases hx
   rw [ht] at hc
   have hc:=hc.bool
   exact HY.pure hh (v':=ρ' a) (by simp [execOp,asBool,hc]) (hr a (by simp [Op.operands]))
  ·rename_i ht
   cases hx
   rw [ht] at hc
   have hc:=hc.bool
   exact HY.pure hh (v':=ρ' b) (by simp [execOp,asBool,hc]) (hr b (by simp [Op.operands]))
  ·cases hx
 case alloc t=>
  unfold Gp at hx
  split at hx
  ·rename_i z ht
   cases hx
   obtain ⟨v',w',φ',h1,h2,h3⟩:=VH (lo:=lo) hz hh hb (hn h.n (Nat.le_refl _) (by simp)) ht (.tuple #[])
   exact ⟨v',w',φ',.inl (by simp [execOp,h1]),h2,h3⟩
  ·cases hx
 case box t x=>
  unfold Mc at hx
  split at hx
  ·cases hx
  ·rename_i ht
   cases hx
   obtain ⟨v',w',φ',h1,h2,h3⟩:=ZF (P:=P) (lo:=lo) hh hb (hn h.n (Nat.le_refl _) (by simp)) t (hr x (by simp [Op.operands])) ht
   exact ⟨v',w',φ',.inl (by simp [execOp,h1]),h2,h3⟩
 case build t parts=>
  obtain ⟨hx1,rfl⟩:=CE hx;clear hx;have hx:=hx1
  obtain ⟨v',h1,h2⟩:=Uz (w:=w) (ρ':=ρ') (φ:=φ) hz hx (fun p hp=>hr p.2 (by simp [Op.operands];exact ⟨p.1,by simpa using hp⟩))
  exact HY.pure hh (by simp [execOp] at h1 ⊢;rw [h1];rfl) h2
 case buildSlice t len parts=>
  have hx0:=hx
  unfold CQ at hx0
  obtain ⟨v',w',φ',h1,h2,h3⟩:=Mt (ρ':=ρ') hz hh hb (hn h.n (Nat.le_refl _) (by
   split at hx0<;>try (cases hx0;done)
   split at hx0<;>try (cases hx0;done)
   split at hx0<;>try (cases hx0;done)
   split at hx0<;>cases hx0
   simp)) hx (fun p hp=>hr p.2 (by simp [Op.operands];exact ⟨p.1,by simpa using hp⟩))
  exact ⟨v',w',φ',.inl (by simp [execOp] at h1 ⊢;rw [h1];rfl),h2,h3⟩
 case load t a=>
  obtain ⟨hx1,rfl⟩:=CE hx;clear hx;have hx:=hx1
  obtain ⟨v',h1,h2⟩:=Pm hh hx (hr a (by simp [Op.operands]))
  exact HY.pure hh (by simp [execOp,h1]) h2
 case store t a x=>
  obtain ⟨hx1,rfl⟩:=Md hx;clear hx;have hx:=hx1
  obtain ⟨w',h1,h3⟩:=Uv hh hx (hr a (by simp [Op.operands])) (hr x (by simp [Op.operands]))
  exact ⟨undef,w',φ,.inr ⟨by simp [execOp,h1],rfl⟩,VR.undef,h3⟩
 case nilCheck x=>
  obtain ⟨hx1,rfl⟩:=CE hx;clear hx;have hx:=hx1
  unfold P0 at hx
  split at hx
  ·rename_i a ha
   cases hx
   have:=hr x (by simp [Op.operands])
   rw [ha] at this
   obtain ⟨l,hφ,he⟩:=this.ptr
   exact HY.pure hh (v':=ρ' x) (by simp [execOp,he]) this
  ·cases hx
 case binOp op t x y yt=>
  obtain ⟨hx1,rfl⟩:=CE hx;clear hx;have hx:=hx1
  obtain ⟨h1,h2⟩:=Ze (w:=w) (xo:=x) (yo:=y) hE hx (hr x (by simp [Op.operands])) (hr y (by simp [Op.operands]))
  exact HY.pure hh (by simp only [execOp];simp only [Sem.run_bind] at h1 ⊢;rw [h1];rfl) (D6 (by cases v<;>first|exact h2|simp [dry] at h2))
 case unOp op t x=>
  obtain ⟨hx1,rfl⟩:=CE hx;clear hx;have hx:=hx1
  obtain ⟨h1,h2⟩:=eW (P:=P) (w:=w) hx (hr x (by simp [Op.operands]))
  exact HY.pure hh (by simp [execOp,h1]) (D6 (by cases v<;>first|exact h2|simp [dry] at h2))
 case convert s d x=>
  have hx:=GZ hx
  obtain ⟨v',w',φ',h1,h3,h4⟩:=Qo hh hb hx (hr x (by simp [Op.operands])) hn
  exact ⟨v',w',φ',.inl (by simp [execOp,h1]),h3,h4⟩
 case slice t x lo' hi mx=>
  obtain ⟨hx1,rfl⟩:=CE hx;clear hx;have hx:=hx1
  cases mx with
  |some m=>simp [NA] at hx
  |none=>
   obtain ⟨v',h1,h2⟩:=UP (P:=P) (w:=w) hx (hr x (by simp [Op.operands])) (fun y hy=>hr y (by subst hy;simp [Op.operands])) (fun y hy=>hr y (by subst hy;simp [Op.operands]))
   exact HY.pure hh (by simp [execOp,h1]) h2
 case fieldAddr s x f=>
  obtain ⟨hx1,rfl⟩:=CE hx;clear hx;have hx:=hx1
  unfold C8 at hx
  split at hx
  ·rename_i a ha
   split at hx
   ·rename_i off ft hf
    split at hx
    ·cases hx
    ·rename_i hnz
     cases hx
     have:=hr x (by simp [Op.operands])
     rw [ha] at this
     obtain ⟨l,hφ,he⟩:=this.ptr
     obtain ⟨fs,fd,hu,hfd,rfl,rfl⟩:=LD hf
     obtain ⟨i,hi,his⟩:=Fc hnz
     rw [←his] at hnz
     refine HY.pure hh (v':=.pointer (some ⟨l.blk,l.off+a.off+fd.offset,none⟩)) ?_ ⟨l,hφ,by rw [Nat.add_assoc]⟩
     simp [execOp,Instr.fieldAt,run_underlying hu,hfd,he,Instr.sureAddr,fieldPlace,sizeOf,typeInfo,hi,hnz,Addr.add_lit]
   ·cases hx
  ·cases hx
 case field t x f=>
  obtain ⟨hx1,rfl⟩:=CE hx;clear hx;have hx:=hx1
  unfold Gq at hx
  split at hx
  ·rename_i cs ha
   split at hx
   ·rename_i off ft hf
    have:=hr x (by simp [Op.operands])
    rw [ha] at this
    obtain ⟨ys,he,hc⟩:=this.agg
    obtain ⟨fs,fd,hu',hfd,rfl,rfl⟩:=LD hf
    obtain ⟨v',h1,h2⟩:=PV (P:=P) (w:=w) hx hc
    exact HY.pure hh (by simp [execOp,Instr.field,run_underlying hu',hfd,he,asAgg,h1]) h2
   ·cases hx
  ·cases hx
 case indexAddr t x i=>
  obtain ⟨hx1,rfl⟩:=CE hx;clear hx;have hx:=hx1
  obtain ⟨v',h1,h2⟩:=NS (P:=P) (w:=w) hx (hr x (by simp [Op.operands])) (hr i (by simp [Op.operands]))
  exact HY.pure hh (by simp [execOp,h1]) h2
 case index t x i=>
  obtain ⟨hx1,rfl⟩:=CE hx;clear hx;have hx:=hx1
  obtain ⟨v',h1,h2⟩:=VJ (P:=P) (w:=w) hx (hr x (by simp [Op.operands])) (hr i (by simp [Op.operands]))
  exact HY.pure hh (by simp [execOp,h1]) h2
 case extract x i=>
  obtain ⟨hx1,rfl⟩:=CE hx;clear hx;have hx:=hx1
  unfold GE at hx
  split at hx
  ·rename_i vs ha
   have:=hr x (by simp [Op.operands])
   rw [ha] at this
   obtain ⟨ys,he,hc⟩:=this
   obtain ⟨u',hu',hcr⟩:=hc.2 i _ hx
   have hu2:ys[i]?=some u':=by simpa using hu'
   exact HY.pure hh (by simp [execOp,he,Instr.extract,hu2]) hcr.vr
  ·cases hx
 case makeSlice t l c=>
  have hx0:=hx
  unfold Ge at hx0
  obtain ⟨v',w',φ',h1,h2,h3⟩:=N6 (ρ':=ρ') hz hh hb (hn h.n (Nat.le_refl _) (by
   split at hx0<;>try (cases hx0;done)
   split at hx0<;>try (cases hx0;done)
   split at hx0<;>cases hx0
   simp)) hx (hr l (by simp [Op.operands])) (hr c (by simp [Op.operands]))
  exact ⟨v',w',φ',.inl (by simp [execOp,h1]),h2,h3⟩
 case call c=>
  obtain ⟨callee,⟨args⟩,⟨argTypes⟩⟩:=c
  unfold FD at hx
  cases callee with
  |value f=>
   simp only at hx
   unfold F9 at hx
   split at hx
   ·split at hx<;>simp at hx
   ·cases hx
  |invoke r m=>simp at hx
  |builtin bi=>
   cases bi<;>simp only at hx<;>try (cases hx;done)
   case len=>
    cases argTypes with
    |nil=>simp at hx
    |cons t ts=>
     cases args with
     |nil=>simp at hx
     |cons x xs=>
      simp only at hx
      obtain ⟨hx1,rfl⟩:=CE hx;clear hx;have hx:=hx1
      have hxr:=hr x (by simp [Op.operands,Call.operands])
      unfold AY at hx
      split at hx
      ·rename_i s hs
       split at hx
       ·rename_i hu
        cases hx
        rw [hs] at hxr
        have:=hxr.str
        refine HY.pure hh (v':=.int .i64 ((AA s).length:Nat)) ?_ (D6 rfl)
        simp [execOp,resolve,invoke,builtin,Builtin.len_,run_underlying hu,this,goInt,CD]
       ·cases hx
      ·rename_i a n c hs
       split at hx
       ·rename_i e hu
        cases hx
        rw [hs] at hxr
        have:∃a' c',ρ' x=.slice a' n c':=by
         cases a with
         |none=>obtain ⟨h1,h2,h3⟩:=hxr.slc_nil;subst h2;exact ⟨_,_,h1⟩
         |some a=>obtain ⟨l,ca,cc,_,h1,_⟩:=hxr.slc;exact ⟨_,_,h1⟩
        obtain ⟨a',c',this⟩:=this
        refine HY.pure hh (v':=.int .i64 (n:Nat)) ?_ (D6 rfl)
        simp [execOp,resolve,invoke,builtin,Builtin.len_,run_underlying hu,this,goInt]
       ·cases hx
      ·cases hx
   case append=>
    split at hx
    ·rename_i t xt
     split at hx
     ·rename_i s x
      have hx:=GZ hx
      obtain ⟨v',w',φ',h1,h3,h4⟩:=Mj (ty:=type) hh hb hx (hr s (by simp [Op.operands,Call.operands])) (hr x (by simp [Op.operands,Call.operands])) hn
      exact ⟨v',w',φ',.inl (by simp [execOp,resolve,invoke,builtin,h1]),h3,h4⟩
     ·cases hx
    ·cases hx
theorem aL {eqs:List TypeId} {ρ ρ':Operand→Value} {o:Oper} {f:FuncId} {args:List Value} {h':H}
  (hx:KJ P eqs lo ρ o.op h=some (.call f args,h')) (hr:∀x∈o.op.operands.toList,VR φ (ρ x) (ρ' x)):
  h'=h∧∃args':Array Value,All2 (VR φ) args args'.toList∧(execOp ρ' o).run P w=(callFunc f args').run P w:=by
 obtain ⟨dst,op,type,pos,after,guard⟩:=o
 simp only at hx hr
 obtain ⟨g,as,ts,a,b,rfl,hg,ha,hb,rfl,rfl⟩:=Kq hx
 obtain ⟨args0⟩:=as
 have hgr:=hr g (by simp [Op.operands,Call.operands])
 rw [hg] at hgr
 have hd:dry (.func (.func f) a b)=true:=by simp only [dry,ha,hb,Bool.and_self]
 have he:=hgr.of_dry hd
 simp only [List.isEmpty_iff,Array.toList_eq_nil_iff] at ha hb
 subst ha;subst hb
 refine ⟨rfl,(args0.map ρ').toArray,⟨by simp,fun i v hv=>?_⟩,?_⟩
 ·simp only [List.getElem?_map,Option.map_eq_some_iff] at hv ⊢
  obtain ⟨x,hx1,rfl⟩:=hv
  exact ⟨ρ' x,⟨x,hx1,rfl⟩,hr x (by simp [Op.operands,Call.operands];exact .inr (List.mem_of_getElem? hx1))⟩
 ·simp [execOp,resolve,he,Deferred.ofValue,invoke]
end
end Go.Vx
