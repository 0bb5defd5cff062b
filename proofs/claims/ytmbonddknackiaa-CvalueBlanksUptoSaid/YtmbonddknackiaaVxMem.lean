/- Reading: slices, indexes, fields, loads. -/
import Derived.Test.YtmbonddknackiaaVxOp
namespace Go.Vx
open Go.RowKit
section
variable {P:Program} {φ:Cy} {w:World}
theorem VR.ptr {a:Addr} {v:Value} (h:VR φ (.pointer (some a)) v):∃l,φ a.block=some l∧v=.pointer (some ⟨l.blk,l.off+a.off,none⟩):=h
theorem VR.slcB {a:Addr} {n s:Nat} {v:Value} (h:VR φ (.slice (some a) n s) v):
  ∃l ca cc,φ a.block=some l∧v=.slice (some ca) n cc∧n≤cc∧cc≤maxLen∧a.off+cc*s≤l.room∧(ca=⟨l.blk,l.off+a.off,none⟩∨cc=0)∧(s=1→ca.block=l.blk)∧(s≠1→l.mark=false):=h
theorem VR.slc {a:Addr} {n s:Nat} {v:Value} (h:VR φ (.slice (some a) n s) v):
  ∃l ca cc,φ a.block=some l∧v=.slice (some ca) n cc∧n≤cc∧cc≤maxLen∧a.off+cc*s≤l.room∧(ca=⟨l.blk,l.off+a.off,none⟩∨cc=0):=
 let ⟨l,ca,cc,h1,h2,h3,h4,h5,h6,_⟩:=h.slcB
 ⟨l,ca,cc,h1,h2,h3,h4,h5,h6⟩
theorem VR.slc_nil {n s:Nat} {v:Value} (h:VR φ (.slice none n s) v):v=.slice none 0 0∧n=0∧s=0:=by
 obtain ⟨h1,h2⟩:=h
 cases n with
 |zero=>cases s with
  |zero=>exact ⟨h2,rfl,rfl⟩
  |succ s=>simp [dry] at h1
 |succ n=>simp [dry] at h1
theorem VR.agg {xs:Array Value} {v:Value} (h:VR φ (.agg xs) v):∃ys,v=.agg ys∧All2 (CR φ) xs.toList ys.toList:=h
theorem HP {lo:Option Operand} {ρ ρ':Operand→Value} (hr:∀x,lo=some x→VR φ (ρ x) (ρ' x)) {d i:Int} (h:low (lo.map ρ) d=some i):
  (lo.map ρ'=none∧i=d)∨∃k,lo.map ρ'=some (.int k i):=by
 cases lo with
 |none=>simp [low] at h;exact .inl ⟨rfl,h.symm⟩
 |some x=>
  right
  simp only [Option.map_some] at h ⊢
  have:=hr x rfl
  cases hx:ρ x<;>rw [hx] at h this<;>simp [low] at h
  subst h
  exact ⟨_,by rw [this.int]⟩
theorem O5 (s:ByteArray) (a b:Nat):AA (s.extract a b)=((AA s).drop a).take (b - a):=by
 simp [AA,List.take_drop]
theorem J5 (isSlice:Bool) {len cap:Nat} {lo hi:Option Value} {l h:Int} (hl:(lo=none∧l=0)∨∃k,lo=some (.int k l))
  (hh:(hi=none∧h=(len:Int))∨∃k,hi=some (.int k h)) (h0:0≤l) (h1:l≤h) (h2:h≤(cap:Int)):
  (Instr.sliceBounds isSlice len cap lo hi none).run P w=.ok (l.toNat,h.toNat,cap) w:=by
 obtain ⟨q,rfl⟩:=Int.eq_ofNat_of_zero_le h0
 obtain ⟨r,rfl⟩:=Int.eq_ofNat_of_zero_le (Int.le_trans h0 h1)
 have e1:q≤r:=by omega
 have e2:r≤cap:=by omega
 rcases hl with ⟨rfl,hl⟩|⟨k,rfl⟩<;>rcases hh with ⟨rfl,hh⟩|⟨k',rfl⟩
 ·have:q=0:=by omega
  have:r=len:=by omega
  subst_vars;simp [Instr.sliceBounds]
 ·have:q=0:=by omega
  subst_vars;simp [Instr.sliceBounds,Instr.sliceBound,asIntOf,e2]
 ·have:r=len:=by omega
  subst_vars;simp [Instr.sliceBounds,Instr.sliceBound,asIntOf,e1]
 ·simp [Instr.sliceBounds,Instr.sliceBound,asIntOf,e1,e2]
theorem Fl {t e:TypeId} (h:Bt P t=some e):P.underlying t=some (.slice e):=by
 unfold Bt at h;split at h
 ·rename_i hu;cases h;exact hu
 ·cases h
theorem RD {t:TypeId} (h:BJ P t=true):P.underlying t=some .string:=by
 unfold BJ at h;split at h
 ·assumption
 ·cases h
theorem KS {t n e:Nat} (h:J4 P t=some (n,e)):P.underlying t=some (.array n e):=by
 unfold J4 at h;split at h
 ·rename_i hu;cases h;exact hu
 ·cases h
theorem Fc {t:TypeId} (h:Ab P t≠0):∃i,P.info? t=some i∧i.size=Ab P t:=by
 unfold Ab at h ⊢;split at h
 ·rename_i i hi;exact ⟨i,hi,rfl⟩
 ·exact absurd rfl h
theorem GO {t:TypeId} (h:(P.info? t).isSome) (w:World):(sizeOf t).run P w=.ok (Ab P t) w:=by
 obtain ⟨i,hi⟩:=Option.isSome_iff_exists.1 h
 simp [sizeOf,typeInfo,hi,Ab]
theorem OE {t:TypeId} {d:TypeDesc} (h:P.underlying t=some d):(P.info? t).isSome:=by
 unfold Program.underlying at h
 split at h
 ·rename_i hi;rw [hi];rfl
 ·rename_i hi;rw [hi];rfl
 ·cases h
theorem UP {t:TypeId} {x x' v:Value} {lo hi:Option Operand} {ρ ρ':Operand→Value} (h:Aw P t x (lo.map ρ) (hi.map ρ)=some v) (hx:VR φ x x')
  (hlo:∀x,lo=some x→VR φ (ρ x) (ρ' x)) (hhi:∀x,hi=some x→VR φ (ρ x) (ρ' x)):
  ∃v',(Instr.sliceAt t x' (lo.map ρ') (hi.map ρ') none).run P w=.ok v' w∧VR φ v v':=by
 unfold Aw at h
 split at h
 ·rename_i s
  cases hx.str
  split at h
  ·rename_i ht
   unfold BJ at ht
   split at ht
   ·rename_i hu
    split at h
    ·rename_i l hh hl hhh
     split at h
     ·rename_i hb
      cases h
      refine ⟨_,?_,D6 rfl⟩
      rw [NM _ (s.extract l.toNat hh.toNat) (O5 _ _ _)]
      rw [CD] at hb hhh
      have:=J5 (P:=P) (w:=w) false (len:=s.size) (cap:=s.size) (HP hlo hl) (HP hhi hhh) hb.1 hb.2.1 hb.2.2
      simp [Instr.sliceAt,Instr.slice,run_underlying hu,this]
     ·cases h
    ·cases h
   ·cases ht
  ·cases h
 ·rename_i a len s
  split at h
  ·rename_i e l hh he hl hhh
   have hu:=Fl he
   split at h
   ·rename_i hb
    split at h
    ·cases h
     obtain ⟨rfl,rfl,rfl⟩:=hx.slc_nil
     have h0:l=0:=by omega
     have h1:hh=0:=by omega
     subst h0;subst h1
     refine ⟨_,?_,D6 rfl⟩
     have:=J5 (P:=P) (w:=w) true (len:=0) (cap:=0) (HP hlo hl) (HP hhi hhh) hb.1 hb.2.1 hb.2.2.1
     obtain ⟨i,hi,_⟩:=Fc hb.2.2.2
     simp [Instr.sliceAt,Instr.slice,run_underlying hu,this,sizeOf,typeInfo,hi]
    ·rename_i a'
     split at h
     ·rename_i hs
      cases h
      obtain ⟨loc,ca,cc,hφ,rfl,h1,h2,h3,h4,hblk,hmk⟩:=hx.slcB
      have:=J5 (P:=P) (w:=w) true (len:=len) (cap:=cc) (HP hlo hl) (HP hhi hhh) hb.1 hb.2.1 (by omega)
      obtain ⟨i,hi,his⟩:=Fc hb.2.2.2
      refine ⟨.slice (some (if cc=l.toNat then ca else ca.add (l.toNat*Ab P e))) (hh.toNat - l.toNat) (cc - l.toNat),?_,?_⟩
      ·simp only [Instr.sliceAt,Instr.slice,run_underlying hu,this,sizeOf,typeInfo,Sem.run_bind,Result.andThen,run_program,hi,Sem.run_pure,his]
       split<;>rfl
      ·refine ⟨loc,_,_,hφ,rfl,by omega,by omega,?_,?_,?_,hmk⟩
       ·show a'.off+l.toNat*s+(cc - l.toNat)*s≤loc.room
        have:l.toNat*s+(cc - l.toNat)*s=cc*s:=by rw [←Nat.add_mul];congr 1;omega
        omega
       ·by_cases hc:cc=l.toNat
        ·right;omega
        ·left
         rw [if_neg hc]
         rcases h4 with rfl|h4
         ·rw [Addr.add_lit,hs]
          show (⟨loc.blk,loc.off+a'.off+l.toNat*s,none⟩:Addr)=⟨loc.blk,loc.off+(a'.off+l.toNat*s),none⟩
          rw [Nat.add_assoc]
         ·omega
       ·intro h1
        have hblk:=hblk h1
        show (if cc=l.toNat then ca else ca.add (l.toNat*Ab P e)).block=loc.blk
        split
        ·exact hblk
        ·unfold Addr.add;split<;>exact hblk
     ·cases h
   ·cases h
  ·cases h
 ·cases h
theorem NS {t:TypeId} {x x' i i' v:Value} (h:CL P t x i=some v) (hx:VR φ x x') (hi:VR φ i i'):
  ∃v',(Instr.indexAt t x' i').run P w=.ok v' w∧VR φ v v':=by
 unfold CL at h
 split at h
 ·rename_i a len s k i
  cases hi.int
  split at h
  ·rename_i e he
   have hu:=Fl he
   split at h
   ·rename_i hb
    cases h
    obtain ⟨loc,ca,cc,hφ,rfl,h1,h2,h3,h4⟩:=hx.slc
    obtain ⟨i0,hi0,his⟩:=Fc hb.2.2.2
    have hca:ca=⟨loc.blk,loc.off+a.off,none⟩:=h4.resolve_right (by omega)
    subst hca
    refine ⟨_,?_,loc,hφ,rfl⟩
    simp [Instr.indexAt,asIntOf,run_underlying hu,hb.1,hb.2.1,sizeOf,typeInfo,hi0,his,Addr.add_lit,Nat.add_assoc]
   ·cases h
  ·cases h
 ·rename_i a k i
  cases hi.int
  split at h
  ·rename_i len e he
   have hu:=KS he
   split at h
   ·rename_i hb
    cases h
    obtain ⟨loc,hφ,rfl⟩:=hx.ptr
    obtain ⟨i0,hi0,his⟩:=Fc hb.2.2
    refine ⟨_,?_,loc,hφ,rfl⟩
    simp [Instr.indexAt,asIntOf,Instr.sureAddr,run_underlying hu,hb.1,hb.2.1,sizeOf,typeInfo,hi0,his,Addr.add_lit,Nat.add_assoc]
   ·cases h
  ·cases h
 ·cases h
theorem GG {t:TypeId} {b:Bool} (h:Bw P t=some b) (w:World):(isAgg t).run P w=.ok b w:=by
 unfold Bw at h
 split at h
 ·rename_i hu;cases h;simp [isAgg,run_underlying hu]
 ·rename_i hu;cases h;simp [isAgg,run_underlying hu]
 ·rename_i d hns hna hu;cases h
  simp only [isAgg,Sem.run_bind,run_underlying hu,Result.andThen]
  rfl
 ·cases h
theorem Ho {t:TypeId} {b:Bool} (h:Bw P t=some b):(P.info? t).isSome:=by
 unfold Bw at h
 split at h
 ·rename_i hu;exact OE hu
 ·rename_i hu;exact OE hu
 ·rename_i hu;exact OE hu
 ·cases h
theorem PV {t:TypeId} {cs cs':Array Value} {off:Nat} {v:Value} (h:Ka P t cs.toList off=some v) (hc:All2 (CR φ) cs.toList cs'.toList):
  ∃v',(part t cs' off).run P w=.ok v' w∧VR φ v v':=by
 unfold Ka at h
 split at h
 ·rename_i ht
  cases h
  refine ⟨.agg (cs'.extract off (off+Ab P t)),?_,_,rfl,?_⟩
  ·simp [part,GG ht,GO (Ho ht)]
  ·have:=(hc.drop off).take (Ab P t)
   simpa [List.take_drop,Nat.add_comm] using this
 ·rename_i ht
  obtain ⟨u,hu,hr⟩:=hc.2 _ _ h
  refine ⟨u,?_,hr.vr⟩
  have:cs'[off]?=some u:=by simpa using hu
  simp [part,GG ht,this]
 ·cases h
theorem VJ {t:TypeId} {x x' i i' v:Value} (h:AV P t x i=some v) (hx:VR φ x x') (hi:VR φ i i'):
  ∃v',(Instr.index t x' i').run P w=.ok v' w∧VR φ v v':=by
 unfold AV at h
 split at h
 ·rename_i s k i
  cases hi.int;cases hx.str
  split at h
  ·rename_i hb
   split at h
   ·rename_i b hs
    cases h
    refine ⟨_,?_,D6 rfl⟩
    have hs':s[i.toNat]?=some b:=by
     have:s.data[i.toNat]?=some b:=by simpa [AA] using hs
     rw [←this];rfl
    simp [Instr.index,asIntOf,run_underlying (RD hb.1),hb.2,hs']
   ·cases h
  ·cases h
 ·rename_i cs k i
  cases hi.int
  obtain ⟨ys,rfl,hc⟩:=hx.agg
  split at h
  ·rename_i len e he
   split at h
   ·rename_i hb
    obtain ⟨i0,hi0,his⟩:=Fc hb.2.2
    obtain ⟨v',hr,hv⟩:=PV (w:=w) h hc
    refine ⟨v',?_,hv⟩
    simp [Instr.index,asIntOf,run_underlying (KS he),hb.1,hb.2.1,sizeOf,typeInfo,hi0,his,hr]
   ·cases h
  ·cases h
 ·cases h
theorem BR.cells {b:Blk} {l:Loc} (h:BR φ b l w):∃cs:List Value,All2 (CR φ) b.cells cs∧∀j v,cs[j]?=some v→w.cell? ⟨l.blk,l.off+j,none⟩=some v:=by
 obtain ⟨c,el,fr,h1,h2,h3,h4,h5⟩:=h
 have hl:((c.toList.drop l.off).take b.cells.length).length=b.cells.length:=by simp;omega
 refine ⟨(c.toList.drop l.off).take b.cells.length,⟨hl.symm,fun j v hv=>?_⟩,fun j v hv=>?_⟩
 ·obtain ⟨u,hu,hr⟩:=h4 j v hv
  have hj:j<b.cells.length:=by
   apply Classical.byContradiction;intro hc
   rw [List.getElem?_eq_none (by omega)] at hv;cases hv
  refine ⟨u,?_,hr⟩
  rw [List.getElem?_take,if_pos hj,List.getElem?_drop]
  simpa using hu
 ·rw [List.getElem?_take] at hv
  split at hv
  ·rw [List.getElem?_drop] at hv
   simp only [World.cell?,h1]
   simpa using hv
  ·cases hv
theorem Pm {base:Nat} {H:H} {t:TypeId} {p p' v:Value} (hh:HR base φ H w) (h:G0 P t H p=some v) (hp:VR φ p p'):
  ∃v',(Instr.loadAt t p').run P w=.ok v' w∧VR φ v v':=by
 unfold G0 at h
 simp only [H.getK_eq] at h
 split at h
 ·rename_i a
  obtain ⟨l,hφ,rfl⟩:=hp.ptr
  split at h
  ·rename_i b hg ht
   obtain ⟨cs,hcs,hcell⟩:=(hh.live _ _ _ hφ hg).cells
   split at h
   ·rename_i hb
    cases h
    have hl:((cs.drop a.off).take (Ab P t)).length=Ab P t:=by simp [←hcs.1];omega
    refine ⟨.agg ((cs.drop a.off).take (Ab P t)).toArray,?_,_,rfl,?_⟩
    ·have:=run_loadCells_list (P:=P) w ⟨l.blk,l.off+a.off,none⟩ ((cs.drop a.off).take (Ab P t)) (fun j v hv=>by
      rw [Addr.add_lit]
      rw [List.getElem?_take] at hv
      split at hv
      ·rw [List.getElem?_drop] at hv
       rw [Nat.add_assoc];exact hcell _ _ hv
      ·cases hv)
     rw [hl] at this
     simp [Instr.loadAt,Instr.sureAddr,loadVar,GG ht,GO (Ho ht),this]
    ·simpa using (hcs.drop a.off).take (Ab P t)
   ·cases h
  ·rename_i b hg ht
   obtain ⟨cs,hcs,hcell⟩:=(hh.live _ _ _ hφ hg).cells
   obtain ⟨u,hu,hr⟩:=hcs.2 _ _ h
   refine ⟨u,?_,hr.vr⟩
   simp [Instr.loadAt,Instr.sureAddr,loadVar,GG ht,hcell _ _ hu]
  ·cases h
 ·cases h
end
end Go.Vx
