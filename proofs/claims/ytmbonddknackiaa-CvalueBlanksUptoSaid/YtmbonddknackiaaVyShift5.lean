/- What is made of values without an address is one value, whatever the heap. -/
import Derived.Test.YtmbonddknackiaaVyShift4
set_option linter.unusedVariables false
namespace Go.Vx
section
variable {k:Nat} {g h h':H} {u v:Value} {R:Nat→Prop}
def kN (k:Nat) (R:Nat→Prop) (b:Nat):Prop:=∃a,b=a+k∧R a
theorem PRep.shift (hh:ShH k g h h') {c:PC} {v:Value} (hp:PRep R h c v):∀{v':Value},ShC k v v'→PRep (kN k R) h' c v':=by
 induction hp with
 |d hd=>intro v' hs;rw [(ShV.b (.cell hs)).dryE hd];exact .d hd
 |nil=>intro v' hs;obtain ⟨_,_,rfl⟩:=(ShV.b (.cell hs)).nilE;exact .nil
 |@row b off sz blk els h1 h2 h3 h4 h5 h6 ih=>
  intro v' hs
  rw [(ShV.b (.cell hs)).slcE]
  obtain ⟨cs,k1,k2⟩:=hh.getE h2
  refine PRep.row (b:=b+k) (off:=off) (blk:=⟨blk.own,cs⟩) ⟨b,rfl,h1⟩ k1 (by rw [←k2.1];exact h3) h4 h5 fun j c v hc hv=>?_
  have hj:off+j<blk.cells.length:=by rw [k2.1];exact Az hv
  have hg:blk.cells[off+j]?=some blk.cells[off+j]:=List.getElem?_eq_getElem hj
  exact ih j c _ hc hg (k2.2 _ _ _ hg hv)
theorem L2.pshift (hh:ShH k g h h') {cs:List PC} {vs vs':List Value} (hl:L2 (PRep R h) cs vs) (hs:L2 (ShC k) vs vs'):L2 (PRep (kN k R) h') cs vs':=⟨hl.1.trans hs.1,fun i a b h1 h2=>by
 obtain ⟨v,h3,h4⟩:=hl.get h1
 exact h4.shift hh (hs.2 i v b h3 h2)⟩
theorem CI.shift (hh:ShH k g h h') {c:Ce} {v v':Value} (hc:CI [] R h c v) (hs:ShC k v v'):CI [] (kN k R) h' c v':=by
 cases c with
 |p c=>exact PRep.shift hh hc hs
 |own id sz off len=>
  obtain ⟨h1,⟨rfl,h2,h3⟩|⟨b,hb,_⟩⟩:=hc
  ·obtain ⟨_,_,rfl⟩:=(ShV.b (.cell hs)).nilE
   exact ⟨h1,.inl ⟨rfl,h2,h3⟩⟩
  ·simp at hb
 |ptr id sz i off=>obtain ⟨b,hb,_⟩:=hc;simp at hb
 |rp cs=>
  obtain ⟨b,o,blk,h1,h2,rfl,h4,h5⟩:=hc
  rw [(ShV.b (.cell hs)).ptrE]
  obtain ⟨xs,k1,k2⟩:=hh.getE h2
  exact ⟨b+k,o,⟨blk.own,xs⟩,⟨b,rfl,h1⟩,k1,rfl,by rw [←k2.1];exact h4,h5.pshift hh ((k2.drop _).take _)⟩
 |top=>trivial
theorem Gl.shift (hh:ShH k g h h') {x:YV} {v v':Value} (hx:Gl [] R h x v) (hs:ShB k v v'):Gl [] (kN k R) h' x v':=by
 cases x with
 |c c=>
  cases hs with
  |cell hs=>exact CI.shift (c:=c) hh hx hs
  |agg hl=>
   cases c with
   |top=>trivial
   |p c=>cases hx with|d hd=>cases hd
   |own id sz off len=>obtain ⟨_,⟨e,_⟩|⟨b,hb,_⟩⟩:=hx;cases e;simp at hb
   |ptr id sz i off=>obtain ⟨b,hb,_⟩:=hx;simp at hb
   |rp cs=>obtain ⟨b,o,blk,_,_,e,_⟩:=hx;cases e
 |agg cs=>
  obtain ⟨vs,rfl,hl⟩:=hx
  obtain ⟨ys,rfl,hl2⟩:=(ShV.b hs).aggE
  exact ⟨ys,rfl,hl.1.trans hl2.1,fun i a b h1 h2=>by
   obtain ⟨v,h3,h4⟩:=hl.get h1
   exact h4.shift hh (hl2.2 i v b h3 h2)⟩
 |tup xs=>exact hx.elim
theorem Af.shift (hh:ShH k g h h') {x:YV} {v v':Value} (hx:Af [] R h x v) (hs:ShV k v v'):Af [] (kN k R) h' x v':=by
 cases x with
 |c c=>
  cases hs with
  |b hs=>exact Gl.shift (x:=.c c) hh hx hs
  |tup hl=>
   cases c with
   |top=>trivial
   |p c=>cases hx with|d hd=>cases hd
   |own id sz off len=>obtain ⟨_,⟨e,_⟩|⟨b,hb,_⟩⟩:=hx;cases e;simp at hb
   |ptr id sz i off=>obtain ⟨b,hb,_⟩:=hx;simp at hb
   |rp cs=>obtain ⟨b,o,blk,_,_,e,_⟩:=hx;cases e
 |agg cs=>
  cases hs with
  |b hs=>exact Gl.shift (x:=.agg cs) hh hx hs
  |tup hl=>obtain ⟨vs,e,_⟩:=hx;cases e
 |tup xs=>
  obtain ⟨vs,rfl,hl⟩:=hx
  obtain ⟨ys,rfl,hl2⟩:=hs.tupE
  exact ⟨ys,rfl,hl.1.trans hl2.1,fun i a b h1 h2=>by
   obtain ⟨v,h3,h4⟩:=hl.get h1
   exact h4.shift hh (hl2.2 i v b h3 h2)⟩
def UL:YV→Bool
 |.c (.p (.d v))=>dry v
 |.agg cs=>(dvs cs).isSome&&(match dvs cs with|some l=>l.all dry|none=>false)
 |_=>false
theorem RA {m:Mp}:∀{cs:List Ce} {vs l:List Value},L2 (CI m R h) cs vs→dvs cs=some l→vs=l:=fun hl hd=>(hl.dvs hd).symm
theorem bT {m:Mp} {x:YV} {v w:Value} {R':Nat→Prop} {h':H} {m':Mp} (hd:UL x=true) (h1:Af m R h x v) (h2:Af m' R' h' x w):v=w:=by
 unfold UL at hd
 split at hd
 ·rw [(Af.dv h1 rfl).1,(Af.dv h2 rfl).1]
 ·simp only [Bool.and_eq_true] at hd
  obtain ⟨l,hl⟩:=Option.isSome_iff_exists.mp hd.1
  obtain ⟨vs,rfl,l1⟩:=h1
  obtain ⟨ws,rfl,l2⟩:=h2
  rw [RA l1 hl,RA l2 hl]
 ·cases hd
def NU:YV→Value
 |.c (.p (.d v))=>v
 |.agg cs=>(match dvs cs with|some l=>.agg ⟨l⟩|none=>undef)
 |_=>undef
theorem SC:∀{cs:List Ce} {l:List Value},dvs cs=some l→l.all dry=true→L2 (CI [] R h) cs l
 |[],l,hd,_=>by cases hd;exact L2.nil
 |c::cs,l,hd,ha=>by
  cases c with
  |p c=>cases c with
   |d v=>
    simp only [dvs] at hd
    split at hd
    ·rename_i l' hl'
     cases hd
     simp only [List.all_cons,Bool.and_eq_true] at ha
     exact (SC hl' ha.2).cons (PRep.d ha.1)
    ·cases hd
   |row=>cases hd
  |_=>cases hd
theorem Rq {x:YV} (hd:UL x=true):Af [] R h x (NU x)∧ShV k (NU x) (NU x):=by
 unfold UL at hd
 split at hd
 ·exact ⟨PRep.d hd,.of_dry hd⟩
 ·simp only [Bool.and_eq_true] at hd
  obtain ⟨l,hl⟩:=Option.isSome_iff_exists.mp hd.1
  have hd2:=hd.2
  rw [hl] at hd2
  simp only at hd2
  simp only [NU,hl]
  exact ⟨⟨l,rfl,SC hl hd2⟩,.b (.agg (L2.shrefl hd2))⟩
 ·cases hd
theorem HS:∀{args:List YV},args.all UL=true→L2 (Af [] R h) args (args.map NU)∧L2 (ShV k) (args.map NU) (args.map NU)
 |[],_=>⟨L2.nil,L2.nil⟩
 |x::args,hd=>by
  simp only [List.all_cons,Bool.and_eq_true] at hd
  obtain ⟨h1,h2⟩:=HS hd.2
  obtain ⟨h3,h4⟩:=Rq (R:=R) (h:=h) (k:=k) hd.1
  exact ⟨L2.cons h3 h1,L2.cons h4 h2⟩
theorem AS.det {C:Cx} (G:Good C) (T:RH C) {f:FuncId} {args:List YV} {Q:YV→Prop} (hc:AS C f args Q) (hd:args.all UL=true):∃y,Q y∧AS C f args fun x=>x=y:=by
 obtain ⟨n,v,h1,hx,R',y,hq,hv,hn,_,hR⟩:=hc 0 (fun _=>False) ⟨0,[]⟩ (args.map NU) (Nat.zero_le _) (fun b hb=>hb.elim) (HS (k:=0) hd).1
 refine ⟨y,hq,fun lo R h vals hlo hRb ha=>?_⟩
 have hvals:vals=args.map NU:=by
  refine List.ext_getElem? fun i=>?_
  rw [List.getElem?_map]
  cases hi:args[i]? with
  |none=>rw [List.getElem?_eq_none (by rw [←ha.1];exact List.getElem?_eq_none_iff.mp hi)];rfl
  |some x=>
   obtain ⟨w,h2,h3⟩:=ha.get hi
   rw [h2]
   exact congrArg some (bT (List.all_eq_true.mp hd x (List.mem_of_getElem? hi)) h3 (Rq (R:=R) (h:=h) (k:=0) (List.all_eq_true.mp hd x (List.mem_of_getElem? hi))).1)
 subst hvals
 have hh:ShH h.n h ⟨0,[]⟩ h:=⟨by simp,fun i hi=>rfl,fun i b hb=>by have:=H.get_lt hb;simp at this⟩
 obtain ⟨v',h1',k1,k2,k3⟩:=Wg G T (X3 (k:=h.n) (g:=h) G T n) 0 lo f _ _ _ _ _ _ hx (by omega) (HS (R:=R) (h:=h) (k:=h.n) hd).2 hh
 refine ⟨n,v',h1',k1,kN h.n R',y,rfl,hv.shift k3 k2,by rw [k3.n];omega,fun b hb=>k3.base b hb,?_⟩
 rintro b ⟨a,rfl,ha'⟩
 have:=hR a ha'
 refine ⟨by rw [k3.n];omega,fun hb=>by omega⟩
end
end Go.Vx
