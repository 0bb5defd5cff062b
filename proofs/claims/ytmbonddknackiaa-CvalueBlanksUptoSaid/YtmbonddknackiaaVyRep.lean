/- How values as they are lie in the interpreter's heap. -/
import Derived.Test.YtmbonddknackiaaVyDef
namespace Go.Vx
def L2 {α β:Type} (R:α→β→Prop) (xs:List α) (ys:List β):Prop:=
 xs.length=ys.length∧∀(i:Nat) (a:α) (b:β),xs[i]?=some a→ys[i]?=some b→R a b
section
variable {α β:Type} {R R':α→β→Prop} {xs xs':List α} {ys ys':List β}
theorem Az {i:Nat} {a:α} (h:xs[i]?=some a):i<xs.length:=by
 apply Classical.byContradiction;intro hc;rw [List.getElem?_eq_none (by omega)] at h;cases h
theorem L2.nil:L2 R [] []:=⟨rfl,fun i a b h=>by simp at h⟩
theorem L2.cons {a:α} {b:β} (h:R a b) (hs:L2 R xs ys):L2 R (a::xs) (b::ys):=
 ⟨by simp [hs.1],fun i a' b' h1 h2=>by
  cases i with
  |zero=>simp at h1 h2;subst h1;subst h2;exact h
  |succ i=>simp at h1 h2;exact hs.2 i a' b' h1 h2⟩
theorem L2.head {a:α} {b:β} (h:L2 R (a::xs) (b::ys)):R a b:=h.2 0 a b rfl rfl
theorem L2.tail {a:α} {b:β} (h:L2 R (a::xs) (b::ys)):L2 R xs ys:=
 ⟨by simpa using h.1,fun i a b h1 h2=>h.2 (i+1) a b (by simpa using h1) (by simpa using h2)⟩
theorem L2.mono (h:L2 R xs ys) (hr:∀a b,R a b→R' a b):L2 R' xs ys:=⟨h.1,fun i a b h1 h2=>hr _ _ (h.2 i a b h1 h2)⟩
theorem L2.get (h:L2 R xs ys) {i:Nat} {a:α} (ha:xs[i]?=some a):∃b,ys[i]?=some b∧R a b:=by
 have hi:=Az ha
 rw [h.1] at hi
 exact ⟨ys[i],List.getElem?_eq_getElem hi,h.2 i a _ ha (List.getElem?_eq_getElem hi)⟩
theorem L2.take (h:L2 R xs ys) (n:Nat):L2 R (xs.take n) (ys.take n):=
 ⟨by simp [h.1],fun i a b h1 h2=>by
  rw [List.getElem?_take] at h1 h2
  split at h1
  ·rename_i hi;rw [if_pos hi] at h2;exact h.2 i a b h1 h2
  ·cases h1⟩
theorem L2.drop (h:L2 R xs ys) (n:Nat):L2 R (xs.drop n) (ys.drop n):=
 ⟨by simp [h.1],fun i a b h1 h2=>by rw [List.getElem?_drop] at h1 h2;exact h.2 _ a b h1 h2⟩
theorem L2.append (h:L2 R xs ys) (h':L2 R xs' ys'):L2 R (xs++xs') (ys++ys'):=
 ⟨by simp [h.1,h'.1],fun i a b h1 h2=>by
  rw [List.getElem?_append] at h1 h2
  rw [←h.1] at h2
  split at h1
  ·rename_i hi;rw [if_pos hi] at h2;exact h.2 i a b h1 h2
  ·rename_i hi;rw [if_neg hi] at h2;exact h'.2 _ a b h1 h2⟩
theorem L2.splice {off:Nat} (h:L2 R xs ys) (h':L2 R xs' ys'):L2 R (CJ xs off xs') (CJ ys off ys'):=by
 unfold CJ
 rw [h'.1]
 exact ((h.take off).append h').append (h.drop _)
theorem L2.set (h:L2 R xs ys) {a:α} {b:β} (hr:R a b) (n:Nat):L2 R (xs.set n a) (ys.set n b):=
 ⟨by simp [h.1],fun i a' b' h1 h2=>by
  rw [List.getElem?_set] at h1 h2
  split at h1
  ·rename_i hi
   rw [if_pos hi] at h2
   rw [h.1] at h1
   split at h1
   ·rename_i hl;rw [if_pos hl] at h2;cases h1;cases h2;exact hr
   ·cases h1
  ·rename_i hi;rw [if_neg hi] at h2;exact h.2 i a' b' h1 h2⟩
theorem L2.map {γ:Type} {S:γ→β→Prop} {f:γ→α} {zs:List γ} (h:L2 (fun z b=>R (f z) b) zs ys) (hs:∀z b,R (f z) b→S z b):L2 S zs ys:=h.mono hs
theorem L2.mapl {γ:Type} {f:γ→α} {zs:List γ} (h:L2 (fun z b=>R (f z) b) zs ys):L2 R (zs.map f) ys:=
 ⟨by simp [h.1],fun i a b h1 h2=>by
  rw [List.getElem?_map] at h1
  cases hz:zs[i]? with
  |none=>rw [hz] at h1;cases h1
  |some z=>rw [hz] at h1;cases h1;exact h.2 i z b hz h2⟩
theorem L2.single {a:α} {b:β} (h:R a b):L2 R [a] [b]:=L2.nil.cons h
end
section
variable {α:Type} {sz:Nat}
theorem U6:∀{els:List (List α)},(∀cs,cs∈els→cs.length=sz)→els.flatten.length=els.length*sz
 |[],_=>by simp
 |c::els,h=>by
  rw [List.flatten_cons,List.length_append,U6 fun cs hc=>h cs (List.mem_cons_of_mem _ hc),h c (List.mem_cons_self ..),List.length_cons,Nat.succ_mul,Nat.add_comm]
theorem R5:∀{els:List (List α)},(∀cs,cs∈els→cs.length=sz)→∀n,els.flatten.drop (n*sz)=(els.drop n).flatten
 |_,_,0=>by simp
 |[],_,n+1=>by simp
 |c::els,h,n+1=>by
  have hc:=h c (List.mem_cons_self ..)
  rw [List.flatten_cons,Nat.succ_mul,Nat.add_comm,←List.drop_drop,List.drop_append,hc,Nat.sub_self,List.drop_of_length_le (l:=c) (by omega),List.drop_zero,List.nil_append,
   R5 (fun cs hc=>h cs (List.mem_cons_of_mem _ hc)) n,List.drop_succ_cons]
theorem aH:∀{els:List (List α)},(∀cs,cs∈els→cs.length=sz)→∀n,els.flatten.take (n*sz)=(els.take n).flatten
 |_,_,0=>by simp
 |[],_,n+1=>by simp
 |c::els,h,n+1=>by
  have hc:=h c (List.mem_cons_self ..)
  rw [List.flatten_cons,List.take_append,List.take_of_length_le (by rw [hc,Nat.succ_mul];omega),hc,Nat.succ_mul,Nat.add_sub_cancel,
   aH (fun cs hc=>h cs (List.mem_cons_of_mem _ hc)) n,List.take_succ_cons,List.flatten_cons]
theorem qA {els:List (List α)} (h:∀cs,cs∈els→cs.length=sz) {i:Nat} {cs:List α} (hi:els[i]?=some cs):(els.flatten.drop (i*sz)).take sz=cs:=by
 have hlt:=Az hi
 have hd:els.drop i=cs::els.drop (i+1):=by
  rw [List.drop_eq_getElem_cons hlt];rw [List.getElem?_eq_getElem hlt] at hi;rw [Option.some.inj hi]
 rw [R5 h,hd,List.flatten_cons,←h cs (List.mem_of_getElem? hi),List.take_left']
 rfl
theorem lX {els:List (List α)} (h:∀cs,cs∈els→cs.length=sz) {i:Nat} {cs:List α} (hi:els[i]?=some cs) {off:Nat} {vs:List α} (ho:off+vs.length≤sz):
  (els.set i (CJ cs off vs)).flatten=CJ els.flatten (i*sz+off) vs:=by
 have hlt:=Az hi
 have hcs:=h cs (List.mem_of_getElem? hi)
 have hd:els.drop i=cs::els.drop (i+1):=by
  rw [List.drop_eq_getElem_cons hlt];rw [List.getElem?_eq_getElem hlt] at hi;rw [Option.some.inj hi]
 have e1:els.flatten.take (i*sz+off)=(els.take i).flatten++cs.take off:=by
  rw [List.take_add,aH h,R5 h,hd,List.flatten_cons,List.take_append_of_le_length (by omega)]
 have e2:els.flatten.drop (i*sz+off+vs.length)=cs.drop (off+vs.length)++(els.drop (i+1)).flatten:=by
  rw [Nat.add_assoc,←List.drop_drop,R5 h,hd,List.flatten_cons,List.drop_append_of_le_length (by omega)]
 unfold CJ
 rw [e1,e2,List.set_eq_take_append_cons_drop,if_pos hlt]
 simp
theorem PG {els:List (List α)} (h:∀cs,cs∈els→cs.length=sz) (a b:Nat):∀cs,cs∈(els.drop a).take b→cs.length=sz:=
 fun cs hc=>h cs (List.mem_of_mem_drop (List.mem_of_mem_take hc))
theorem I6 {cs:List α} {off:Nat} {vs:List α} (h:off+vs.length≤cs.length):(CJ cs off vs).length=cs.length:=by
 simp [CJ];omega
end
inductive PRep (R:Nat→Prop) (h:H):PC→Value→Prop where
 |d {v:Value}:dry v=true→PRep R h (.d v) v
 |nil {sz:Nat}:PRep R h (.row sz []) (.slice none 0 0)
 |row {b off sz:Nat} {blk:Blk} {els:List (List PC)}:R b→h.get b=some blk→off+els.length*sz≤blk.cells.length→sz≠0→(∀cs,cs∈els→cs.length=sz)→
   (∀(k:Nat) (c:PC) (v:Value),els.flatten[k]?=some c→blk.cells[off+k]?=some v→PRep R h c v)→PRep R h (.row sz els) (.slice (some ⟨b,off,none⟩) els.length sz)
theorem PRep.mono {R R':Nat→Prop} {h h':H} {c:PC} {v:Value} (hp:PRep R h c v) (hr:∀b,R b→R' b) (hg:∀b,R b→h'.get b=h.get b):PRep R' h' c v:=by
 induction hp with
 |d hd=>exact .d hd
 |nil=>exact .nil
 |row h1 h2 h3 h4 h5 h6 ih=>exact .row (hr _ h1) (by rw [hg _ h1];exact h2) h3 h4 h5 fun k c v hk hv=>ih k c v hk hv
structure Lay (R:Nat→Prop) (h:H) (cells:List Value) (off sz:Nat) (els:List (List PC)):Prop where
 bound:off+els.length*sz≤cells.length
 pos:sz≠0
 each:∀cs,cs∈els→cs.length=sz
 at_:L2 (PRep R h) els.flatten ((cells.drop off).take (els.length*sz))
section
variable {R R':Nat→Prop} {h h':H} {cells:List Value} {off sz:Nat} {els:List (List PC)}
theorem Lay.mono (hl:Lay R h cells off sz els) (hr:∀b,R b→R' b) (hg:∀b,R b→h'.get b=h.get b):Lay R' h' cells off sz els:=
 ⟨hl.bound,hl.pos,hl.each,hl.at_.mono fun _ _ hp=>hp.mono hr hg⟩
theorem PRep.lay {v:Value} (hp:PRep R h (.row sz els) v):(v=.slice none 0 0∧els=[])∨∃b off blk,v=.slice (some ⟨b,off,none⟩) els.length sz∧R b∧h.get b=some blk∧Lay R h blk.cells off sz els:=by
 cases hp with
 |nil=>exact .inl ⟨rfl,rfl⟩
 |@row b off _ blk _ h1 h2 h3 h4 h5 h6=>
  refine .inr ⟨b,off,blk,rfl,h1,h2,h3,h4,h5,by rw [U6 h5];simp;omega,fun i c v hc hv=>?_⟩
  rw [List.getElem?_take] at hv
  split at hv
  ·rw [List.getElem?_drop] at hv;exact h6 i c v hc hv
  ·cases hv
theorem Lay.prep {b:Nat} {blk:Blk} (hb:R b) (hg:h.get b=some blk) (hl:Lay R h blk.cells off sz els):PRep R h (.row sz els) (.slice (some ⟨b,off,none⟩) els.length sz):=by
 refine .row hb hg hl.bound hl.pos hl.each fun k c v hc hv=>hl.at_.2 k c v hc ?_
 have:=Az hc
 rw [U6 hl.each] at this
 rw [List.getElem?_take,if_pos this,List.getElem?_drop]
 exact hv
theorem Lay.sub (hl:Lay R h cells off sz els) {a n:Nat} (hn:a+n≤els.length):Lay R h cells (off+a*sz) sz ((els.drop a).take n):=by
 have hlen:((els.drop a).take n).length=n:=by simp;omega
 have hm:a*sz+n*sz≤els.length*sz:=by rw [←Nat.add_mul];exact Nat.mul_le_mul_right _ hn
 have hb:=hl.bound
 refine ⟨by rw [hlen];omega,hl.pos,PG hl.each a n,?_⟩
 rw [hlen]
 have h1:=(hl.at_.drop (a*sz)).take (n*sz)
 rw [R5 hl.each,aH (fun cs hc=>hl.each cs (List.mem_of_mem_drop hc))] at h1
 rw [List.drop_take,List.take_take,List.drop_drop] at h1
 rw [show min (n*sz) (els.length*sz - a*sz)=n*sz by omega] at h1
 exact h1
theorem Lay.elem (hl:Lay R h cells off sz els) {i:Nat} {cs:List PC} (hi:els[i]?=some cs):off+(i*sz+sz)≤cells.length∧cs.length=sz∧L2 (PRep R h) cs ((cells.drop (off+i*sz)).take sz):=by
 have hlt:=Az hi
 have hm:i*sz+sz≤els.length*sz:=by rw [←Nat.succ_mul];exact Nat.mul_le_mul_right _ hlt
 have hb:=hl.bound
 refine ⟨by omega,hl.each cs (List.mem_of_getElem? hi),?_⟩
 have h1:=(hl.at_.drop (i*sz)).take sz
 rw [qA hl.each hi,List.drop_take,List.take_take,List.drop_drop,show min sz (els.length*sz - i*sz)=sz by omega] at h1
 exact h1
theorem Lay.nil (hp:sz≠0):Lay R h cells 0 sz []:=⟨by simp,hp,fun cs hc=>by simp at hc,by simpa using L2.nil⟩
end
theorem L2.prep_mono {R R':Nat→Prop} {h h':H} {cs:List PC} {vs:List Value} (hl:L2 (PRep R h) cs vs) (hr:∀b,R b→R' b) (hg:∀b,R b→h'.get b=h.get b):L2 (PRep R' h') cs vs:=hl.mono fun _ _ hp=>hp.mono hr hg
abbrev Mp:=List (Option Nat)
def CI (m:Mp) (R:Nat→Prop) (h:H):Ce→Value→Prop
 |.p c,v=>PRep R h c v
 |.own id sz off len,v=>sz≠0∧((v=.slice none 0 0∧off=0∧len=0)∨∃b,m[id]?=some (some b)∧v=.slice (some ⟨b,off*sz,none⟩) len sz)
 |.ptr id sz i off,v=>∃b,m[id]?=some (some b)∧v=.pointer (some ⟨b,i*sz+off,none⟩)
 |.rp cs,v=>∃b o blk,R b∧h.get b=some blk∧v=.pointer (some ⟨b,o,none⟩)∧o+cs.length≤blk.cells.length∧L2 (PRep R h) cs ((blk.cells.drop o).take cs.length)
 |.top,_=>True
def Gl (m:Mp) (R:Nat→Prop) (h:H):YV→Value→Prop
 |.c c,v=>CI m R h c v
 |.agg cs,v=>∃vs,v=.agg ⟨vs⟩∧L2 (CI m R h) cs vs
 |.tup _,_=>False
def Af (m:Mp) (R:Nat→Prop) (h:H):YV→Value→Prop
 |.tup xs,v=>∃vs,v=.tuple ⟨vs⟩∧L2 (Gl m R h) xs vs
 |x,v=>Gl m R h x v
def JH (lo:Nat) (m:Mp) (R:Nat→Prop) (h:H):Ent→Option Nat→Prop
 |.dead,_=>True
 |.box cs,mb=>∃b vs,mb=some b∧lo≤b∧h.get b=some ⟨true,vs⟩∧L2 (CI m R h) cs vs
 |.row sz els,mb=>(mb=none∧els=[])∨∃b vs,mb=some b∧lo≤b∧h.get b=some ⟨true,vs⟩∧Lay R h vs 0 sz els
def Dl (m:Mp) (s:BH) (b:Nat):Prop:=∃(i:Nat) (e:Ent),s[i]?=some e∧e≠.dead∧m[i]?=some (some b)
structure SRep (lo:Nat) (m:Mp) (R:Nat→Prop) (h:H) (s:BH):Prop where
 len:m.length=s.length
 ent:∀(i:Nat) (e:Ent) (mb:Option Nat),s[i]?=some e→m[i]?=some mb→JH lo m R h e mb
 inj:∀(i j:Nat) (e f:Ent) (b:Nat),s[i]?=some e→s[j]?=some f→e≠.dead→f≠.dead→m[i]?=some (some b)→m[j]?=some (some b)→i=j
 own:∀b,Dl m s b→¬R b
 rd:∀b,R b→b<h.n
 lo:lo≤h.n
def Co (m m':Mp):Prop:=∀(i b:Nat),m[i]?=some (some b)→m'[i]?=some (some b)
theorem Co.refl (m:Mp):Co m m:=fun _ _ h=>h
theorem Co.push (m:Mp) (x:Option Nat):Co m (m++[x]):=fun i b h=>by
 rw [List.getElem?_append_left (Az h)];exact h
section
variable {m m':Mp} {R R':Nat→Prop} {h h':H}
theorem CI.mono {c:Ce} {v:Value} (hc:CI m R h c v) (hm:Co m m') (hr:∀b,R b→R' b) (hg:∀b,R b→h'.get b=h.get b):CI m' R' h' c v:=by
 cases c with
 |p c=>exact PRep.mono hc hr hg
 |own id sz off len=>exact ⟨hc.1,hc.2.imp (fun x=>x) fun ⟨b,h1,h2⟩=>⟨b,hm _ _ h1,h2⟩⟩
 |ptr id sz i off=>obtain ⟨b,h1,h2⟩:=hc;exact ⟨b,hm _ _ h1,h2⟩
 |rp cs=>obtain ⟨b,o,blk,h1,h2,h3,h4,h5⟩:=hc;exact ⟨b,o,blk,hr _ h1,by rw [hg _ h1];exact h2,h3,h4,h5.prep_mono hr hg⟩
 |top=>trivial
theorem Gl.mono {x:YV} {v:Value} (hc:Gl m R h x v) (hm:Co m m') (hr:∀b,R b→R' b) (hg:∀b,R b→h'.get b=h.get b):Gl m' R' h' x v:=by
 cases x with
 |c c=>exact CI.mono hc hm hr hg
 |agg cs=>obtain ⟨vs,h1,h2⟩:=hc;exact ⟨vs,h1,h2.mono fun _ _ hp=>hp.mono hm hr hg⟩
 |tup xs=>exact hc
theorem Af.mono {x:YV} {v:Value} (hc:Af m R h x v) (hm:Co m m') (hr:∀b,R b→R' b) (hg:∀b,R b→h'.get b=h.get b):Af m' R' h' x v:=by
 cases x with
 |c c=>exact Gl.mono (x:=.c c) hc hm hr hg
 |agg cs=>exact Gl.mono (x:=.agg cs) hc hm hr hg
 |tup xs=>obtain ⟨vs,h1,h2⟩:=hc;exact ⟨vs,h1,h2.mono fun _ _ hp=>hp.mono hm hr hg⟩
theorem JH.mono {lo:Nat} {e:Ent} {mb:Option Nat} (he:JH lo m R h e mb) (hm:Co m m') (hr:∀b,R b→R' b) (hg:∀b,R b→h'.get b=h.get b) (hb:∀b,mb=some b→h'.get b=h.get b):JH lo m' R' h' e mb:=by
 cases e with
 |dead=>trivial
 |box cs=>obtain ⟨b,vs,h1,h2,h3,h4⟩:=he;exact ⟨b,vs,h1,h2,by rw [hb b h1];exact h3,h4.mono fun _ _ hp=>hp.mono hm hr hg⟩
 |row sz els=>
  rcases he with he|⟨b,vs,h1,h2,h3,h4⟩
  ·exact .inl he
  ·exact .inr ⟨b,vs,h1,h2,by rw [hb b h1];exact h3,h4.mono hr hg⟩
theorem YH {v:Value} (h:dry v=true):clist v=[v]∧Dv v=false:=by
 cases v<;>first|exact ⟨rfl,rfl⟩|(simp [dry] at h)
theorem PRep.cl {c:PC} {v:Value} (hp:PRep R h c v):clist v=[v]∧Dv v=false:=by
 cases hp with
 |d hd=>exact YH hd
 |nil=>exact ⟨rfl,rfl⟩
 |row=>exact ⟨rfl,rfl⟩
theorem CI.cl {c:Ce} {v:Value} (hp:CI m R h c v) (hn:c≠.top):clist v=[v]∧Dv v=false:=by
 cases c with
 |p c=>exact PRep.cl hp
 |own id sz off len=>rcases hp with ⟨_,⟨rfl,_⟩|⟨b,_,rfl⟩⟩<;>exact ⟨rfl,rfl⟩
 |ptr id sz i off=>obtain ⟨b,_,rfl⟩:=hp;exact ⟨rfl,rfl⟩
 |rp cs=>obtain ⟨b,o,blk,_,_,rfl,_⟩:=hp;exact ⟨rfl,rfl⟩
 |top=>exact absurd rfl hn
theorem Af.ycl {x:YV} {v:Value} {cs:List Ce} (hv:Af m R h x v) (hc:ycl x=some cs):L2 (CI m R h) cs (clist v)∧Dv v=false:=by
 cases x with
 |c c=>
  have hn:c≠.top:=fun he=>by subst he;cases hc
  have hx:[c]=cs:=by cases c<;>first|exact Option.some.inj hc|exact absurd rfl hn
  subst hx
  have:=CI.cl hv hn
  rw [this.1]
  exact ⟨L2.single hv,this.2⟩
 |agg xs=>
  cases hc
  obtain ⟨vs,rfl,h2⟩:=hv
  exact ⟨h2,rfl⟩
 |tup xs=>cases hc
theorem L2.pcs:∀{cs:List Ce} {ps:List PC} {vs:List Value},L2 (CI m R h) cs vs→pcs cs=some ps→L2 (PRep R h) ps vs
 |[],ps,vs,hl,hp=>by
  cases hp
  cases vs with
  |nil=>exact L2.nil
  |cons v vs=>exact absurd hl.1 (by simp)
 |c::cs,ps,[],hl,hp=>absurd hl.1 (by simp)
 |c::cs,ps,v::vs,hl,hp=>by
  cases c with
  |p c=>
   simp only [Vx.pcs] at hp
   split at hp
   ·rename_i l hl';cases hp;exact (L2.pcs hl.tail hl').cons hl.head
   ·cases hp
  |_=>cases hp
theorem Af.ypc {x:YV} {v:Value} {ps:List PC} (hv:Af m R h x v) (hc:ypc x=some ps):L2 (PRep R h) ps (clist v)∧Dv v=false:=by
 cases x with
 |c c=>
  cases c with
  |p c=>cases hc;have:=PRep.cl hv;rw [this.1];exact ⟨L2.single hv,this.2⟩
  |_=>cases hc
 |agg xs=>
  obtain ⟨vs,rfl,h2⟩:=hv
  exact ⟨h2.pcs hc,rfl⟩
 |tup xs=>cases hc
theorem L2.dvs:∀{cs:List Ce} {ps:List Value} {vs:List Value},L2 (CI m R h) cs vs→dvs cs=some ps→ps=vs
 |[],ps,vs,hl,hp=>by
  cases hp
  cases vs with
  |nil=>rfl
  |cons v vs=>exact absurd hl.1 (by simp)
 |c::cs,ps,[],hl,hp=>absurd hl.1 (by simp)
 |c::cs,ps,v::vs,hl,hp=>by
  cases c with
  |p c=>
   cases c with
   |d u=>
    simp only [Vx.dvs] at hp
    split at hp
    ·rename_i l hl'
     cases hp
     have h1:=hl.head
     cases h1
     rw [L2.dvs hl.tail hl']
    ·cases hp
   |row=>cases hp
  |_=>cases hp
theorem Af.dvA {x:YV} {v u:Value} (hv:Af m R h x v) (hc:dvA x=some u):v=u:=by
 cases x with
 |c c=>
  cases c with
  |p c=>
   cases c with
   |d w=>cases hc;cases hv;rfl
   |row=>cases hc
  |_=>cases hc
 |agg xs=>
  obtain ⟨vs,rfl,h2⟩:=hv
  simp only [Vx.dvA] at hc
  split at hc
  ·rename_i l hl;cases hc;rw [h2.dvs hl]
  ·cases hc
 |tup xs=>cases hc
theorem Af.dv {x:YV} {v u:Value} (hv:Af m R h x v) (hc:dv x=some u):v=u∧dry v=true:=by
 cases x with
 |c c=>
  cases c with
  |p c=>
   cases c with
   |d w=>cases hc;cases hv;exact ⟨rfl,by assumption⟩
   |row=>cases hc
  |_=>cases hc
 |agg xs=>cases hc
 |tup xs=>cases hc
theorem Af.yd {v:Value} (hd:dry v=true):Af m R h (.c (.p (.d v))) v:=PRep.d hd
theorem Id {v:Value} {x:YV} (hy:OP v=some x):x=.c (.p (.d v))∧dry v=true:=by
 unfold OP at hy
 split at hy
 ·cases hy;exact ⟨rfl,by assumption⟩
 ·cases hy
theorem Af.top (v:Value):Af m R h (.c .top) v:=trivial
theorem L2.pds {vs:List Value} (hd:vs.all dry=true):L2 (CI m R h) (pds vs) vs:=by
 refine L2.mapl ⟨rfl,fun i a b h1 h2=>?_⟩
 rw [h1] at h2;cases h2
 exact PRep.d (List.all_eq_true.mp hd a (List.mem_of_getElem? h1))
theorem L2.dmap {vs:List Value} (hd:vs.all dry=true):L2 (PRep R h) (vs.map .d) vs:=by
 refine L2.mapl ⟨rfl,fun i a b h1 h2=>?_⟩
 rw [h1] at h2;cases h2
 exact PRep.d (List.all_eq_true.mp hd a (List.mem_of_getElem? h1))
end
end Go.Vx
