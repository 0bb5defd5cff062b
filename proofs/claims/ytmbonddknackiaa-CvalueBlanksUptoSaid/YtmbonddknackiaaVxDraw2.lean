/- A region that draws its order: the proof. -/
import Derived.Test.YtmbonddknackiaaVxDraw
namespace Go.Vx
open Go.RowKit
structure DrawOk (P:Program) (ops:Array Oper):Prop where
 edge:∀(j:Nat) (o:Oper),ops.toList[j]?=some o→∀e∈o.after.toList,Region.binds .any e=true→e.on<j
 pair:∀(i j:Nat) (oi oj:Oper),i<j→ops.toList[i]?=some oi→ops.toList[j]?=some oj→ET (E7 ops.toList []) i j=true∨
  (oi.apart ops oj=true∧¬(DH P oi.op=true∧(DH P oj.op=true∨EO oj.op=true))∧¬(EO oi.op=true∧DH P oj.op=true))
theorem Gd {α:Type} {l:List α} {i:Nat} {a:α} (h:l[i]?=some a):(a,i)∈l.zipIdx:=by
 rw [List.mem_zipIdx_iff_getElem?];exact h
theorem kH {P:Program} {ops:Array Oper} (h:Q4 P ops=true):DrawOk P ops:=by
 unfold Q4 at h
 simp only [List.all_eq_true,Bool.and_eq_true,Bool.or_eq_true,Bool.not_eq_true',decide_eq_true_eq,decide_eq_false_iff_not] at h
 refine ⟨fun j o ho e he hb=>?_,fun i j oi oj hij hi hj=>?_⟩
 ·have:=(h (o,j) (Gd ho)).1 e he
  rcases this with h1|h1
  ·rw [hb] at h1;cases h1
  ·exact h1
 ·have:=(h (oj,j) (Gd hj)).2 (oi,i) (Gd hi)
  rcases this with h1|h1
  ·exact absurd hij h1
  ·unfold Yn at h1
   simp only [Bool.or_eq_true,Bool.and_eq_true,Bool.not_eq_true',Bool.and_eq_false_iff,Bool.or_eq_false_iff] at h1
   rcases h1 with h1|⟨⟨h1,h2⟩,h3⟩
   ·exact .inl h1
   ·refine .inr ⟨h1,?_,?_⟩
    ·rintro ⟨a,b⟩
     rcases h2 with h2|⟨h2,h4⟩
     ·rw [a] at h2;cases h2
     ·rcases b with b|b
      ·rw [b] at h2;cases h2
      ·rw [b] at h4;cases h4
    ·rintro ⟨a,b⟩
     rcases h3 with h3|h3
     ·rw [a] at h3;cases h3
     ·rw [b] at h3;cases h3
theorem Ru {P:Program} {ops:Array Oper} (D:DrawOk P ops):∀(j i:Nat) (o:Oper),ops.toList[j]?=some o→ET (E7 ops.toList []) i j=true→i<j:=by
 intro j
 induction j using Nat.strongRecOn with
 |_ j ih=>
  intro i o ho h
  obtain ⟨e,he,hb,h1⟩:=N4 ho h
  have hlt:=D.edge j o ho e he hb
  rcases h1 with h1|⟨h1,h2⟩
  ·omega
  ·have hj:j<ops.toList.length:=by apply Classical.byContradiction;intro hc;rw [List.getElem?_eq_none (by omega)] at ho;cases ho
   have:=ih e.on hlt i _ (List.getElem?_eq_getElem (by omega)) h2
   omega
def Nd (h:H) (r:Option Nat):H:=⟨h.n,(List.range h.n).map fun j=>if r=some (h.n - 1 - j) then h.get (h.n - 1 - j) else none⟩
theorem RW (h:H) (r:Option Nat) (id:Nat):(Nd h r).get id=if r=some id then h.get id else none:=by
 by_cases hi:id<h.n
 ·rw [H.get_of_lt (h:=Nd h r) hi]
  show (((List.range h.n).map _)[h.n - 1 - id]?).join=_
  rw [List.getElem?_map,List.getElem?_range (by omega)]
  simp only [Option.map_some,Option.join_some]
  rw [show h.n - 1 - (h.n - 1 - id)=id by omega]
 ·rw [H.get_ge (h:=Nd h r) (show h.n≤id by omega),H.get_ge (h:=h) (by omega)]
  simp
section
variable {C:Cx} {base:Nat} {callf:Nat→FuncId→List Value→H→Option (Value×H)} {lo:Nat} {ops:Array Oper} {E:Nat→BF} {Hs:Nat→H} {V:Nat→Value}
structure Inv (C:Cx) (base lo:Nat) (ops:Array Oper) (E:Nat→BF) (Hs:Nat→H) (V:Nat→Value) (φ0:Cy) (w0:World) (S:Nat→Bool) (φ:Cy) (ν:Nat) (a:Act) (w:World):Prop where
 nu:ν≤ops.toList.length
 below:∀k,k<ν→F3 C ops.toList k=true→S k=true
 above:∀k,ν≤k→F3 C ops.toList k=true→S k=false
 isM:ν<ops.toList.length→F3 C ops.toList ν=true
 down:∀i j,S j=true→ET (E7 ops.toList []) i j=true→S i=true
 len:(E 0).length=a.tmps.size
 defers:a.defers=[]
 slot:∀t,t<(E 0).length→VR φ (val V ops.toList ((E 0).getD t undef) t S ops.toList.length) (a.tmps.getD t undef)
 heap:HRg base φ (HA Hs ops.toList.length ν) w
 ext:IF φ0 φ
 dom:∀id,φ id≠none→φ0 id≠none∨∃k,k<ops.toList.length∧S k=true∧(Hs k).n≤id∧id<(Hs (k+1)).n
 tgt:∀m,S m=true→F3 C ops.toList m=true→∀t,Xx C ops.toList E m=some t→φ t≠none
 bel:Below base w0 w
 frame:∀b,b<w0.heap.size→¬IH lo φ0 (Hs 0) b→w.heap[b]?=w0.heap[b]?
 fresh:∀i l,φ i=some l→φ0 i=none→w0.heap.size≤l.blk∨IH lo φ0 (Hs 0) l.blk
theorem Ja {k:Nat} (h:F3 C ops.toList k=true):∃o,ops.toList[k]?=some o∧DH C.P o.op=true:=by
 unfold F3 at h
 split at h
 ·rename_i o ho;exact ⟨o,ho,h⟩
 ·cases h
variable {φ0 φ:Cy} {w0 w:World} {S:Nat→Bool} {ν:Nat} {a:Act}
theorem Inv.slots (I:Inv C base lo ops E Hs V φ0 w0 S φ ν a w) (R:Run C callf lo ops.toList 0 E Hs V) (D:DrawOk C.P ops) {i:Nat} {o:Oper} (ho:ops.toList[i]?=some o) (hi:S i=false)
  (hup:∀k,ET (E7 ops.toList []) k i=true→S k=true) {t:Nat} (ht:t∈o.looksAt ops):VR φ ((E i).getD t undef) (a.tmps.getD t undef):=by
 have hin:i<ops.toList.length:=by apply Classical.byContradiction;intro hc;rw [List.getElem?_eq_none (by omega)] at ho;cases ho
 by_cases hl:t<(E 0).length
 ·have h1:=(R.val_E hl i (by omega)).2
  rw [h1]
  have h2:=I.slot t hl
  have e1:val V ops.toList ((E 0).getD t undef) t (fun _=>true) i=val V ops.toList ((E 0).getD t undef) t S ops.toList.length:=by
   have e2:val V ops.toList ((E 0).getD t undef) t S ops.toList.length=val V ops.toList ((E 0).getD t undef) t S i:=by
    refine No (fun j hj hd=>?_) _ (by omega)
    cases hS:S j with
    |false=>rfl
    |true=>
     exfalso
     cases hoj:ops.toList[j]? with
     |none=>simp only [hoj] at hd;cases hd
     |some oj=>
      simp only [hoj] at hd
      have hne:i≠j:=fun e=>by subst e;rw [hS] at hi;cases hi
      rcases D.pair i j o oj (by omega) ho hoj with hp|⟨hp,_,_⟩
      ·rw [I.down i j hS hp] at hi;cases hi
      ·exact (Oper.apart_spec hp).2.2 t hd ht
   rw [e2]
   refine Jb fun j hj hd=>?_
   cases hoj:ops.toList[j]? with
   |none=>simp only [hoj] at hd;cases hd
   |some oj=>
    simp only [hoj] at hd
    rcases D.pair j i oj o hj hoj ho with hp|⟨hp,_,_⟩
    ·exact (hup j hp).symm
    ·exact absurd ht ((Oper.apart_spec hp).1 t hd)
  rw [e1];exact h2
 ·have h1:(E i).getD t undef=undef:=by
   have hle:(E i).length=(E 0).length:=R.E_len i (by omega)
   rw [List.getD,List.getElem?_eq_none (by omega)];rfl
  have h2:a.tmps.getD t undef=undef:=by
   have:¬t<a.tmps.size:=by rw [←I.len];exact hl
   simp [Array.getD,this]
  rw [h1,h2];exact VR.undef
theorem Inv.free (I:Inv C base lo ops E Hs V φ0 w0 S φ ν a w) (R:Run C callf lo ops.toList 0 E Hs V) (hk:CC callf)
  (hn:∀i,(Hs 0).n≤i→i<(Hs ops.toList.length).n→φ0 i=none) {i:Nat} (hin:i<ops.toList.length) (hi:S i=false) {id:Nat} (h1:(Hs i).n≤id) (h2:id<(Hs (i+1)).n):φ id=none:=by
 cases hφ:φ id with
 |none=>rfl
 |some l=>
  exfalso
  rcases I.dom id (by rw [hφ];simp) with h|⟨k,hkn,hS,h3,h4⟩
  ·exact h (hn id (Nat.le_trans (R.mono hk (Nat.zero_le _) (by omega)) h1) (Nat.lt_of_lt_of_le h2 (R.mono hk (by omega) (Nat.le_refl _))))
  ·rcases Nat.lt_trichotomy k i with hlt|rfl|hgt
   ·have:=R.mono hk (show k+1≤i by omega) (by omega);omega
   ·rw [hS] at hi;cases hi
   ·have:=R.mono hk (show i+1≤k by omega) (by omega);omega
theorem Inv.turns (I:Inv C base lo ops E Hs V φ0 w0 S φ ν a w) (R:Run C callf lo ops.toList 0 E Hs V) (hk:CC callf)
  (hn:∀i,(Hs 0).n≤i→i<(Hs ops.toList.length).n→φ0 i=none) {k:Nat} (hkn:k≤ops.toList.length) {b:Nat} (hb:b<w0.heap.size) (h:IH lo φ (Hs k) b):IH lo φ0 (Hs 0) b:=by
 obtain ⟨i,l,bl,h1,h2,h3,h4,h5⟩:=h
 have hi:=H.get_lt h2
 cases hφ:φ0 i with
 |none=>
  rcases I.fresh i l h1 hφ with h|h
  ·omega
  ·rw [h5] at h;exact h
 |some l'=>
  have e:=I.ext i l' hφ
  rw [h1] at e;cases e
  have hlt:i<(Hs 0).n:=by
   apply Classical.byContradiction;intro hc
   have:=hn i (by omega) (Nat.lt_of_lt_of_le hi (R.mono hk hkn (Nat.le_refl _)))
   rw [hφ] at this;cases this
  obtain ⟨b0,hb0,ho⟩:=R.back hk (Nat.zero_le _) hkn hlt h2
  exact ⟨i,l,b0,hφ,hb0,ho.trans h3,h4,h5⟩
def add (S:Nat→Bool) (i:Nat):Nat→Bool:=fun k=>if k=i then true else S k
theorem Inv.slot' (I:Inv C base lo ops E Hs V φ0 w0 S φ ν a w) (D:DrawOk C.P ops) {i:Nat} {o:Oper} (ho:ops.toList[i]?=some o) (hi:S i=false)
  {φ':Cy} (hφ:IF φ φ') {v':Value} (hv:VR φ' (V i) v'):∀t,t<(E 0).length→VR φ' (val V ops.toList ((E 0).getD t undef) t (add S i) ops.toList.length) ((a.put o.dst v').tmps.getD t undef):=by
 intro t hl
 have hin:i<ops.toList.length:=by apply Classical.byContradiction;intro hc;rw [List.getElem?_eq_none (by omega)] at ho;cases ho
 by_cases hd:o.dst=some t
 ·have e1:val V ops.toList ((E 0).getD t undef) t (add S i) ops.toList.length=V i:=by
   have e2:=No (V:=V) (ops:=ops.toList) (v0:=(E 0).getD t undef) (t:=t) (p:=add S i) (k:=i+1) (fun j hj hdj=>by
    unfold add
    rw [if_neg (by omega)]
    cases hS:S j with
    |false=>rfl
    |true=>
     exfalso
     cases hoj:ops.toList[j]? with
     |none=>simp only [hoj] at hdj;cases hdj
     |some oj=>
      simp only [hoj] at hdj
      rcases D.pair i j o oj (by omega) ho hoj with hp|⟨hp,_,_⟩
      ·rw [I.down i j hS hp] at hi;cases hi
      ·exact (Oper.apart_spec hp).2.1 t hd hdj) ops.toList.length (by omega)
   rw [e2]
   unfold val
   rw [if_pos ⟨by simp [add],by simp only [ho,hd]⟩]
  rw [e1,hd]
  have:t<a.tmps.size:=by rw [←I.len];exact hl
  simpa [Act.put,this] using hv
 ·have e1:val V ops.toList ((E 0).getD t undef) t (add S i) ops.toList.length=val V ops.toList ((E 0).getD t undef) t S ops.toList.length:=by
   refine Jb fun j hj hdj=>?_
   unfold add
   rw [if_neg]
   intro e
   subst e
   simp only [ho] at hdj
   exact hd hdj
  rw [e1]
  have h:=(I.slot t hl).mono hφ
  cases hdst:o.dst with
  |none=>exact h
  |some d=>
   have:d≠t:=fun e=>hd (by rw [hdst,e])
   simpa [Act.put,Array.getElem?_setIfInBounds_ne this] using h
theorem Inv.tgt' (I:Inv C base lo ops E Hs V φ0 w0 S φ ν a w) {i:Nat} {o:Oper} (ho:ops.toList[i]?=some o)
  {φ':Cy} (hφ:IF φ φ') (hok:IQ o.op=true) (hrc:∀x∈o.op.operands.toList,Cl x=true→VR φ (ev (E i) x) (a.eval x)):
  ∀m,add S i m=true→F3 C ops.toList m=true→∀t,Xx C ops.toList E m=some t→φ' t≠none:=by
 intro m hm hmut t ht
 have ne:∀t,φ t≠none→φ' t≠none:=fun t h=>by
  cases hq:φ t with
  |none=>exact absurd hq h
  |some l=>rw [hφ t l hq];simp
 by_cases e:m=i
 ·subst e
  apply ne
  have hmm:DH C.P o.op=true:=by simpa only [F3,ho] using hmut
  have hr:=fun x hx=>hrc x hx (Zg hok hmm x hx)
  simp only [Xx,ho] at ht
  obtain ⟨dst,op,type,pos,after,guard⟩:=o
  simp only at ht hr
  cases op<;>simp only [Hf] at ht<;>try (cases ht;done)
  case store ty p x=>
   have hp:=hr p (by simp [Op.operands])
   split at ht
   ·rename_i q hq
    cases ht
    rw [hq] at hp
    obtain ⟨l,hl,_⟩:=hp.ptr
    rw [hl];simp
   ·cases ht
  case convert s d x=>
   have hp:=hr x (by simp [Op.operands])
   split at ht
   ·split at ht
    ·rename_i q n c hq
     cases ht
     rw [hq] at hp
     obtain ⟨l,_,_,hl,_⟩:=hp.slc
     rw [hl];simp
    ·cases ht
   ·cases ht
  case call c=>
   obtain ⟨callee,⟨args⟩,argTypes⟩:=c
   cases callee with
   |builtin b=>
    cases b<;>simp only at ht<;>try (cases ht;done)
    cases args with
    |nil=>simp at ht
    |cons x xs=>
     have hp:=hr x (by simp [Op.operands,Call.operands])
     simp only at ht
     split at ht
     ·rename_i q n c hq
      cases ht
      rw [hq] at hp
      obtain ⟨l,_,_,hl,_⟩:=hp.slc
      rw [hl];simp
     ·cases ht
   |_=>simp only at ht;cases ht
 ·unfold add at hm
  rw [if_neg e] at hm
  exact ne t (I.tgt m hm hmut t ht)
end
end Go.Vx
