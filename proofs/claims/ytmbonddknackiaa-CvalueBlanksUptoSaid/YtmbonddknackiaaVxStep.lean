/- Steps of the heap: a new block, a block that is turned, one that is dead. -/
import Derived.Test.YtmbonddknackiaaVxRel
namespace Go.Vx
open Go.RowKit
def P7 (φ:Cy) (i:Nat) (l:Loc):Cy:=fun j=>if j=i then some l else φ j
theorem B0 (φ:Cy) (i:Nat) (l:Loc):P7 φ i l i=some l:=if_pos rfl
theorem DP (φ:Cy) {i j:Nat} (l:Loc) (h:j≠i):P7 φ i l j=φ j:=if_neg h
theorem O1 {φ:Cy} {i:Nat} {l:Loc} (h:φ i=none):IF φ (P7 φ i l):=by
 intro j l' hj
 by_cases e:j=i
 ·rw [e,h] at hj;cases hj
 ·rw [DP _ _ e];exact hj
theorem IH.lt {lo b:Nat} {base:Nat} {φ:Cy} {h:H} {w:World} (hh:HR base φ h w) (ht:IH lo φ h b):base≤b:=by
 obtain ⟨i,l,bl,h1,h2,h3,_,h5⟩:=ht
 rw [←h5];exact hh.base i l bl h1 h2 h3
theorem Step.new {base lo:Nat} {φ:Cy} {h:H} {w w1:World} (hh:HR base φ h w) (hb:base≤w.heap.size) (hn:φ h.n=none)
  {xs:List Value} {c:Array Value} {el:TypeId} {fr:Nat×Nat} {mk:Bool}
  (hw:w1.heap=w.heap.push (.cells c el fr)) (ho:w1.os=w.os) (ht:w1.tape=w.tape) (hout:w1.output=w.output)
  (hx:∀(j:Nat) (v:Value),xs[j]?=some v→∃u,c[j]?=some u∧CR φ v u) (hl:xs.length≤c.size) (hf:fr.1=fr.2∨(mk=true∧c.size≤fr.1)):
  Step base lo φ (P7 φ h.n ⟨w.heap.size,0,c.size,mk⟩) h (h.push ⟨true,xs⟩) w w1 where
 ext:=O1 hn
 dom:=fun i hi=>by
  by_cases e:i=h.n
  ·exact .inr ⟨by omega,by simp;omega⟩
  ·rw [DP _ _ e] at hi;exact .inl hi
 n:=by simp
 heap:=by
  have hold:∀k,k<w.heap.size→w1.heap[k]?=w.heap[k]?:=fun k hk=>by rw [hw,Array.getElem?_push,if_neg (by omega)]
  have hnew:w1.heap[w.heap.size]?=some (.cells c el fr):=by rw [hw];simp
  have hle:=O1 (l:=⟨w.heap.size,0,c.size,mk⟩) hn
  refine ⟨fun i l hi=>?_,fun i l b hi hg=>?_,fun i l b hi hg hown=>?_,fun i j li lj bi bj hij hi hj hgi hgj hown=>?_⟩
  ·by_cases e:i=h.n
   ·rw [e,B0] at hi;cases hi;rw [hw];simp
   ·rw [DP _ _ e] at hi;have:=hh.bound i l hi;rw [hw];simp;omega
  ·by_cases e:i=h.n
   ·rw [e,B0] at hi;cases hi
    rw [e,H.get_push_self] at hg;cases hg
    exact ⟨c,el,fr,hnew,by simp,hl,fun j v hv=>by
     obtain ⟨u,h1,h2⟩:=hx j v hv
     exact ⟨u,by simpa using h1,h2.mono hle⟩,fun _=>hf⟩
   ·rw [DP _ _ e] at hi;rw [H.get_push_ne _ _ e] at hg
    exact ((hh.live i l b hi hg).mono hle).same (hold _ (hh.bound i l hi))
  ·by_cases e:i=h.n
   ·rw [e,B0] at hi;cases hi;exact hb
   ·rw [DP _ _ e] at hi;rw [H.get_push_ne _ _ e] at hg;exact hh.base i l b hi hg hown
  ·by_cases ei:i=h.n
   ·rw [ei,B0] at hi;cases hi
    have ej:j≠h.n:=fun e=>hij (ei.trans e.symm)
    rw [DP _ _ ej] at hj
    have:=hh.bound j lj hj
    show w.heap.size≠lj.blk
    omega
   ·rw [DP _ _ ei] at hi;rw [H.get_push_ne _ _ ei] at hgi
    by_cases ej:j=h.n
    ·rw [ej,B0] at hj;cases hj
     have:=hh.bound i li hi
     show li.blk≠w.heap.size
     omega
    ·rw [DP _ _ ej] at hj;rw [H.get_push_ne _ _ ej] at hgj
     exact hh.sep i j li lj bi bj hij hi hj hgi hgj hown
 below:=⟨ho,ht,hout,by rw [hw];simp,fun k hk=>by rw [hw,Array.getElem?_push,if_neg (by omega)]⟩
 frame:=fun b hb _=>by rw [hw,Array.getElem?_push,if_neg (by omega)]
 fresh:=fun i l hi h0=>by
  by_cases e:i=h.n
  ·rw [e,B0] at hi;cases hi;exact .inl (Nat.le_refl _)
  ·rw [DP _ _ e] at hi;rw [hi] at h0;cases h0
 back:=fun i hi b' hb'=>by rw [H.get_push_ne _ _ (by omega)] at hb';exact ⟨b',hb',rfl⟩
theorem Step.turn {base lo:Nat} {φ:Cy} {h:H} {w w1:World} (hh:HR base φ h w) {i:Nat} {l:Loc} {b b':Blk}
  (hi:φ i=some l) (hg:h.get i=some b) (hown:b.own=true) (hlo:lo≤i) (ho':b'.own=true)
  (hs:w1.heap.size=w.heap.size) (ho:w1.os=w.os) (ht:w1.tape=w.tape) (hout:w1.output=w.output)
  (hold:∀k,k≠l.blk→w1.heap[k]?=w.heap[k]?) (hb:BR φ b' l w1):
  Step base lo φ φ h (h.put i (some b')) w w1 where
 ext:=fun _ _ h=>h
 dom:=fun _ h=>.inl h
 n:=by simp
 heap:=by
  have hlt:=H.get_lt hg
  refine ⟨fun j lj hj=>by rw [hs];exact hh.bound j lj hj,fun j lj bj hj hgj=>?_,fun j lj bj hj hgj hoj=>?_,fun j k lj lk bj bk hjk hj hk hgj hgk hoj=>?_⟩
  ·by_cases e:j=i
   ·subst e;rw [H.get_put_self _ hg] at hgj;cases hgj;rw [hi] at hj;cases hj;exact hb
   ·rw [H.get_put_ne _ hlt e] at hgj
    exact (hh.live j lj bj hj hgj).same (hold _ (fun e'=>hh.sep i j l lj b bj (Ne.symm e) hi hj hg hgj hown e'.symm))
  ·by_cases e:j=i
   ·subst e;rw [hi] at hj;cases hj;exact hh.base j l b hi hg hown
   ·rw [H.get_put_ne _ hlt e] at hgj;exact hh.base j lj bj hj hgj hoj
  ·have old:∀q (bq:Blk),(h.put i (some b')).get q=some bq→∃b0,h.get q=some b0∧(bq.own=true→b0.own=true):=fun q bq hq=>by
    by_cases e:q=i
    ·subst e;exact ⟨b,hg,fun _=>hown⟩
    ·rw [H.get_put_ne _ hlt e] at hq;exact ⟨bq,hq,id⟩
   obtain ⟨b1,h1,h1'⟩:=old j bj hgj
   obtain ⟨b2,h2,_⟩:=old k bk hgk
   exact hh.sep j k lj lk b1 b2 hjk hj hk h1 h2 (h1' hoj)
 below:=⟨ho,ht,hout,by omega,fun k hk=>hold k (by have:=hh.base i l b hi hg hown;omega)⟩
 frame:=fun k _ hnt=>hold k fun e=>hnt ⟨i,l,b,hi,hg,hown,hlo,e.symm⟩
 fresh:=fun j lj hj h0=>by rw [hj] at h0;cases h0
 back:=fun j _ bj hj=>by
  by_cases e:j=i
  ·subst e;rw [H.get_put_self _ hg] at hj;cases hj;exact ⟨b,hg,by rw [hown,ho']⟩
  ·rw [H.get_put_ne _ (H.get_lt hg) e] at hj;exact ⟨bj,hj,rfl⟩
theorem Step.kill {base lo:Nat} {φ:Cy} {h:H} {w:World} (hh:HR base φ h w) {i:Nat} (hi:i<h.n):
  Step base lo φ φ h (h.put i none) w w where
 ext:=fun _ _ h=>h
 dom:=fun _ h=>.inl h
 n:=by simp
 heap:=by
  have old:∀j b,(h.put i none).get j=some b→h.get j=some b:=fun j b hj=>by
   by_cases e:j=i
   ·subst e
    cases hg:h.get j with
    |none=>
     rw [H.get_of_lt (h:=h.put j none) hi] at hj
     rw [H.get_of_lt hi] at hg
     have hj':((h.bs.set (h.n - 1 - j) none)[h.n - 1 - j]?).join=some b:=hj
     rw [List.getElem?_set] at hj'
     simp only [if_true] at hj'
     split at hj'<;>simp at hj'
    |some b0=>rw [H.get_put_self _ hg] at hj;cases hj
   ·rwa [H.get_put_ne _ hi e] at hj
  exact ⟨hh.bound,fun j l b hj hg=>hh.live j l b hj (old j b hg),fun j l b hj hg ho=>hh.base j l b hj (old j b hg) ho,
   fun j k lj lk bj bk hjk hj hk hgj hgk ho=>hh.sep j k lj lk bj bk hjk hj hk (old _ _ hgj) (old _ _ hgk) ho⟩
 below:=Below.refl _ _
 frame:=fun _ _ _=>rfl
 fresh:=fun j lj hj h0=>by rw [hj] at h0;cases h0
 back:=fun j hj b hb=>by
  by_cases e:j=i
  ·subst e
   cases hg:h.get j with
   |none=>
    rw [H.get_of_lt (h:=h.put j none) hi] at hb
    have hj':((h.bs.set (h.n - 1 - j) none)[h.n - 1 - j]?).join=some b:=hb
    rw [List.getElem?_set] at hj'
    simp only [if_true] at hj'
    split at hj'<;>simp at hj'
   |some b0=>rw [H.get_put_self _ hg] at hb;cases hb
  ·rw [H.get_put_ne _ hi e] at hb;exact ⟨b,hb,rfl⟩
theorem Step.over {base lo:Nat} {φ:Cy} {h:H} {w w1:World} (hh:HR base φ h w) (hn:φ h.n=none) {i:Nat} {l l2:Loc} {b b':Blk}
  (hi:φ i=some l) (hg:h.get i=some b) (hown:b.own=true) (hlo:lo≤i) (hl:l2.blk=l.blk)
  (hs:w1.heap.size=w.heap.size) (ho:w1.os=w.os) (ht:w1.tape=w.tape) (hout:w1.output=w.output)
  (hold:∀k,k≠l.blk→w1.heap[k]?=w.heap[k]?) (hb:BR φ b' l2 w1):
  Step base lo φ (P7 φ h.n l2) h ((h.put i none).push b') w w1 where
 ext:=O1 hn
 dom:=fun j hj=>by
  by_cases e:j=h.n
  ·exact .inr ⟨by omega,by simp;omega⟩
  ·rw [DP _ _ e] at hj;exact .inl hj
 n:=by simp
 heap:=by
  have hlt:=H.get_lt hg
  have k:=(Step.kill (lo:=lo) hh hlt).heap
  have hle:=O1 (l:=l2) hn
  have nd:∀j bj,(h.put i none).get j=some bj→j≠i:=fun j bj hj e=>by subst e;rw [H.get_put_self _ hg] at hj;cases hj
  have ne:∀j lj bj,φ j=some lj→(h.put i none).get j=some bj→lj.blk≠l.blk:=fun j lj bj hj hgj e=>by
   have hji:=nd j bj hgj
   have hgj':=hgj
   rw [H.get_put_ne _ hlt hji] at hgj'
   exact hh.sep i j l lj b bj (Ne.symm hji) hi hj hg hgj' hown e.symm
  have gp:∀j,j≠h.n→((h.put i none).push b').get j=(h.put i none).get j:=fun j e=>H.get_push_ne _ _ (by simpa using e)
  have gs:((h.put i none).push b').get h.n=some b':=H.get_push_self (h.put i none) b'
  refine ⟨fun j lj hj=>?_,fun j lj bj hj hgj=>?_,fun j lj bj hj hgj hoj=>?_,fun j q lj lq bj bq hjq hj hq hgj hgq hoj=>?_⟩
  ·by_cases e:j=h.n
   ·rw [e,B0] at hj;cases hj;rw [hs,hl];exact hh.bound i l hi
   ·rw [DP _ _ e] at hj;rw [hs];exact hh.bound j lj hj
  ·by_cases e:j=h.n
   ·rw [e,B0] at hj;cases hj;rw [e,gs] at hgj;cases hgj;exact hb.mono hle
   ·rw [DP _ _ e] at hj;rw [gp j e] at hgj
    exact ((k.live j lj bj hj hgj).mono hle).same (hold _ (ne j lj bj hj hgj))
  ·by_cases e:j=h.n
   ·rw [e,B0] at hj;cases hj;rw [hl];exact hh.base i l b hi hg hown
   ·rw [DP _ _ e] at hj;rw [gp j e] at hgj;exact k.base j lj bj hj hgj hoj
  ·by_cases ej:j=h.n
   ·rw [ej,B0] at hj;cases hj
    have eq:q≠h.n:=fun e=>hjq (ej.trans e.symm)
    rw [DP _ _ eq] at hq;rw [gp q eq] at hgq
    rw [hl];exact (ne q lq bq hq hgq).symm
   ·rw [DP _ _ ej] at hj;rw [gp j ej] at hgj
    by_cases eq:q=h.n
    ·rw [eq,B0] at hq;cases hq;rw [hl];exact ne j lj bj hj hgj
    ·rw [DP _ _ eq] at hq;rw [gp q eq] at hgq;exact k.sep j q lj lq bj bq hjq hj hq hgj hgq hoj
 below:=⟨ho,ht,hout,by omega,fun k hk=>hold k (by have:=hh.base i l b hi hg hown;omega)⟩
 frame:=fun k _ hnt=>hold k fun e=>hnt ⟨i,l,b,hi,hg,hown,hlo,e.symm⟩
 fresh:=fun j lj hj h0=>by
  by_cases e:j=h.n
  ·rw [e,B0] at hj;cases hj;rw [hl];exact .inr ⟨i,l,b,hi,hg,hown,hlo,rfl⟩
  ·rw [DP _ _ e] at hj;rw [hj] at h0;cases h0
 back:=fun j hj bj hbj=>by
  rw [H.get_push_ne _ _ (show j≠(h.put i none).n by simp;omega)] at hbj
  exact (Step.kill (lo:=lo) hh (H.get_lt hg)).back j hj bj hbj
end Go.Vx
