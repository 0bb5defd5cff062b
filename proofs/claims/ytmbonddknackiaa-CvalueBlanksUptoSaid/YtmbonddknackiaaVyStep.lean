/- What a step leaves: entries made, turned, killed. -/
import Derived.Test.YtmbonddknackiaaVyRep
namespace Go.Vx
structure Stp (m:Mp) (R:Nat→Prop) (h:H) (s:BH) (m':Mp) (R':Nat→Prop) (h':H) (s':BH):Prop where
 n:h.n≤h'.n
 keep:∀b,b<h.n→¬Dl m s b→h'.get b=h.get b
 old:∀b,Dl m' s' b→b<h.n→Dl m s b
 rd:∀b,R b→R' b
 rd':∀b,R' b→b<h.n→R b∨Dl m s b
section
variable {lo:Nat} {m m' m1 m2:Mp} {R R' R1 R2:Nat→Prop} {h h' h1 h2:H} {s s' s1 s2:BH}
theorem Stp.refl (m:Mp) (R:Nat→Prop) (h:H) (s:BH):Stp m R h s m R h s:=⟨Nat.le_refl _,fun _ _ _=>rfl,fun _ hb _=>hb,fun _ hb=>hb,fun _ hb _=>.inl hb⟩
theorem Stp.trans (a:Stp m R h s m1 R1 h1 s1) (b:Stp m1 R1 h1 s1 m2 R2 h2 s2):Stp m R h s m2 R2 h2 s2 where
 n:=Nat.le_trans a.n b.n
 keep i hi hb:=(b.keep i (Nat.lt_of_lt_of_le hi a.n) fun hc=>hb (a.old i hc hi)).trans (a.keep i hi hb)
 old i hi hb:=a.old i (b.old i hi (Nat.lt_of_lt_of_le hb a.n)) hb
 rd i hi:=b.rd i (a.rd i hi)
 rd' i hi hb:=(b.rd' i hi (Nat.lt_of_lt_of_le hb a.n)).elim (fun hr=>a.rd' i hr hb) fun hc=>.inr (a.old i hc hb)
theorem SRep.keepR (hs:SRep lo m R h s) (st:Stp m R h s m' R' h' s'):∀b,R b→h'.get b=h.get b:=
 fun b hb=>st.keep b (hs.rd b hb) fun hc=>hs.own b hc hb
theorem JH.lt {e:Ent} {b:Nat} (he:JH lo m R h e (some b)) (hn:e≠.dead):b<h.n:=by
 cases e with
 |dead=>exact absurd rfl hn
 |box cs=>obtain ⟨b',vs,h1,_,h3,_⟩:=he;cases h1;exact H.get_lt h3
 |row sz els=>
  rcases he with ⟨h1,_⟩|⟨b',vs,h1,_,h3,_⟩
  ·cases h1
  ·cases h1;exact H.get_lt h3
theorem SRep.blkLt (hs:SRep lo m R h s) {b:Nat} (hb:Dl m s b):b<h.n:=
 let ⟨i,e,h1,h2,h3⟩:=hb;(hs.ent i e _ h1 h3).lt h2
def Mo (lo:Nat) (m:Mp) (R:Nat→Prop) (h:H) (s:BH) (v:YV) (s':BH) (v':Value) (h':H):Prop:=
 ∃m',SRep lo m' R h' s'∧Af m' R h' v v'∧Stp m R h s m' R h' s'∧Co m m'
def T9 (lo:Nat) (m:Mp) (R:Nat→Prop) (h:H) (s:BH) (v:YV) (s':BH) (v':Value) (h':H) (fz:Bool):Prop:=
 ∃m' R',SRep lo m' R' h' s'∧Af m' R' h' v v'∧Stp m R h s m' R' h' s'∧Co m m'∧(fz=false→R'=R)
theorem Mo.did' {v:YV} {v':Value} (hd:Mo lo m R h s v s' v' h') (fz:Bool):T9 lo m R h s v s' v' h' fz:=let ⟨m',k1,k2,k3,k4⟩:=hd;⟨m',R,k1,k2,k3,k4,fun _=>rfl⟩
theorem Mo.same (hs:SRep lo m R h s) {v:YV} {v':Value} (hv:Af m R h v v'):Mo lo m R h s v s v' h:=⟨m,hs,hv,Stp.refl _ _ _ _,Co.refl _⟩
theorem EF {α:Type} {xs:List α} {x y:α} {i:Nat} (h:(xs++[x])[i]?=some y):(i<xs.length∧xs[i]?=some y)∨(i=xs.length∧y=x):=by
 rw [List.getElem?_append] at h
 split at h
 ·exact .inl ⟨by assumption,h⟩
 ·rename_i hi
  have h1:=Az h
  simp at h1
  have h0:i - xs.length=0:=by omega
  rw [h0] at h
  simp at h
  exact .inr ⟨by omega,h.symm⟩
theorem SRep.push (hs:SRep lo m R h s) {e:Ent} {cells:List Value} (he:JH lo (m++[some h.n]) R (h.push ⟨true,cells⟩) e (some h.n)):
  SRep lo (m++[some h.n]) R (h.push ⟨true,cells⟩) (s++[e])∧Stp m R h s (m++[some h.n]) R (h.push ⟨true,cells⟩) (s++[e]):=by
 have hget:∀b,b<h.n→(h.push ⟨true,cells⟩).get b=h.get b:=fun b hb=>H.get_push_ne _ _ (by omega)
 have hblk:∀b,Dl (m++[some h.n]) (s++[e]) b→Dl m s b∨b=h.n:=by
  rintro b ⟨i,f,h1,h2,h3⟩
  rcases EF h1 with ⟨hi,h1⟩|⟨hi,h1⟩
  ·rw [List.getElem?_append_left (by rw [hs.len];exact hi)] at h3
   exact .inl ⟨i,f,h1,h2,h3⟩
  ·rw [hi,←hs.len] at h3;simp at h3;exact .inr h3.symm
 refine ⟨⟨by simp [hs.len],fun i f mb h1 h2=>?_,fun i j f g b h1 h2 hf hg h3 h4=>?_,fun b hb hr=>?_,fun b hb=>Nat.lt_succ_of_lt (hs.rd b hb),Nat.le_succ_of_le hs.lo⟩,
  ⟨by simp,fun b hb _=>hget b hb,fun b hb hl=>(hblk b hb).elim (fun h=>h) fun he=>by omega,fun b hb=>hb,fun b hb _=>.inl hb⟩⟩
 ·rcases EF h1 with ⟨hi,h1⟩|⟨hi,h1⟩
  ·rw [List.getElem?_append_left (by rw [hs.len];exact hi)] at h2
   have h3:=hs.ent i f mb h1 h2
   by_cases hd:f=.dead
   ·subst hd;trivial
   ·exact h3.mono (Co.push _ _) (fun _ h=>h) (fun b hb=>hget b (hs.rd b hb)) fun b hb=>by subst hb;exact hget b (h3.lt hd)
  ·rw [hi,←hs.len] at h2;simp at h2;subst h1;subst h2;exact he
 ·have key:∀(i:Nat) (f:Ent),(s++[e])[i]?=some f→f≠.dead→(m++[some h.n])[i]?=some (some b)→(i<s.length∧s[i]?=some f∧m[i]?=some (some b)∧b<h.n)∨(i=s.length∧b=h.n):=by
   intro i f h1 hf h3
   rcases EF h1 with ⟨hi,h1⟩|⟨hi,h1⟩
   ·rw [List.getElem?_append_left (by rw [hs.len];exact hi)] at h3
    exact .inl ⟨hi,h1,h3,(hs.ent i f _ h1 h3).lt hf⟩
   ·rw [hi,←hs.len] at h3;simp at h3;exact .inr ⟨hi,h3.symm⟩
  rcases key i f h1 hf h3 with ⟨_,a1,a2,a3⟩|⟨a1,a2⟩<;>rcases key j g h2 hg h4 with ⟨_,b1,b2,b3⟩|⟨b1,b2⟩
  ·exact hs.inj i j f g b a1 b1 hf hg a2 b2
  ·omega
  ·omega
  ·omega
 ·rcases hblk b hb with hb|hb
  ·exact hs.own b hb hr
  ·have:=hs.rd b hr;omega
theorem Mo.push (hs:SRep lo m R h s) {e:Ent} {cells:List Value} {v:YV} {v':Value} (he:JH lo (m++[some h.n]) R (h.push ⟨true,cells⟩) e (some h.n)) (hv:Af (m++[some h.n]) R (h.push ⟨true,cells⟩) v v'):
  Mo lo m R h s v (s++[e]) v' (h.push ⟨true,cells⟩):=⟨_,(hs.push he).1,hv,(hs.push he).2,Co.push _ _⟩
theorem CK {α:Type} {xs:List α} {x y:α} {i j:Nat} (h:(xs.set i x)[j]?=some y):(j=i∧y=x)∨(j≠i∧xs[j]?=some y):=by
 rw [List.getElem?_set] at h
 split at h
 ·rename_i hi
  split at h
  ·cases h;exact .inl ⟨hi.symm,rfl⟩
  ·cases h
 ·rename_i hi;exact .inr ⟨fun hc=>hi hc.symm,h⟩
theorem SRep.set (hs:SRep lo m R h s) {i b:Nat} {e e':Ent} {x:Option Blk} (h1:s[i]?=some e) (hn:e≠.dead) (hm:m[i]?=some (some b)) (he:JH lo m R (h.put b x) e' (some b)):
  SRep lo m R (h.put b x) (s.set i e')∧Stp m R h s m R (h.put b x) (s.set i e'):=by
 have hb:b<h.n:=(hs.ent i e _ h1 hm).lt hn
 have hB:Dl m s b:=⟨i,e,h1,hn,hm⟩
 have hget:∀c,c≠b→(h.put b x).get c=h.get c:=fun c hc=>H.get_put_ne _ hb hc
 have hR:∀c,R c→(h.put b x).get c=h.get c:=fun c hc=>hget c fun he=>by subst he;exact hs.own c hB hc
 have hblk:∀c,Dl m (s.set i e') c→Dl m s c:=by
  rintro c ⟨j,f,g1,g2,g3⟩
  rcases CK g1 with ⟨rfl,rfl⟩|⟨hj,g1⟩
  ·rw [hm] at g3;cases g3;exact hB
  ·exact ⟨j,f,g1,g2,g3⟩
 refine ⟨⟨by simp [hs.len],fun j f mb g1 g2=>?_,fun j k f g c g1 g2 hf hg g3 g4=>?_,fun c hc hr=>hs.own c (hblk c hc) hr,fun c hc=>hs.rd c hc,hs.lo⟩,
  ⟨Nat.le_refl _,fun c hc hnb=>hget c fun he=>by subst he;exact hnb hB,fun c hc _=>hblk c hc,fun _ h=>h,fun _ h _=>.inl h⟩⟩
 ·rcases CK g1 with ⟨rfl,rfl⟩|⟨hj,g1⟩
  ·rw [hm] at g2;cases g2;exact he
  ·have g3:=hs.ent j f mb g1 g2
   by_cases hd:f=.dead
   ·subst hd;trivial
   ·exact g3.mono (Co.refl _) (fun _ h=>h) hR fun c hc=>hget c fun he=>by subst he;subst hc;exact hj (hs.inj j i f e c g1 h1 hd hn g2 hm)
 ·have key:∀(j:Nat) (f:Ent),(s.set i e')[j]?=some f→f≠.dead→∃f',s[j]?=some f'∧f'≠.dead:=by
   intro j f g1 hf
   rcases CK g1 with ⟨rfl,rfl⟩|⟨hj,g1⟩
   ·exact ⟨e,h1,hn⟩
   ·exact ⟨f,g1,hf⟩
  obtain ⟨f',a1,a2⟩:=key j f g1 hf
  obtain ⟨g',b1,b2⟩:=key k g g2 hg
  exact hs.inj j k f' g' c a1 b1 a2 b2 g3 g4
theorem SRep.alias (hs:SRep lo m R h s) {i:Nat} {e e':Ent} {mb:Option Nat} (h1:s[i]?=some e) (hn:e≠.dead) (hm:m[i]?=some mb) (he:JH lo (m++[mb]) R h e' mb):
  SRep lo (m++[mb]) R h (s.set i .dead++[e'])∧Stp m R h s (m++[mb]) R h (s.set i .dead++[e']):=by
 have hi:=Az h1
 have hlen:(s.set i Ent.dead).length=s.length:=by simp
 have key:∀(j:Nat) (f:Ent) (mc:Option Nat),(s.set i Ent.dead++[e'])[j]?=some f→(m++[mb])[j]?=some mc→f≠.dead→(j<s.length∧j≠i∧s[j]?=some f∧m[j]?=some mc)∨(j=s.length∧f=e'∧mc=mb):=by
  intro j f mc g1 g2 hf
  rcases EF g1 with ⟨hj,g1⟩|⟨hj,g1⟩
  ·rw [hlen] at hj
   rw [List.getElem?_append_left (by rw [hs.len];exact hj)] at g2
   rcases CK g1 with ⟨_,rfl⟩|⟨hji,g1⟩
   ·exact absurd rfl hf
   ·exact .inl ⟨hj,hji,g1,g2⟩
  ·rw [hlen] at hj
   rw [hj,←hs.len] at g2;simp at g2
   exact .inr ⟨hj,g1,g2.symm⟩
 have hblk:∀c,Dl (m++[mb]) (s.set i Ent.dead++[e']) c→Dl m s c:=by
  rintro c ⟨j,f,g1,g2,g3⟩
  rcases key j f _ g1 g3 g2 with ⟨_,_,a,b⟩|⟨_,_,a⟩
  ·exact ⟨j,f,a,g2,b⟩
  ·exact ⟨i,e,h1,hn,by rw [hm,a]⟩
 refine ⟨⟨by simp [hs.len],fun j f mc g1 g2=>?_,fun j k f g c g1 g2 hf hg g3 g4=>?_,fun c hc hr=>hs.own c (hblk c hc) hr,hs.rd,hs.lo⟩,
  ⟨Nat.le_refl _,fun _ _ _=>rfl,fun c hc _=>hblk c hc,fun _ h=>h,fun _ h _=>.inl h⟩⟩
 ·by_cases hd:f=.dead
  ·subst hd;trivial
  ·rcases key j f mc g1 g2 hd with ⟨_,_,a,b⟩|⟨_,rfl,rfl⟩
   ·exact (hs.ent j f mc a b).mono (Co.push _ _) (fun _ h=>h) (fun _ _=>rfl) fun _ _=>rfl
   ·exact he
 ·rcases key j f _ g1 g3 hf with ⟨a0,a1,a2,a3⟩|⟨a1,a2,a3⟩<;>rcases key k g _ g2 g4 hg with ⟨b0,b1,b2,b3⟩|⟨b1,b2,b3⟩
  ·exact hs.inj j k f g c a2 b2 hf hg a3 b3
  ·exact absurd (hs.inj j i f e c a2 h1 hf hn a3 (by rw [hm,b3])) a1
  ·exact absurd (hs.inj k i g e c b2 h1 hg hn b3 (by rw [hm,a3])) b1
  ·omega
theorem SRep.freeze (hs:SRep lo m R h s) {i sz:Nat} {els:List (List PC)} (h1:s[i]?=some (.row sz els)):
  SRep lo m (fun b=>R b∨m[i]?=some (some b)) h (s.set i .dead)∧Stp m R h s m (fun b=>R b∨m[i]?=some (some b)) h (s.set i .dead):=by
 have hblk:∀c,Dl m (s.set i Ent.dead) c→Dl m s c∧m[i]?≠some (some c):=by
  rintro c ⟨j,f,g1,g2,g3⟩
  rcases CK g1 with ⟨rfl,rfl⟩|⟨hj,g1⟩
  ·exact absurd rfl g2
  ·exact ⟨⟨j,f,g1,g2,g3⟩,fun hc=>hj (hs.inj j i f _ c g1 h1 g2 (by simp) g3 hc)⟩
 refine ⟨⟨by simp [hs.len],fun j f mb g1 g2=>?_,fun j k f g c g1 g2 hf hg g3 g4=>?_,fun c hc hr=>hr.elim (hs.own c (hblk c hc).1) (hblk c hc).2,fun b hb=>hb.elim (hs.rd b) fun hb=>hs.blkLt ⟨i,_,h1,by simp,hb⟩,hs.lo⟩,
  ⟨Nat.le_refl _,fun _ _ _=>rfl,fun c hc _=>(hblk c hc).1,fun _ h=>.inl h,fun b h _=>h.imp (fun x=>x) fun hb=>⟨i,_,h1,by simp,hb⟩⟩⟩
 ·rcases CK g1 with ⟨rfl,rfl⟩|⟨hj,g1⟩
  ·trivial
  ·exact (hs.ent j f mb g1 g2).mono (Co.refl _) (fun _ h=>.inl h) (fun _ _=>rfl) fun _ _=>rfl
 ·rcases CK g1 with ⟨rfl,rfl⟩|⟨hj,g1⟩
  ·exact absurd rfl hf
  rcases CK g2 with ⟨rfl,rfl⟩|⟨hk,g2⟩
  ·exact absurd rfl hg
  exact hs.inj j k f g c g1 g2 hf hg g3 g4
end
end Go.Vx
