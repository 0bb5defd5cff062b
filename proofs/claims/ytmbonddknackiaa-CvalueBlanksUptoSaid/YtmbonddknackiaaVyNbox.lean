/- A nil slice in a box reads as an empty row of the run's own. -/
import Derived.Test.YtmbonddknackiaaVyOwn
import Derived.Test.YtmbonddknackiaaVyCut
set_option linter.unusedVariables false
namespace Go.Vx
section
variable {C:Cx} {lo:Nat} {m m':Mp} {R R':Nat→Prop} {h h':H} {s s':BH}
theorem SRep.retype {k:Nat} {e e':Ent} (hs:SRep lo m R h s) (hk:s[k]?=some e) (he:e≠.dead) (he':e'≠.dead) (hE:∀mb,m[k]?=some mb→JH lo m R h e mb→JH lo m R h e' mb):
  SRep lo m R h (s.set k e')∧Stp m R h s m R h (s.set k e'):=by
 have back:∀(i:Nat) (f:Ent),(s.set k e')[i]?=some f→f≠.dead→∃g,s[i]?=some g∧g≠.dead:=fun i f g1 g2=>by
  rcases CK g1 with ⟨rfl,rfl⟩|⟨_,g1⟩
  ·exact ⟨e,hk,he⟩
  ·exact ⟨f,g1,g2⟩
 have hblk:∀c,Dl m (s.set k e') c→Dl m s c:=fun c ⟨i,f,g1,g2,g3⟩=>by
  obtain ⟨g,g4,g5⟩:=back i f g1 g2
  exact ⟨i,g,g4,g5,g3⟩
 refine ⟨⟨by simp [hs.len],fun i f mb g1 g2=>?_,fun i j f g c g1 g2 hf hg g3 g4=>?_,fun c hc hr=>hs.own c (hblk c hc) hr,hs.rd,hs.lo⟩,⟨Nat.le_refl _,fun _ _ _=>rfl,fun c hc _=>hblk c hc,fun _ h=>h,fun _ h _=>.inl h⟩⟩
 ·rcases CK g1 with ⟨rfl,rfl⟩|⟨_,g1⟩
  ·exact hE mb g2 (hs.ent _ _ _ hk g2)
  ·exact hs.ent i f mb g1 g2
 ·obtain ⟨f',a1,a2⟩:=back i f g1 hf
  obtain ⟨g',b1,b2⟩:=back j g g2 hg
  exact hs.inj i j f' g' c a1 b1 a2 b2 g3 g4
variable {pin:Nat} {e:List YV} {fs:List Fr} {Q:FI}
theorem Wz {c:Code} (k j sz:Nat) (h0:sz≠0) {cs:List Ce} (hk:s[k]?=some (.box cs)) (hj:cs[j]?=some (.p (.d (.slice none 0 0)))) (hy:Rl C pin c fs Q e (s.set k (.box (cs.set j (.own s.length sz 0 0)))++[.row sz []])):Rl C pin c fs Q e s:=
 fun lo m R h env hs he=>by
  obtain ⟨g1,g2⟩:=hs.push0 sz
  have hkl:=Az hk
  have hk':(s++[Ent.row sz []])[k]?=some (.box cs):=by rw [List.getElem?_append_left hkl];exact hk
  obtain ⟨g3,g4⟩:=g1.retype (e':=.box (cs.set j (.own s.length sz 0 0))) hk' (by simp) (by simp) fun mb hm hE=>by
   obtain ⟨b,vs,e1,e2,e3,e4⟩:=hE
   refine ⟨b,vs,e1,e2,e3,?_⟩
   obtain ⟨v,hv,hr⟩:=e4.get hj
   have h2:=e4.set (a:=.own s.length sz 0 0) (b:=v) (by
    generalize hu:Value.slice none 0 0=u at hr
    cases hr;subst hu
    exact ⟨h0,.inl ⟨rfl,rfl,rfl⟩⟩) j
   rw [TQ hv] at h2
   exact h2
  rw [List.set_append_left _ _ hkl] at g3 g4
  have he1:L2 (Af (m++[none]) R h) e env:=he.vmono (Co.push _ _) (fun _ h=>h) fun _ _=>rfl
  refine (hy lo _ _ h env g3 he1).mono ?_
  rintro x env1 h1 ⟨m1,R1,e1,s1,q,hs1,he1,st,hpp⟩
  exact ⟨m1,R1,e1,s1,q,hs1,he1,(g2.trans g4).trans st,fun i b hi hb=>hpp i b hi (Co.push _ _ i b hb)⟩
theorem QI {gs:List (Option Nat)} {rest:List Oper} {d:Option Nat} {f:FuncId} {args:List YV} {s s':BH} (h:YC C false f args s fun y s1=>s1=s')
  (hK:∀y,Rg C pin false gs rest fs Q (yput e d y) s'):Av C pin false gs d rest fs Q e f args s:=YC.mono h fun y s1 hs=>by subst hs;exact hK y
end
end Go.Vx
