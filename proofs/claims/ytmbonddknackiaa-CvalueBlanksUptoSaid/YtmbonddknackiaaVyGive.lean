/- A call that a row of the run's own is given over to, for good: from then on it is only read. And told functions without arguments. -/
import Derived.Test.YtmbonddknackiaaVyOwn
set_option linter.unusedVariables false
namespace Go.Vx
section
variable {C:Cx} {lo:Nat} {m m':Mp} {R R':Nat→Prop} {h h':H} {s s':BH}
theorem dQ {f:FuncId} {c c':Ce} {s1:BH} {K:YV→BH→Prop} {Q:YV→Prop} (hy:IT s c=some (c',s1)) (hc:AS C f [.c c'] Q) (hp:Ow (.c c')=true) (hk:∀y,Q y→K y s1):YC C false f [.c c] s K:=by
 intro lo m R h vals hs ha
 obtain ⟨v,rfl⟩:∃v,vals=[v]:=by
  have:=ha.1
  match vals,this with
  |[v],_=>exact ⟨v,rfl⟩
 obtain ⟨R1,hz,hv,_⟩:=KC hs (ha.2 0 _ _ rfl rfl) hy
 refine (WA (draw:=false) hc (by simp [hp]) hk lo m R1 h [v] hz.1 (L2.nil.cons hv)).mono ?_
 rintro v h' ⟨m',R',s',y,k1,k2,k3,k4,k5,_⟩
 exact ⟨m',R',s',y,k1,k2,k3,hz.2.trans k4,k5,fun h=>by simp at h⟩
theorem RY {f:FuncId} {b:Value} (ht:C.told f=some (LO b)) (hb:dry b=true):AS C f [] fun y=>y=.c (.p (.d b)):=by
 intro lo R h vals hl hR ha
 obtain rfl:vals=[]:=by
  have:=ha.1
  match vals,this with
  |[],_=>rfl
 exact Hu ht rfl ⟨R,_,rfl,PRep.d hb,Nat.le_refl _,fun _ _=>rfl,fun b hb=>⟨hR b hb,fun _=>hb⟩⟩
end
section
variable {C:Cx} {pin:Nat} {e:List YV} {fs:List Fr} {Q:FI} {gs:List (Option Nat)} {rest:List Oper} {d:Option Nat}
theorem DC {f:FuncId} {c c':Ce} {s s1:BH} {Q':YV→Prop} (hy:IT s c=some (c',s1)) (hc:AS C f [.c c'] Q') (hp:Ow (.c c')=true) (hk:∀y,Q' y→Rg C pin false gs rest fs Q (yput e d y) s1):Av C pin false gs d rest fs Q e f [.c c] s:=dQ hy hc hp hk
end
end Go.Vx
