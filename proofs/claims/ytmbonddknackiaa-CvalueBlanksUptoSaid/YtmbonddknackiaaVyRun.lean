/- The rules as equations, for simp: what is yet to be done is kept as code. -/
import Derived.Test.YtmbonddknackiaaVyTrace
set_option linter.unusedVariables false
namespace Go.Vx
def mk {α:Type} (x:α):α:=x
theorem gS {α:Type} (x:α):mk x=x:=rfl
def YQ (l:List Oper):List (Option Nat):=l.map Oper.dst
theorem Sp:YQ []=[]:=rfl
theorem P9 (d:Option Nat) (op:Op) (t:TypeId) (p:String) (a:Array Edge) (g:Option (Nat×Bool)) (l:List Oper):YQ (⟨d,op,t,p,a,g⟩::l)=d::YQ l:=rfl
inductive Fr where
 |seq (b:Code)
 |blk (id:Nat)
abbrev FI:=X→List YV→BH→Prop
noncomputable def kf (C:Cx) (pin:Nat):List Fr→FI→X→List YV→BH→Prop
 |[],Q,x,e,s=>Q x e s
 |.seq b::fs,Q,x,e,s=>Gu (fun e s=>YW C pin b e s (kf C pin fs Q)) (kf C pin fs Q) x e s
 |.blk id::fs,Q,x,e,s=>f5 id (kf C pin fs Q) x e s
noncomputable def Rw (C:Cx) (pin:Nat) (c:Code) (fs:List Fr) (Q:FI) (e:List YV) (s:BH):Prop:=YW C pin c e s (kf C pin fs Q)
noncomputable def Rc (C:Cx) (pin:Nat) (a b:Code) (fs:List Fr) (Q:FI) (e:List YV) (s:BH) (v:YV):Prop:=MO (Rw C pin a fs Q e s) (Rw C pin b fs Q e s) v
noncomputable def Rg (C:Cx) (pin:Nat) (draw:Bool) (gs:List (Option Nat)) (os:List Oper) (fs:List Fr) (Q:FI) (e:List YV) (s:BH):Prop:=YG C draw gs os e s (kf C pin fs Q .normal)
noncomputable def Ro (C:Cx) (pin:Nat) (draw:Bool) (gs:List (Option Nat)) (d:Option Nat) (os:List Oper) (fs:List Fr) (Q:FI) (e:List YV) (r:Option (YOut×BH)):Prop:=cA C draw (fun v s=>Rg C pin draw gs os fs Q (yput e d v) s) r
noncomputable def Ri (C:Cx) (pin:Nat) (draw:Bool) (gs:List (Option Nat)) (d:Option Nat) (op:Op) (os:List Oper) (fs:List Fr) (Q:FI) (e:List YV) (s:BH) (g:Option Bool):Prop:=
 i7 (Ro C pin draw gs d os fs Q e (Em C.P C.eqs (yv e) op s)) (Rg C pin draw gs os fs Q (yput e d (.tup [])) s) g
noncomputable def Av (C:Cx) (pin:Nat) (draw:Bool) (gs:List (Option Nat)) (d:Option Nat) (os:List Oper) (fs:List Fr) (Q:FI) (e:List YV) (f:FuncId) (args:List YV) (s:BH):Prop:=YC C draw f args s fun v s=>Rg C pin draw gs os fs Q (yput e d v) s
noncomputable def Rl (C:Cx) (pin:Nat) (c:Code) (fs:List Fr) (Q:FI) (e:List YV) (s:BH):Prop:=YL C pin c e s (kf C pin fs Q)
noncomputable def Rd (C:Cx) (pin:Nat) (id:Nat) (ops:Array Oper) (fs:List Fr) (Q:FI) (e:List YV) (s:BH):Prop:=YD C pin id ops e s (kf C pin fs Q)
noncomputable def Rt (C:Cx) (pin:Nat) (gs:List (Option Nat)) (os:List Oper) (rs ts:List Nat) (fs:List Fr) (Q:FI) (e:List YV) (s:BH):Prop:=YT C gs os rs ts e s (kf C pin fs Q .normal)
noncomputable def Ds (C:Cx) (pin:Nat) (gs:List (Option Nat)) (d:Option Nat) (os:List Oper) (rs ts:List Nat) (fs:List Fr) (Q:FI) (e:List YV) (r:Option (YOut×BH)):Prop:=cA C true (fun v s=>Rt C pin gs os rs ts fs Q (yput e d v) s) r
noncomputable def Dt (C:Cx) (pin:Nat) (gs:List (Option Nat)) (d:Option Nat) (op:Op) (os:List Oper) (fs:List Fr) (Q:FI) (e:List YV) (s:BH) (k:Option (List Nat×List Nat)):Prop:=
 n7 (fun rs ts=>Ds C pin gs d os rs ts fs Q e (Em C.P C.eqs (yv e) op s)) k
noncomputable def Dw (C:Cx) (pin:Nat) (gs:List (Option Nat)) (d:Option Nat) (os:List Oper) (rs ts:List Nat) (fs:List Fr) (Q:FI) (e:List YV) (s:BH) (k:Bool):Prop:=qB (Rt C pin gs os rs ts fs Q (yput e d (.tup [])) s) k
noncomputable def Dx (C:Cx) (pin:Nat) (gs:List (Option Nat)) (d:Option Nat) (op:Op) (os:List Oper) (rs ts:List Nat) (fs:List Fr) (Q:FI) (e:List YV) (s:BH) (g:Option Bool):Prop:=
 i7 (Dt C pin gs d op os fs Q e s (KQ s rs ts (yv e) op)) (Dw C pin gs d os rs ts fs Q e s (Ir (yv e) op)) g
noncomputable def An (C:Cx) (pin:Nat) (gs:List (Option Nat)) (d:Option Nat) (os:List Oper) (rs ts:List Nat) (fs:List Fr) (Q:FI) (e:List YV) (f:FuncId) (args:List YV) (s:BH):Prop:=YC C true f args s fun v s=>Rt C pin gs os rs ts fs Q (yput e d v) s
section
variable {C:Cx} {pin:Nat} {s s':BH} {e e':List YV} {fs:List Fr} {Q:FI} {draw:Bool} {gs gs':List (Option Nat)} {os rest:List Oper} {rs ts rs' ts':List Nat}
theorem Wl:Rw C pin .skip fs Q e s=kf C pin fs Q .normal e s:=rfl
theorem Y2:Rw C pin .ret fs Q e s=kf C pin fs Q .ret e s:=rfl
theorem WP {id:Nat}:Rw C pin (.exit id) fs Q e s=kf C pin fs Q (.exit id) e s:=rfl
theorem ZV {a b:Code}:Rw C pin (.seq a b) fs Q e s=Rw C pin a (.seq b::fs) Q e s:=rfl
theorem TO {id:Nat} {c:Code}:Rw C pin (.block id c) fs Q e s=Rw C pin c (.blk id::fs) Q e s:=rfl
theorem Vn {t:Operand} {a b:Code}:Rw C pin (.cond t a b) fs Q e s=Rc C pin a b fs Q e s (yv e t):=rfl
theorem Pi {id:Nat} {l:List Oper}:Rw C pin (.region id l.toArray false) fs Q e s=Rg C pin false (YQ l) l fs Q (mk e) s:=rfl
theorem Rz {id:Nat} {ops:Array Oper}:Rw C pin (.region id ops true) fs Q e s=Rd C pin id ops fs Q e s:=rfl
theorem Vg {c:Code}:Rw C pin (.loop c) fs Q e s=Rl C pin c fs Q e s:=rfl
theorem Mz {a b:Code}:Rc C pin a b fs Q e s (.c (.p (.d (.bool true))))=Rw C pin a fs Q e s:=rfl
theorem Ki {a b:Code}:Rc C pin a b fs Q e s (.c (.p (.d (.bool false))))=Rw C pin b fs Q e s:=rfl
theorem aY {x:X}:kf C pin [] Q x e s=Q x e s:=rfl
theorem YZ {b:Code}:kf C pin (.seq b::fs) Q .normal e s=Rw C pin b fs Q e s:=rfl
theorem MZ {b:Code} {i:Nat}:kf C pin (.seq b::fs) Q (.exit i) e s=kf C pin fs Q (.exit i) e s:=rfl
theorem NV {b:Code}:kf C pin (.seq b::fs) Q .ret e s=kf C pin fs Q .ret e s:=rfl
theorem Ys {id:Nat}:kf C pin (.blk id::fs) Q .normal e s=kf C pin fs Q .normal e s:=rfl
theorem Od {id:Nat}:kf C pin (.blk id::fs) Q .ret e s=kf C pin fs Q .ret e s:=rfl
theorem JJ {id i:Nat}:kf C pin (.blk id::fs) Q (.exit i) e s=if i=id then kf C pin fs Q .normal e s else kf C pin fs Q (.exit i) e s:=rfl
theorem Mn {id:Nat}:kf C pin (.blk id::fs) Q (.exit id) e s=kf C pin fs Q .normal e s:=by rw [JJ,if_pos rfl]
theorem Y9:Rg C pin draw gs [] fs Q e s=kf C pin fs Q .normal e s:=rfl
theorem Vu {d:Option Nat} {op:Op} {t:TypeId} {p:String} {a:Array Edge}:Rg C pin draw gs (⟨d,op,t,p,a,none⟩::rest) fs Q e s=Ro C pin draw gs d rest fs Q e (Em C.P C.eqs (yv e) op s):=rfl
theorem WF {d:Option Nat} {op:Op} {t:TypeId} {p:String} {a:Array Edge} {j:Nat} {w:Bool}:Rg C pin draw gs (⟨d,op,t,p,a,some (j,w)⟩::rest) fs Q e s=Ri C pin draw gs d op rest fs Q e s (HE gs e j w):=rfl
theorem Wi {d:Option Nat} {op:Op}:Ri C pin draw gs d op rest fs Q e s (some true)=Ro C pin draw gs d rest fs Q e (Em C.P C.eqs (yv e) op s):=rfl
theorem St {d:Option Nat} {op:Op}:Ri C pin draw gs d op rest fs Q e s (some false)=Rg C pin draw gs rest fs Q (yput e d (.tup [])) s:=rfl
theorem Xz {d:Option Nat} {v:YV}:Ro C pin draw gs d rest fs Q e (some (.val v,s))=Rg C pin draw gs rest fs Q (yput e d v) s:=rfl
theorem We {d:Option Nat} {f:FuncId} {args:List YV}:Ro C pin draw gs d rest fs Q e (some (.call f args,s))=Av C pin draw gs d rest fs Q e f args s:=rfl
theorem Yj:Rt C pin gs [] rs ts fs Q e s=kf C pin fs Q .normal e s:=rfl
theorem WQ {d:Option Nat} {op:Op} {t:TypeId} {p:String} {a:Array Edge}:Rt C pin gs (⟨d,op,t,p,a,none⟩::rest) rs ts fs Q e s=Dt C pin gs d op rest fs Q e s (KQ s rs ts (yv e) op):=rfl
theorem WR {d:Option Nat} {op:Op} {t:TypeId} {p:String} {a:Array Edge} {j:Nat} {w:Bool}:Rt C pin gs (⟨d,op,t,p,a,some (j,w)⟩::rest) rs ts fs Q e s=Dx C pin gs d op rest rs ts fs Q e s (HE gs e j w):=rfl
theorem S8 {d:Option Nat} {op:Op}:Dx C pin gs d op rest rs ts fs Q e s (some true)=Dt C pin gs d op rest fs Q e s (KQ s rs ts (yv e) op):=rfl
theorem Pt {d:Option Nat} {op:Op}:Dx C pin gs d op rest rs ts fs Q e s (some false)=Dw C pin gs d rest rs ts fs Q e s (Ir (yv e) op):=rfl
theorem Sm {d:Option Nat}:Dw C pin gs d rest rs ts fs Q e s true=Rt C pin gs rest rs ts fs Q (yput e d (.tup [])) s:=rfl
theorem Tl {d:Option Nat} {op:Op}:Dt C pin gs d op rest fs Q e s (some (rs,ts))=Ds C pin gs d rest rs ts fs Q e (Em C.P C.eqs (yv e) op s):=rfl
theorem VV {d:Option Nat} {v:YV}:Ds C pin gs d rest rs ts fs Q e (some (.val v,s))=Rt C pin gs rest rs ts fs Q (yput e d v) s:=rfl
theorem RV {d:Option Nat} {f:FuncId} {args:List YV}:Ds C pin gs d rest rs ts fs Q e (some (.call f args,s))=An C pin gs d rest rs ts fs Q e f args s:=rfl
theorem Nt {I:Nat→List YV→BH→Prop} {bs:List Bool} {d:Nat}:Gu (WD I bs pin d) Q .normal e s=WD I bs pin d e s:=rfl
theorem PJ {k:List YV→BH→Prop}:Gu k Q .ret e s=Q .ret e s:=rfl
theorem Nw {k:List YV→BH→Prop} {i:Nat}:Gu k Q (.exit i) e s=Q (.exit i) e s:=rfl
theorem PO (d:Nat) (v:YV):yput e (some d) v=e.set d v:=rfl
theorem Pv (v:YV):yput e none v=e:=rfl
theorem Z8 (t:Nat):yv e (.tmp t)=Gi e (.c .top) t:=rfl
theorem RU (v:Value):yv e (.const v)=Fy v:=rfl
theorem Vb (f:FuncId):yv e (.func f)=.c (.p (.d (.func (.func f) #[] #[]))):=rfl
theorem Vm (k:IntKind) (n:Int):Fy (.int k n)=.c (.p (.d (.int k n))):=rfl
theorem SZ (b:Bool):Fy (.bool b)=.c (.p (.d (.bool b))):=rfl
theorem WK (b:ByteArray):Fy (.string b)=.c (.p (.d (.string b))):=rfl
theorem WN:Fy (.slice none 0 0)=.c (.p (.d (.slice none 0 0))):=rfl
theorem Y0:Fy (.pointer none)=.c (.p (.d (.pointer none))):=rfl
theorem TI (k:IntKind) (n:Int):OP (.int k n)=some (.c (.p (.d (.int k n)))):=rfl
theorem PR (b:Bool):OP (.bool b)=some (.c (.p (.d (.bool b)))):=rfl
theorem Sy (b:ByteArray):OP (.string b)=some (.c (.p (.d (.string b)))):=rfl
theorem R8:OP (.slice none 0 0)=some (.c (.p (.d (.slice none 0 0)))):=rfl
theorem PU (v:YV):Jn s (some v)=some (.val v,s):=rfl
theorem V9 (x:Ent) (v:YV):Q7 s x v=some (.val v,s++[x]):=rfl
theorem TD (w:Bool) (d:Nat):pI e w (some (some d))=lA w (By e d):=rfl
theorem R7 (w b:Bool):lA w (some (.c (.p (.d (.bool b)))))=some (b==w):=rfl
theorem Tg (w:Bool):lA w (some (.tup []))=some false:=rfl
theorem N9 (a b:YV):Sz (.c (.p (.d (.bool true)))) a b=some a:=rfl
theorem MU (a b:YV):Sz (.c (.p (.d (.bool false)))) a b=some b:=rfl
theorem fX (P:Program) {k:Nat} {Q:List YV→Prop}:(∃vs,DQ P e s [.tmp k]=some vs∧Q vs)=∃v,dC (Gi e (.c .top) k)=some v∧Q [v]:=by
 simp only [DQ,Je]
 cases dC (Gi e (.c .top) k) with
 |none=>simp
 |some v=>simp
theorem Rm (v:YV):Sw [v]=v:=rfl
theorem R6 (v w:YV):Sw [v,w]=.tup [v,w]:=rfl
theorem gH (c:PC):dC (.c (.p c))=some (.c (.p c)):=rfl
theorem WJ (i z o l:Nat):dC (.c (.own i z o l))=some (.c (.own i z o l)):=rfl
theorem WM (cs:List Ce):dC (.agg cs)=some (.agg cs):=rfl
theorem AB {d:Option Nat} {f:FuncId} {args:List YV} {Q':YV→Prop} (hc:AS C f args Q') (hp:args.all Ow=true) (hk:∀y,Q' y→Rg C pin draw gs rest fs Q (yput e d y) s):Av C pin draw gs d rest fs Q e f args s:=WA hc hp hk
theorem Ah {c:Code} (I:Nat→List YV→BH→Prop) (bs:List Bool) (d:Nat) (ks:List Nat) (hn:ks.Nodup) (hp:H9 pin ks) (h0:I d (Jq ks s bs e) (KO ks s))
  (round:∀d e s,I d e s→Rw C pin c [] (Gu (WD I bs pin d) (kf C pin fs Q)) e s):Rl C pin c fs Q e s:=kC I bs d ks hn hp h0 round
theorem Cb {c:Code} (t sz:Nat) (h0:sz≠0) (ht:e[t]?=some (.c (.p (.d (.slice none 0 0))))) (hy:Rl C pin c fs Q (e.set t (.c (.own s.length sz 0 0))) (s++[.row sz []])):Rl C pin c fs Q e s:=JI.nil t sz h0 ht hy
theorem A8 {id:Nat} {l:List Oper} (hc:Oy C.P l=true) (hy:Rg C pin true (YQ l) l fs Q (mk e) s):Rd C pin id l.toArray fs Q e s:=fS hc hy
theorem Pf {f:FuncId} {args:List YV} {fn:Func} {c:Code} {Q:YV→Prop} (ht:C.told f=none) (hf:Nat.ble (f+1) C.top=true) (hfn:By C.P.funcs.toList f=some fn) (hb:fn.body=some c)
  (hy:Rw C 0 c [] (fun x e s=>(x=.normal∨x=.ret)∧∃vs,DQ C.P e s fn.results.toList=some vs∧Q (IP [] s (Sw vs))) (args++List.replicate (fn.ntmps - args.length) (.c .top)) []):AS C f args Q:=bO ht hf hfn hb hy
theorem Ch {α β:Type} (f:α→β) (l:List α):(l.map f).take l.length=l.map f:=by rw [←List.length_map (f:=f),List.take_length]
theorem H4 (i:Nat):Ex [] i=none:=rfl
theorem Gy (k i:Nat) (ks:List Nat):Ex (k::ks) i=if k=i then some 0 else (match Ex ks i with|some j=>some (j+1)|none=>none):=by
 show (match Nat.beq k i with|true=>some 0|false=>_)=_
 by_cases h:k=i
 ·subst h;rw [Nat.beq_refl];simp
 ·rw [if_neg h]
  have:Nat.beq k i=false:=by
   cases hb:Nat.beq k i with
   |false=>rfl
   |true=>exact absurd (Nat.eq_of_beq_eq_true hb) h
  rw [this];rfl
theorem Xd {α:Type} (l:List α) (x:α) (n:Nat) (h:l.length=n):(l++[x]).take (n+1)=l++[x]:=List.take_of_length_le (by simp [h])
theorem FT {α β:Type} (f:α→β) (l:List α) (x:β):(l.map f++[x]).take (l.length+1)=l.map f++[x]:=Xd _ _ _ (by simp)
theorem Kv {α:Type} (l:List α) (x:α):(l++[x]).length=l.length+1:=by simp
theorem nn (n:Nat):(0≤((n:Nat):Int))=True:=by simp
end
end Go.Vx
