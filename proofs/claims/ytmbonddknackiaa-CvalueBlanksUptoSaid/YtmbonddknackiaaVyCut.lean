/- Where ways come together again: a condition's branches are run up to what is wanted behind them. -/
import Derived.Test.YtmbonddknackiaaVyRun
set_option linter.unusedVariables false
namespace Go.Vx
section
variable {C:Cx} {pin:Nat}
theorem YC.mono {draw:Bool} {f:FuncId} {args:List YV} {s:BH} {K K':YV→BH→Prop} (hc:YC C draw f args s K) (hk:∀v s,K v s→K' v s):YC C draw f args s K':=
 fun lo m R h vals hs ha=>(hc lo m R h vals hs ha).mono fun v h' ⟨m',R',s',y,k1,k2⟩=>⟨m',R',s',y,hk _ _ k1,k2⟩
theorem NR {draw:Bool} {K K':YV→BH→Prop} (hk:∀v s,K v s→K' v s):∀{r:Option (YOut×BH)},cA C draw K r→cA C draw K' r
 |some (.val v,s),h=>hk v s h
 |some (.call f args,s),h=>YC.mono h hk
 |none,h=>h.elim
theorem S5 {A A' B B':Prop} (h1:A→A') (h2:B→B'):∀{g:Option Bool},i7 A B g→i7 A' B' g
 |some true,h=>h1 h
 |some false,h=>h2 h
 |none,h=>h.elim
theorem Lc {draw:Bool} {gs:List (Option Nat)} {Q Q':List YV→BH→Prop} (hq:∀e s,Q e s→Q' e s):∀{os:List Oper} {e:List YV} {s:BH},YG C draw gs os e s Q→YG C draw gs os e s Q'
 |[],e,s,h=>hq e s h
 |⟨d,op,_,_,_,none⟩::rest,e,s,h=>NR (fun v s h=>Lc hq h) h
 |⟨d,op,_,_,_,some (j,w)⟩::rest,e,s,h=>S5 (fun h=>NR (fun v s h=>Lc hq h) h) (fun h=>Lc hq h) h
theorem Hw:∀{c:Code} {e:List YV} {s:BH} {Q Q':X→List YV→BH→Prop},(∀x e s,Q x e s→Q' x e s)→YW C pin c e s Q→YW C pin c e s Q'
 |.skip,e,s,Q,Q',hq,h=>hq _ _ _ h
 |.ret,e,s,Q,Q',hq,h=>hq _ _ _ h
 |.exit id,e,s,Q,Q',hq,h=>hq _ _ _ h
 |.seq a b,e,s,Q,Q',hq,h=>Hw (c:=a) (fun x e s h=>by
   cases x with
   |normal=>exact Hw (c:=b) hq h
   |ret=>exact hq _ _ _ h
   |exit i=>exact hq _ _ _ h) h
 |.cond t a b,e,s,Q,Q',hq,h=>by
  have h':MO (YW C pin a e s Q) (YW C pin b e s Q) (yv e t):=h
  show MO (YW C pin a e s Q') (YW C pin b e s Q') (yv e t)
  generalize yv e t=u at h' ⊢
  unfold MO at h' ⊢
  split at h'
  ·exact Hw (c:=a) hq h'
  ·exact Hw (c:=b) hq h'
  ·exact h'.elim
 |.block id c,e,s,Q,Q',hq,h=>Hw (c:=c) (fun x e s h=>by
   cases x with
   |normal=>exact hq _ _ _ h
   |ret=>exact hq _ _ _ h
   |exit i=>
    have h':if i=id then Q .normal e s else Q (.exit i) e s:=h
    show if i=id then Q' .normal e s else Q' (.exit i) e s
    split at h'
    ·rename_i hi;rw [if_pos hi];exact hq _ _ _ h'
    ·rename_i hi;rw [if_neg hi];exact hq _ _ _ h') h
 |.region id ops false,e,s,Q,Q',hq,h=>Lc (Q:=Q .normal) (Q':=Q' .normal) (fun e s h=>hq _ _ _ h) h
 |.region id ops true,e,s,Q,Q',hq,h=>JI.mono h hq
 |.loop c,e,s,Q,Q',hq,h=>JI.mono h hq
theorem Ae {k:List YV→BH→Prop} {Q:FI} {e:List YV} {s:BH}:Gu k Q .normal e s=k e s:=rfl
theorem aJ {a b:Code} {fs:List Fr} {Q:FI} {e:List YV} {s:BH} {v:YV} (P:List YV→BH→Prop) (h1:Rc C pin a b [] (Gu P (kf C pin fs Q)) e s v) (h2:∀e s,P e s→kf C pin fs Q .normal e s):Rc C pin a b fs Q e s v:=by
 have hm:∀{c:Code},Rw C pin c [] (Gu P (kf C pin fs Q)) e s→Rw C pin c fs Q e s:=fun {c} h=>Hw (fun x e s h=>by
  cases x with
  |normal=>exact h2 _ _ h
  |ret=>exact h
  |exit i=>exact h) h
 unfold Rc MO at*
 split at h1
 ·exact hm h1
 ·exact hm h1
 ·exact h1.elim
theorem Vt {c:Code} {fs:List Fr} {Q:FI} (P:List YV→BH→Prop) (h2:∀e s,P e s→kf C pin fs Q .normal e s):∀(x:X) (e:List YV) (s:BH),kf C pin [.seq c] (Gu P (kf C pin fs Q)) x e s→kf C pin (.seq c::fs) Q x e s
 |.normal,e,s,h=>Hw (fun x e s h=>by
   cases x with
   |normal=>exact h2 _ _ h
   |ret=>exact h
   |exit i=>exact h) h
 |.ret,e,s,h=>h
 |.exit i,e,s,h=>h
variable {draw:Bool} {gs:List (Option Nat)} {d:Option Nat} {os:List Oper} {fs fs':List Fr} {Q Q':FI} {e:List YV} {s:BH}
theorem NL (hk:∀x e s,kf C pin fs Q x e s→kf C pin fs' Q' x e s) (h:Rg C pin draw gs os fs Q e s):Rg C pin draw gs os fs' Q' e s:=Lc (hk _) h
theorem aR (hk:∀x e s,kf C pin fs Q x e s→kf C pin fs' Q' x e s) {r:Option (YOut×BH)} (h:Ro C pin draw gs d os fs Q e r):Ro C pin draw gs d os fs' Q' e r:=NR (fun v s h=>NL hk h) h
theorem Rv (hk:∀x e s,kf C pin fs Q x e s→kf C pin fs' Q' x e s) {op:Op} {g:Option Bool} (h:Ri C pin draw gs d op os fs Q e s g):Ri C pin draw gs d op os fs' Q' e s g:=S5 (fun h=>aR hk h) (fun h=>NL hk h) h
theorem Si (hk:∀x e s,kf C pin fs Q x e s→kf C pin fs' Q' x e s) {f:FuncId} {args:List YV} (h:Av C pin draw gs d os fs Q e f args s):Av C pin draw gs d os fs' Q' e f args s:=YC.mono h fun v s h=>NL hk h
theorem HH {c:Code} (P:List YV→BH→Prop) {op:Op} {g:Option Bool} (h1:Ri C pin draw gs d op os [.seq c] (Gu P (kf C pin fs Q)) e s g) (h2:∀e s,P e s→kf C pin fs Q .normal e s):Ri C pin draw gs d op os (.seq c::fs) Q e s g:=Rv (Vt P h2) h1
theorem HO {c:Code} (P:List YV→BH→Prop) {f:FuncId} {args:List YV} (h1:Av C pin draw gs d os [.seq c] (Gu P (kf C pin fs Q)) e f args s) (h2:∀e s,P e s→kf C pin fs Q .normal e s):Av C pin draw gs d os (.seq c::fs) Q e f args s:=Si (Vt P h2) h1
theorem BB {e:List YV} {F:(Nat→YV)→List YV} (h:e=F (fun k=>Gi e (.c .top) k)):∃g,e=F g:=⟨_,h⟩
end
end Go.Vx
