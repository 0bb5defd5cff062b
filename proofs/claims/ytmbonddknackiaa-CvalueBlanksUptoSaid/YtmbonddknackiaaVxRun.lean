/- The rules as equations, for simp. -/
import Derived.Test.YtmbonddknackiaaVxTold
namespace Go.Vx
section
variable {C:Cx} {lo:Nat} {e:BF} {h:H}
theorem U1 {n m:Nat} {c:Code} {x y:X×BF×H} (h1:ex C n lo c e h=some x) (h2:ex C m lo c e h=some y):x=y:=by
 have a:=J2 (Nat.le_max_left n m) _ _ _ _ _ h1
 have b:=J2 (Nat.le_max_right n m) _ _ _ _ _ h2
 rw [a] at b;exact Option.some.inj b
theorem U2 {Q:X→BF→H→Prop}:W C lo .skip e h Q=Q .normal e h:=by
 apply propext
 refine ⟨fun ⟨n,x,e',h',h1,h2⟩=>?_,jK⟩
 have:=U1 h1 (show ex C 1 lo .skip e h=some (.normal,e,h) from rfl)
 cases this;exact h2
theorem Xl {Q:X→BF→H→Prop}:W C lo .ret e h Q=Q .ret e h:=by
 apply propext
 refine ⟨fun ⟨n,x,e',h',h1,h2⟩=>?_,lP⟩
 have:=U1 h1 (show ex C 1 lo .ret e h=some (.ret,e,h) from rfl)
 cases this;exact h2
theorem Ur {Q:X→BF→H→Prop} {id:Nat}:W C lo (.exit id) e h Q=Q (.exit id) e h:=by
 apply propext
 refine ⟨fun ⟨n,x,e',h',h1,h2⟩=>?_,jJ⟩
 have:=U1 h1 (show ex C 1 lo (.exit id) e h=some (.exit id,e,h) from rfl)
 cases this;exact h2
theorem W9 {a b:Code} {Q:X→BF→H→Prop}:W C lo (.seq a b) e h Q=W C lo a e h (eU (fun e h=>W C lo b e h Q) Q):=by
 apply propext
 refine ⟨fun ⟨n,x,e',h',h1,h2⟩=>?_,mU⟩
 cases n with
 |zero=>rw [F7] at h1;cases h1
 |succ n=>
  rw [Cg] at h1
  have h1:Gn (ex C n lo a e h) (fun e' h'=>ex C n lo b e' h')=some (x,e',h'):=h1
  unfold Gn at h1
  split at h1
  ·rename_i e1 g1 hr;exact ⟨n,_,e1,g1,hr,n,x,e',h',h1,h2⟩
  ·rename_i hne
   refine ⟨n,x,e',h',h1,?_⟩
   cases x with
   |normal=>exact absurd h1 (hne e' h')
   |_=>exact h2
theorem Ty {t:Operand} {a b:Code} {Q:X→BF→H→Prop}:W C lo (.cond t a b) e h Q=∃v,ev e t=.bool v∧if v=true then W C lo a e h Q else W C lo b e h Q:=by
 apply propext
 constructor
 ·rintro ⟨n,x,e',h',h1,h2⟩
  cases n with
  |zero=>rw [F7] at h1;cases h1
  |succ n=>
   rw [Cg] at h1
   have h1:I2 (ev e t) (ex C n lo a e h) (ex C n lo b e h)=some (x,e',h'):=h1
   unfold I2 at h1
   split at h1
   ·rename_i ht;exact ⟨true,ht,by rw [if_pos rfl];exact ⟨n,x,e',h',h1,h2⟩⟩
   ·rename_i ht;exact ⟨false,ht,by rw [if_neg (by simp)];exact ⟨n,x,e',h',h1,h2⟩⟩
   ·cases h1
 ·rintro ⟨v,hv,hw⟩
  refine j9 hv ?_
  cases v
  ·simpa using hw
  ·simpa using hw
theorem SN {id:Nat} {c:Code} {Q:X→BF→H→Prop}:W C lo (.block id c) e h Q=W C lo c e h (XT id Q):=by
 apply propext
 refine ⟨fun ⟨n,x,e',h',h1,h2⟩=>?_,dY⟩
 cases n with
 |zero=>rw [F7] at h1;cases h1
 |succ n=>
  rw [Cg] at h1
  have h1:Do id (ex C n lo c e h)=some (x,e',h'):=h1
  unfold Do at h1
  split at h1
  ·rename_i i e1 g1 hr
   split at h1
   ·rename_i hb
    cases h1
    exact ⟨n,_,e',h',hr,by rw [Nat.eq_of_beq_eq_true hb];simpa [XT] using h2⟩
   ·rename_i hb
    cases h1
    exact ⟨n,_,e',h',hr,by simpa [XT,Nat.ne_of_beq_eq_false hb] using h2⟩
  ·rename_i hne
   refine ⟨n,x,e',h',h1,?_⟩
   cases x with
   |exit i=>exact absurd h1 (hne i e' h')
   |_=>exact h2
theorem Ql {id:Nat} {ops:Array Oper} {Q:X→BF→H→Prop}:W C lo (.region id ops false) e h Q=ID C false lo ops.toList ops.toList e h (Q .normal):=by
 apply propext
 refine ⟨fun ⟨n,x,e',h',h1,h2⟩=>?_,Zt⟩
 cases n with
 |zero=>rw [F7] at h1;cases h1
 |succ n=>
  rw [Cg] at h1
  have h1:D9 C (ex C n) lo ops.toList false e h=some (x,e',h'):=h1
  unfold D9 at h1
  simp only at h1
  split at h1
  ·rename_i hr;cases h1;exact ⟨n,e',h',hr,h2⟩
  ·cases h1
theorem MC {draw:Bool} {ops rest:List Oper} {o:Oper} {Q:BF→H→Prop}:ID C draw lo ops (o::rest) e h Q=
  if wants ops e o=true then
   (match KJ C.P C.eqs lo (ev e) o.op h with
   |some (.val v,h')=>ID C draw lo ops rest (Fz e o.dst v) h' Q
   |some (.call f args,h')=>G7 C (if draw then max lo h'.n else lo) f args h' fun v h''=>ID C draw lo ops rest (Fz e o.dst v) h'' Q
   |none=>False)
  else ID C draw lo ops rest (Fz e o.dst undef) h Q:=by
 apply propext
 constructor
 ·rintro ⟨n,e2,h2,h3,h4⟩
  rw [Dj] at h3
  split at h3
  ·rename_i v h5 hs
   unfold Dy at hs
   split at hs
   ·rename_i hw
    rw [if_pos hw]
    split at hs
    ·rename_i hx;rw [hx];cases hs;exact ⟨n,e2,h2,h3,h4⟩
    ·rename_i hx;rw [hx];exact ⟨n,v,h5,hs,n,e2,h2,h3,h4⟩
    ·cases hs
   ·rename_i hw
    rw [if_neg hw]
    simp only [Option.some.injEq,Prod.mk.injEq] at hs
    obtain ⟨rfl,rfl⟩:=hs
    exact ⟨n,e2,h2,h3,h4⟩
  ·cases h3
 ·intro hq
  split at hq
  ·rename_i hw
   split at hq
   ·rename_i hx;exact Yi hw hx hq
   ·rename_i hx
    have:=HC hx
    subst this
    exact Wq hw hx hq
   ·exact hq.elim
  ·rename_i hw
   exact Wo (by simpa using hw) hq
theorem QA {draw:Bool} {ops:List Oper} {Q:BF→H→Prop}:ID C draw lo ops [] e h Q=Q e h:=propext Zz
theorem Pg {α:Type} (x:α) (xs:List α) (d:α):Gi (x::xs) d 0=x:=rfl
theorem QJ {α:Type} (x:α) (xs:List α) (d:α) (n:Nat):Gi (x::xs) d (n+1)=Gi xs d n:=rfl
theorem KZ {α:Type} (x:α) (xs:List α):By (x::xs) 0=some x:=rfl
theorem LN {α:Type} (x:α) (xs:List α) (n:Nat):By (x::xs) (n+1)=By xs n:=rfl
theorem UN (ops:List Oper) (e:BF) (d:Option Nat) (op:Op) (t:TypeId) (p:String) (a:Array Edge):wants ops e ⟨d,op,t,p,a,none⟩=true:=rfl
theorem UY (ops:List Oper) (e:BF) (d:Option Nat) (op:Op) (t:TypeId) (p:String) (a:Array Edge) (j:Nat) (w:Bool):wants ops e ⟨d,op,t,p,a,some (j,w)⟩=(match By ops j with|some p=>(match p.dst with|some d=>(match By e d with|some (.bool b)=>b==w|_=>false)|none=>false)|none=>false):=rfl
theorem YK:(X.ret=X.normal∨X.ret=X.ret)=True:=by simp
noncomputable def JT (gs:List (Option Nat)) (e:BF) (j:Nat) (w:Bool):Bool:=match By gs j with
 |some (some d)=>(match By e d with|some (.bool b)=>b==w|_=>false)
 |_=>false
theorem fR {α β:Type} (f:α→β):∀(l:List α) (n:Nat),By (l.map f) n=(By l n).map f:=fun l n=>by rw [Cf,Cf,List.getElem?_map]
theorem JC {ops:List Oper} {e:BF} {d:Option Nat} {op:Op} {t:TypeId} {p:String} {a:Array Edge} {j:Nat} {w:Bool}:wants ops e ⟨d,op,t,p,a,some (j,w)⟩=JT (ops.map Oper.dst) e j w:=by
 rw [UY,JT,fR]
 cases By ops j with
 |none=>rfl
 |some p=>cases hd:p.dst<;>simp [hd]
theorem SL {draw:Bool} {ops ops' os:List Oper} {e:BF} {h:H} {Q:BF→H→Prop} (he:ops.map Oper.dst=ops'.map Oper.dst) (hw:ID C draw lo ops os e h Q):ID C draw lo ops' os e h Q:=by
 induction os generalizing e h with
 |nil=>rw [QA] at hw ⊢;exact hw
 |cons o os ih=>
  have hwants:wants ops e o=wants ops' e o:=by
   obtain ⟨d,op,t,p,a,g⟩:=o
   cases g with
   |none=>rfl
   |some g=>obtain ⟨j,w⟩:=g;rw [JC,JC,he]
  rw [MC] at hw ⊢
  rw [←hwants]
  split
  ·rename_i ht
   rw [if_pos ht] at hw
   generalize KJ C.P C.eqs lo (ev e) o.op h=r at hw ⊢
   match r,hw with
   |some (.val v,h1),hw=>exact ih hw
   |some (.call f args,h1),hw=>exact G7.mono hw fun v h'' hq=>ih hq
  ·rename_i ht
   rw [if_neg ht] at hw
   exact ih hw
def pF (d:Option Nat):Oper:=⟨d,.move (.const undef),0, "",#[],none⟩
theorem QY (gs:List (Option Nat)):(gs.map pF).map Oper.dst=gs:=by induction gs with|nil=>rfl|cons g gs ih=>simp only [List.map_cons,ih];rfl
def WG (C:Cx) (draw:Bool) (lo:Nat) (gs:List (Option Nat)) (os:List Oper) (e:BF) (h:H) (Q:BF→H→Prop):Prop:=ID C draw lo (gs.map pF) os e h Q
theorem bW {draw:Bool} {ops os:List Oper} {Q:BF→H→Prop}:ID C draw lo ops os e h Q=WG C draw lo (ops.map Oper.dst) os e h Q:=
 propext ⟨SL (QY _).symm,SL (QY _)⟩
theorem Xn {id:Nat} {ops:Array Oper} {Q:X→BF→H→Prop}:W C lo (.region id ops false) e h Q=WG C false lo (ops.toList.map Oper.dst) ops.toList e h (Q .normal):=by rw [Ql,bW]
theorem jY {draw:Bool} {gs:List (Option Nat)} {Q:BF→H→Prop}:WG C draw lo gs [] e h Q=Q e h:=QA
def iU (C:Cx) (draw:Bool) (lo:Nat) (gs:List (Option Nat)) (rest:List Oper) (d:Option Nat) (e:BF) (Q:BF→H→Prop):Option (Out×H)→Prop
 |some (.val v,h')=>WG C draw lo gs rest (Fz e d v) h' Q
 |some (.call f args,h')=>G7 C (if draw then max lo h'.n else lo) f args h' fun v h''=>WG C draw lo gs rest (Fz e d v) h'' Q
 |none=>False
theorem eI {draw:Bool} {gs:List (Option Nat)} {rest:List Oper} {d:Option Nat} {Q:BF→H→Prop} {v:Value} {h':H}:iU C draw lo gs rest d e Q (some (.val v,h'))=WG C draw lo gs rest (Fz e d v) h' Q:=rfl
theorem ZQ {draw:Bool} {gs:List (Option Nat)} {rest:List Oper} {d:Option Nat} {Q:BF→H→Prop} {f:FuncId} {args:List Value} {h':H}:iU C draw lo gs rest d e Q (some (.call f args,h'))=G7 C (if draw then max lo h'.n else lo) f args h' fun v h''=>WG C draw lo gs rest (Fz e d v) h'' Q:=rfl
theorem eH {draw:Bool} {gs:List (Option Nat)} {rest:List Oper} {d:Option Nat} {op:Op} {t:TypeId} {p:String} {a:Array Edge} {Q:BF→H→Prop}:WG C draw lo gs (⟨d,op,t,p,a,none⟩::rest) e h Q=iU C draw lo gs rest d e Q (KJ C.P C.eqs lo (ev e) op h):=by
 unfold WG
 rw [MC,UN,if_pos rfl]
 generalize KJ C.P C.eqs lo (ev e) op h=r
 match r with
 |some (.val v,h1)=>rfl
 |some (.call f args,h1)=>rfl
 |none=>rfl
def pP (C:Cx) (draw:Bool) (lo:Nat) (gs:List (Option Nat)) (rest:List Oper) (d:Option Nat) (op:Op) (e:BF) (h:H) (Q:BF→H→Prop):Bool→Prop
 |true=>iU C draw lo gs rest d e Q (KJ C.P C.eqs lo (ev e) op h)
 |false=>WG C draw lo gs rest (Fz e d undef) h Q
theorem X4 {draw:Bool} {gs:List (Option Nat)} {rest:List Oper} {d:Option Nat} {op:Op} {Q:BF→H→Prop}:pP C draw lo gs rest d op e h Q true=iU C draw lo gs rest d e Q (KJ C.P C.eqs lo (ev e) op h):=rfl
theorem W1 {draw:Bool} {gs:List (Option Nat)} {rest:List Oper} {d:Option Nat} {op:Op} {Q:BF→H→Prop}:pP C draw lo gs rest d op e h Q false=WG C draw lo gs rest (Fz e d undef) h Q:=rfl
theorem dT {draw:Bool} {gs:List (Option Nat)} {rest:List Oper} {d:Option Nat} {op:Op} {t:TypeId} {p:String} {a:Array Edge} {j:Nat} {w:Bool} {Q:BF→H→Prop}:WG C draw lo gs (⟨d,op,t,p,a,some (j,w)⟩::rest) e h Q=pP C draw lo gs rest d op e h Q (JT gs e j w):=by
 unfold WG
 rw [MC,JC,QY]
 cases JT gs e j w with
 |false=>rfl
 |true=>
  rw [if_pos rfl]
  show _=iU C draw lo gs rest d e Q _
  generalize KJ C.P C.eqs lo (ev e) op h=r
  match r with
  |some (.val v,h1)=>rfl
  |some (.call f args,h1)=>rfl
  |none=>rfl
theorem f9:(true==true)=true:=rfl
theorem gL:(true==false)=false:=rfl
theorem fW:(false==true)=false:=rfl
theorem gD:(false==false)=true:=rfl
theorem cZ {id:Nat} {ops:Array Oper} {Q:X→BF→H→Prop} (hc:Oy C.P ops.toList=true) (hw:WG C true lo (ops.toList.map Oper.dst) ops.toList e h (Q .normal)):W C lo (.region id ops true) e h Q:=
 jE hc (by rw [bW];exact hw)
abbrev Tr:=List (Option Nat×Option Nat)
def WT (C:Cx) (lo:Nat) (gs:List (Option Nat)) (os:List Oper) (e:BF) (h:H) (pre:Tr) (Q:BF→H→Tr→Prop):Prop:=gK C lo (gs.map pF) os e h fun e h tr=>Q e h (pre++tr)
end
end Go.Vx
