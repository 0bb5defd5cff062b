/- Rules for reasoning about the interpreter. -/
import Derived.Test.YtmbonddknackiaaVxFun
namespace Go.Vx
section
variable (C:Cx)
def Vw (r r':Nat→Code→BF→H→Option (X×BF×H)):Prop:=∀lo c e h x,r lo c e h=some x→r' lo c e h=some x
variable {C}
theorem IW {r r':Nat→Code→BF→H→Option (X×BF×H)} (hr:Vw r r') {lo:Nat} {f:FuncId} {args:List Value} {h:H} {x:Value×H}
  (hx:Ei C r lo f args h=some x):Ei C r' lo f args h=some x:=by
 unfold Ei at hx ⊢
 split at hx
 ·exact hx
 ·split at hx
  ·split at hx
   ·cases hx
   ·split at hx
    ·cases hx
    ·split at hx
     ·rename_i h1
      rw [hr _ _ _ _ _ h1];exact hx
     ·rename_i h1
      rw [hr _ _ _ _ _ h1];exact hx
     ·cases hx
  ·cases hx
def Q5 (r r':Nat→FuncId→List Value→H→Option (Value×H)):Prop:=∀lo f args h x,r lo f args h=some x→r' lo f args h=some x
theorem Sr {r r':Nat→FuncId→List Value→H→Option (Value×H)} (hr:Q5 r r') {draw:Bool} {lo:Nat} {ops:List Oper} {o:Oper} {e:BF} {h:H} {x:Value×H}
  (hx:Dy C r draw lo ops o e h=some x):Dy C r' draw lo ops o e h=some x:=by
 unfold Dy at hx ⊢
 split at hx
 ·rename_i hw
  rw [if_pos hw]
  split at hx
  ·exact hx
  ·exact hr _ _ _ _ _ hx
  ·cases hx
 ·rename_i hw
  rw [if_neg hw];exact hx
theorem Q6 {r r':Nat→FuncId→List Value→H→Option (Value×H)} (hr:Q5 r r') {draw:Bool} {lo:Nat} {ops:List Oper}:∀{os:List Oper} {e:BF} {h:H} {x:BF×H},
  Lt C r draw lo ops os e h=some x→Lt C r' draw lo ops os e h=some x
 |[],e,h,x,hx=>hx
 |o::os,e,h,x,hx=>by
  rw [Dj] at hx ⊢
  split at hx
  ·rename_i h1
   rw [Sr hr h1];exact Q6 hr hx
  ·cases hx
theorem S4 {r r':Nat→FuncId→List Value→H→Option (Value×H)} (hr:Q5 r r') {lo:Nat} {ops:List Oper}:∀{os:List Oper} {e:BF} {h:H} {x:BF×H×List (Option Nat×Option Nat)},
  Gm C r lo ops os e h=some x→Gm C r' lo ops os e h=some x
 |[],e,h,x,hx=>hx
 |o::os,e,h,x,hx=>by
  rw [FG] at hx ⊢
  split at hx
  ·rename_i h1
   rw [Sr hr h1]
   split at hx
   ·rename_i h2
    simp only [S4 hr h2];exact hx
   ·cases hx
  ·cases hx
theorem XM {r r':Nat→Code→BF→H→Option (X×BF×H)} (hr:Vw r r'):Vw (H2 C r) (H2 C r'):=by
 intro lo c e h x hx
 have hc:Q5 (Ei C r) (Ei C r'):=fun lo f args h x hx=>IW hr hx
 unfold H2 at hx ⊢
 have seq:∀(a a':Option (X×BF×H)) (k k':BF→H→Option (X×BF×H)),(∀x,a=some x→a'=some x)→(∀e h x,k e h=some x→k' e h=some x)→Gn a k=some x→Gn a' k'=some x:=by
  intro a a' k k' ha hk hx
  unfold Gn at hx ⊢
  split at hx
  ·rw [ha _ rfl];exact hk _ _ _ hx
  ·rename_i hne
   rw [ha _ hx]
   obtain ⟨x,e,h⟩:=x
   cases x with
   |normal=>exact absurd hx (hne e h)
   |_=>rfl
 split at hx
 ·exact hx
 ·unfold D9 at hx ⊢
  split at hx
  ·split at hx
   ·rename_i h1;simp only [Q6 hc h1];exact hx
   ·cases hx
  ·split at hx
   ·rename_i h1;simp only [S4 hc h1];exact hx
   ·cases hx
 ·exact seq _ _ _ _ (fun x h1=>hr _ _ _ _ _ h1) (fun e h x h1=>hr _ _ _ _ _ h1) hx
 ·unfold I2 at hx ⊢
  split at hx
  ·exact hr _ _ _ _ _ hx
  ·exact hr _ _ _ _ _ hx
  ·cases hx
 ·rename_i id c
  cases h1:r lo c e h with
  |none=>rw [h1] at hx;simp [Do] at hx
  |some y=>rw [h1] at hx;rw [hr _ _ _ _ _ h1];exact hx
 ·exact seq _ _ _ _ (fun x h1=>hr _ _ _ _ _ h1) (fun e h x h1=>hr _ _ _ _ _ h1) hx
 ·exact hx
 ·exact hx
 ·cases hx
theorem J2:∀{n m:Nat},n≤m→Vw (ex C n) (ex C m)
 |0,m,_=>fun lo c e h x hx=>by rw [F7] at hx;cases hx
 |n+1,0,h=>by omega
 |n+1,m+1,h=>fun lo c e h' x hx=>by
  rw [Cg] at hx ⊢
  exact XM (J2 (by omega)) lo c e h' x hx
def W (C:Cx) (lo:Nat) (c:Code) (e:BF) (h:H) (Q:X→BF→H→Prop):Prop:=∃n x e' h',ex C n lo c e h=some (x,e',h')∧Q x e' h'
def ID (C:Cx) (draw:Bool) (lo:Nat) (ops os:List Oper) (e:BF) (h:H) (Q:BF→H→Prop):Prop:=∃n e' h',Lt C (Ei C (ex C n)) draw lo ops os e h=some (e',h')∧Q e' h'
def G7 (C:Cx) (lo:Nat) (f:FuncId) (args:List Value) (h:H) (Q:Value→H→Prop):Prop:=∃n v h',Ei C (ex C n) lo f args h=some (v,h')∧Q v h'
variable {lo:Nat} {e:BF} {h:H}
theorem W.mono {c:Code} {Q Q':X→BF→H→Prop} (hw:W C lo c e h Q) (hq:∀x e h,Q x e h→Q' x e h):W C lo c e h Q':=
 let ⟨n,x,e',h',h1,h2⟩:=hw;⟨n,x,e',h',h1,hq _ _ _ h2⟩
theorem G7.mono {f:FuncId} {args:List Value} {Q Q':Value→H→Prop} (hw:G7 C lo f args h Q) (hq:∀v h,Q v h→Q' v h):G7 C lo f args h Q':=
 let ⟨n,v,h',h1,h2⟩:=hw;⟨n,v,h',h1,hq _ _ h2⟩
theorem jK {Q:X→BF→H→Prop} (hq:Q .normal e h):W C lo .skip e h Q:=⟨1,_,_,_,rfl,hq⟩
theorem lP {Q:X→BF→H→Prop} (hq:Q .ret e h):W C lo .ret e h Q:=⟨1,_,_,_,rfl,hq⟩
theorem jJ {Q:X→BF→H→Prop} {id:Nat} (hq:Q (.exit id) e h):W C lo (.exit id) e h Q:=⟨1,_,_,_,rfl,hq⟩
def eU (k:BF→H→Prop) (Q:X→BF→H→Prop):X→BF→H→Prop
 |.normal,e,h=>k e h
 |x,e,h=>Q x e h
theorem Zj {n:Nat} {c:Code} {k:Nat→BF→H→Option (X×BF×H)} (hk:∀n m:Nat,n≤m→∀e h x,k n e h=some x→k m e h=some x)
  {Q:X→BF→H→Prop} {x:X} {e':BF} {h':H} (h1:ex C n lo c e h=some (x,e',h')) (h2:eU (fun e h=>∃m x e' h',k m e h=some (x,e',h')∧Q x e' h') Q x e' h'):
  ∃m x e' h',Gn (ex C m lo c e h) (k m)=some (x,e',h')∧Q x e' h':=by
 cases x with
 |normal=>
  obtain ⟨m,x2,e2,h2',h3,h4⟩:=h2
  refine ⟨max n m,x2,e2,h2',?_,h4⟩
  rw [J2 (Nat.le_max_left n m) _ _ _ _ _ h1]
  exact hk m _ (Nat.le_max_right n m) _ _ _ h3
 |exit id=>exact ⟨n,_,e',h',by rw [h1];rfl,h2⟩
 |ret=>exact ⟨n,_,e',h',by rw [h1];rfl,h2⟩
theorem mU {a b:Code} {Q:X→BF→H→Prop} (hw:W C lo a e h (eU (fun e h=>W C lo b e h Q) Q)):W C lo (.seq a b) e h Q:=by
 obtain ⟨n,x,e',h',h1,h2⟩:=hw
 obtain ⟨m,x2,e2,h2',h3,h4⟩:=Zj (k:=fun m e h=>ex C m lo b e h) (fun n m hnm e h x hx=>J2 hnm _ _ _ _ _ hx) h1 h2
 exact ⟨m+1,x2,e2,h2',by rw [Cg];exact h3,h4⟩
theorem kB {c:Code} {Q:X→BF→H→Prop} (hw:W C lo c e h (eU (fun e h=>W C lo (.loop c) e h Q) Q)):W C lo (.loop c) e h Q:=by
 obtain ⟨n,x,e',h',h1,h2⟩:=hw
 obtain ⟨m,x2,e2,h2',h3,h4⟩:=Zj (k:=fun m e h=>ex C m lo (.loop c) e h) (fun n m hnm e h x hx=>J2 hnm _ _ _ _ _ hx) h1 h2
 exact ⟨m+1,x2,e2,h2',by rw [Cg];exact h3,h4⟩
theorem j9 {t:Operand} {a b:Code} {Q:X→BF→H→Prop} {v:Bool} (hv:ev e t=.bool v) (hw:W C lo (if v=true then a else b) e h Q):W C lo (.cond t a b) e h Q:=by
 obtain ⟨n,x,e',h',h1,h2⟩:=hw
 refine ⟨n+1,x,e',h',?_,h2⟩
 rw [Cg]
 show I2 (ev e t) _ _=_
 rw [hv]
 cases v
 ·exact h1
 ·exact h1
def XT (id:Nat) (Q:X→BF→H→Prop):X→BF→H→Prop
 |.exit i,e,h=>if i=id then Q .normal e h else Q (.exit i) e h
 |x,e,h=>Q x e h
theorem dY {id:Nat} {c:Code} {Q:X→BF→H→Prop} (hw:W C lo c e h (XT id Q)):W C lo (.block id c) e h Q:=by
 obtain ⟨n,x,e',h',h1,h2⟩:=hw
 cases x with
 |normal=>exact ⟨n+1,_,e',h',by rw [Cg];show Do id (ex C n lo c e h)=_;rw [h1];rfl,h2⟩
 |ret=>exact ⟨n+1,_,e',h',by rw [Cg];show Do id (ex C n lo c e h)=_;rw [h1];rfl,h2⟩
 |exit i=>
  by_cases hi:i=id
  ·subst hi
   simp only [XT,if_true] at h2
   exact ⟨n+1,_,e',h',by rw [Cg];show Do i (ex C n lo c e h)=_;rw [h1];simp [Do],h2⟩
  ·simp only [XT,if_neg hi] at h2
   exact ⟨n+1,_,e',h',by
    rw [Cg];show Do id (ex C n lo c e h)=_;rw [h1]
    have:Nat.beq i id=false:=by cases hb:Nat.beq i id with
     |true=>exact absurd (Nat.eq_of_beq_eq_true hb) hi
     |false=>rfl
    simp [Do,this],h2⟩
theorem Zt {id:Nat} {ops:Array Oper} {Q:X→BF→H→Prop} (hw:ID C false lo ops.toList ops.toList e h (Q .normal)):W C lo (.region id ops false) e h Q:=by
 obtain ⟨n,e',h',h1,h2⟩:=hw
 exact ⟨n+1,.normal,e',h',by rw [Cg];show D9 C (ex C n) lo ops.toList false e h=_;unfold D9;simp only [h1],h2⟩
theorem Zz {draw:Bool} {ops:List Oper} {Q:BF→H→Prop}:ID C draw lo ops [] e h Q↔Q e h:=by
 constructor
 ·rintro ⟨n,e',h',h1,h2⟩;rw [Hc] at h1;cases h1;exact h2
 ·intro hq;exact ⟨0,e,h,rfl,hq⟩
theorem Yi {draw:Bool} {ops rest:List Oper} {o:Oper} {Q:BF→H→Prop} {v:Value} {h':H} (hw:wants ops e o=true) (hx:KJ C.P C.eqs lo (ev e) o.op h=some (.val v,h'))
  (hq:ID C draw lo ops rest (Fz e o.dst v) h' Q):ID C draw lo ops (o::rest) e h Q:=by
 obtain ⟨n,e2,h2,h3,h4⟩:=hq
 refine ⟨n,e2,h2,?_,h4⟩
 rw [Dj]
 unfold Dy
 rw [if_pos hw,hx]
 exact h3
theorem Wo {draw:Bool} {ops rest:List Oper} {o:Oper} {Q:BF→H→Prop} (hw:wants ops e o=false)
  (hq:ID C draw lo ops rest (Fz e o.dst undef) h Q):ID C draw lo ops (o::rest) e h Q:=by
 obtain ⟨n,e2,h2,h3,h4⟩:=hq
 refine ⟨n,e2,h2,?_,h4⟩
 rw [Dj]
 unfold Dy
 rw [if_neg (by rw [hw];simp)]
 exact h3
theorem Wq {draw:Bool} {ops rest:List Oper} {o:Oper} {Q:BF→H→Prop} {f:FuncId} {args:List Value} (hw:wants ops e o=true) (hx:KJ C.P C.eqs lo (ev e) o.op h=some (.call f args,h))
  (hq:G7 C (if draw then max lo h.n else lo) f args h fun v h'=>ID C draw lo ops rest (Fz e o.dst v) h' Q):ID C draw lo ops (o::rest) e h Q:=by
 obtain ⟨n,v,h1,h2,n2,e2,h3,h4,h5⟩:=hq
 refine ⟨max n n2,e2,h3,?_,h5⟩
 rw [Dj]
 unfold Dy
 rw [if_pos hw,hx]
 simp only
 rw [IW (J2 (Nat.le_max_left n n2)) h2]
 exact Q6 (fun lo f args h x hx=>IW (J2 (Nat.le_max_right n n2)) hx) h4
theorem SR {f:FuncId} {args:List Value} {fn:Func} {c:Code} {Q:Value→H→Prop} (ht:C.told f=none) (hf:Nat.ble (f+1) C.top=true) (hfn:By C.P.funcs.toList f=some fn) (hb:fn.body=some c)
  (hw:W C lo c (args++List.replicate (fn.ntmps - args.length) undef) h fun x e h'=>(x=.normal∨x=.ret)∧∃vs,Db C e h' fn.results.toList=some vs∧Q (one vs) h'):G7 C lo f args h Q:=by
 obtain ⟨n,x,e',h',h1,hx,vs,h2,h3⟩:=hw
 refine ⟨n,one vs,h',?_,h3⟩
 unfold Ei
 rw [ht]
 simp only [hf,hfn,hb,h1]
 rcases hx with rfl|rfl<;>simp only [h2]
theorem Hu {f:FuncId} {args:List Value} {g:Nat→List Value→H→Option (Value×H)} {v:Value} {h':H} {Q:Value→H→Prop} (ht:C.told f=some g) (hg:g lo args h=some (v,h')) (hq:Q v h'):
  G7 C lo f args h Q:=⟨0,v,h',by unfold Ei;rw [ht];exact hg,hq⟩
def gK (C:Cx) (lo:Nat) (ops os:List Oper) (e:BF) (h:H) (Q:BF→H→List (Option Nat×Option Nat)→Prop):Prop:=
 ∃n e' h' tr,Gm C (Ei C (ex C n)) lo ops os e h=some (e',h',tr)∧Q e' h' tr
theorem cL {id:Nat} {ops:Array Oper} {Q:X→BF→H→Prop} (hw:gK C lo ops.toList ops.toList e h fun e h tr=>F4 ops.toList tr=true∧Q .normal e h):W C lo (.region id ops true) e h Q:=by
 obtain ⟨n,e',h',tr,h1,h2,h3⟩:=hw
 exact ⟨n+1,.normal,e',h',by rw [Cg];show D9 C (ex C n) lo ops.toList true e h=_;unfold D9;simp only [h1,h2,if_true],h3⟩
theorem fM {P:Program} {ρ:Operand→Value} {op:Op} {r:Nat} (h:GL P ρ op=some r):iF P op=true:=by
 cases op<;>simp only [GL] at h<;>try (cases h;done)
 case load t a=>rfl
 case convert s d x=>
  split at h
  ·rename_i hc;exact hc
  ·cases h
theorem YA {P:Program} {ρ:Operand→Value} {op:Op} {t:Nat} (h:Hf P ρ op=some t):DH P op=true:=by
 cases hm:DH P op with
 |true=>rfl
 |false=>rw [Wh hm] at h;cases h
theorem R9 {r:Nat→FuncId→List Value→H→Option (Value×H)} {ops:List Oper}:∀{os:List Oper} {e:BF} {h:H} {e':BF} {h':H},Lt C r true lo ops os e h=some (e',h')→
  ∃tr,Gm C r lo ops os e h=some (e',h',tr)∧tr.length=os.length∧∀(i:Nat) (o:Oper) (x:Option Nat×Option Nat),os[i]?=some o→tr[i]?=some x→(∀r,x.1=some r→iF C.P o.op=true)∧∀t,x.2=some t→DH C.P o.op=true
 |[],e,h,e',h',hx=>by
  rw [Hc] at hx;cases hx
  exact ⟨[],rfl,rfl,fun i o x h=>by simp at h⟩
 |o::os,e,h,e',h',hx=>by
  rw [Dj] at hx
  split at hx
  ·rename_i v h1 hs
   obtain ⟨tr,h2,h3,h4⟩:=R9 hx
   refine ⟨(GL C.P (ev e) o.op,Hf C.P (ev e) o.op)::tr,by rw [FG,hs];simp only [h2],by simp [h3],fun i o' x ho hx'=>?_⟩
   cases i with
   |zero=>
    simp at ho hx'
    subst ho;subst hx'
    exact ⟨fun r hr=>fM hr,fun t ht=>YA ht⟩
   |succ i=>simp at ho hx';exact h4 i o' x ho hx'
  ·cases hx
theorem Tt:∀{tr:List (Option Nat×Option Nat)} {k i r:Nat},(i,r)∈GV tr k→∃j t,i=k+j∧tr[j]?=some (some r,t)
 |[],k,i,r,h=>by simp [GV] at h
 |(x,y)::tr,k,i,r,h=>by
  cases x with
  |none=>
   simp only [GV] at h
   obtain ⟨j,t,h1,h2⟩:=Tt h
   exact ⟨j+1,t,by omega,by simpa using h2⟩
  |some q=>
   simp only [GV,List.mem_cons] at h
   rcases h with h|h
   ·cases h;exact ⟨0,y,rfl,rfl⟩
   ·obtain ⟨j,t,h1,h2⟩:=Tt h
    exact ⟨j+1,t,by omega,by simpa using h2⟩
theorem UG:∀{tr:List (Option Nat×Option Nat)} {k i t:Nat},(i,t)∈Fg tr k→∃j r,i=k+j∧tr[j]?=some (r,some t)
 |[],k,i,r,h=>by simp [Fg] at h
 |(x,y)::tr,k,i,r,h=>by
  cases y with
  |none=>
   simp only [Fg] at h
   obtain ⟨j,t,h1,h2⟩:=UG h
   exact ⟨j+1,t,by omega,by simpa using h2⟩
  |some q=>
   simp only [Fg,List.mem_cons] at h
   rcases h with h|h
   ·cases h;exact ⟨0,x,rfl,rfl⟩
   ·obtain ⟨j,t,h1,h2⟩:=UG h
    exact ⟨j+1,t,by omega,by simpa using h2⟩
theorem jE {id:Nat} {ops:Array Oper} {Q:X→BF→H→Prop} (hc:Oy C.P ops.toList=true) (hw:ID C true lo ops.toList ops.toList e h (Q .normal)):W C lo (.region id ops true) e h Q:=by
 obtain ⟨n,e',h',h1,h2⟩:=hw
 obtain ⟨tr,h3,h4,h5⟩:=R9 h1
 refine cL ⟨n,e',h',tr,h3,?_,h2⟩
 unfold F4
 cases hts:Fg tr 0 with
 |nil=>rfl
 |cons t0 ts=>
  simp only [QR,List.all_eq_true]
  intro y hy x hx
  rw [←hts] at hy
  obtain ⟨i,r⟩:=x
  obtain ⟨j,t⟩:=y
  obtain ⟨i',_,e1,g1⟩:=Tt hx
  obtain ⟨j',_,e2,g2⟩:=UG hy
  simp only [Nat.zero_add] at e1 e2
  subst e1;subst e2
  have li:i<ops.toList.length:=by rw [←h4];apply Classical.byContradiction;intro hc;rw [List.getElem?_eq_none (by omega)] at g1;cases g1
  have lj:j<ops.toList.length:=by rw [←h4];apply Classical.byContradiction;intro hc;rw [List.getElem?_eq_none (by omega)] at g2;cases g2
  have a1:=(h5 i _ _ (List.getElem?_eq_getElem li) g1).1 r rfl
  have a2:=(h5 j _ _ (List.getElem?_eq_getElem lj) g2).2 t rfl
  unfold Oy at hc
  simp only [List.all_eq_true,Bool.or_eq_true,Bool.not_eq_true'] at hc
  rcases hc _ (Gd (List.getElem?_eq_getElem li)) with h|h
  ·rw [a1] at h;cases h
  ·rcases h _ (Gd (List.getElem?_eq_getElem lj)) with (h|h)|h
   ·rw [a2] at h;cases h
   ·simp only [FS,h,Bool.true_or]
   ·simp only [FS,h,Bool.or_true,Bool.true_or]
end
end Go.Vx
