/- A run moved: regions, code, calls. What is made of values without an address does not depend on the heap. -/
import Derived.Test.YtmbonddknackiaaVyShift3
set_option linter.unusedVariables false
namespace Go.Vx
section
variable {k:Nat} {g h h':H} {u v:Value}
def Qq (k:Nat) (g:H) (callf:Nat→FuncId→List Value→H→Option (Value×H)):Prop:=
 ∀(lo lo':Nat) (f:FuncId) (args args':List Value) (h h':H) (v:Value) (h1:H),callf lo f args h=some (v,h1)→lo'≤lo+k→L2 (ShV k) args args'→ShH k g h h'→
  ∃v' h1',callf lo' f args' h'=some (v',h1')∧ShV k v v'∧ShH k g h1 h1'
def RH (C:Cx):Prop:=∀(f:FuncId) (tg:Nat→List Value→H→Option (Value×H)),C.told f=some tg→∀(k:Nat) (g:H) (lo lo':Nat) (args args':List Value) (h h':H) (v:Value) (h1:H),tg lo args h=some (v,h1)→lo'≤lo+k→L2 (ShV k) args args'→ShH k g h h'→
  ∃v' h1',tg lo' args' h'=some (v',h1')∧ShV k v v'∧ShH k g h1 h1'
theorem jC {e e':BF} (he:L2 (ShV k) e e') (d:Nat):(∃v v',By e d=some v∧By e' d=some v'∧ShV k v v')∨(By e d=none∧By e' d=none):=by
 rw [Cf,Cf]
 cases h1:e[d]? with
 |none=>exact .inr ⟨rfl,List.getElem?_eq_none (by rw [←he.1];exact List.getElem?_eq_none_iff.mp h1)⟩
 |some v=>obtain ⟨v',h2,h3⟩:=he.get h1;exact .inl ⟨v,v',rfl,h2,h3⟩
def mY (w:Bool):Option Value→Bool
 |some (.bool b)=>b==w
 |_=>false
theorem iI (w:Bool) (hs:ShV k u v):mY w (some v)=mY w (some u):=by
 rcases hs.inv with hs|⟨xs,ys,rfl,rfl,_⟩|⟨xs,ys,rfl,rfl,_⟩
 ·rcases hs.inv with ⟨_,rfl⟩|⟨a,rfl,rfl⟩|⟨a,n,c,rfl,rfl⟩<;>rfl
 ·rfl
 ·rfl
theorem Ye {ops:List Oper} {e e':BF} (he:L2 (ShV k) e e') (o:Oper):wants ops e' o=wants ops e o:=by
 unfold wants
 split
 ·rfl
 ·split
  ·split
   ·rename_i d _
    show mY _ (By e' d)=mY _ (By e d)
    rcases jC he d with ⟨v,v',h1,h2,h3⟩|⟨h1,h2⟩
    ·rw [h1,h2];exact iI _ h3
    ·rw [h1,h2]
   ·rfl
  ·rfl
theorem VX {e e':BF} (he:L2 (ShV k) e e') (d:Option Nat) (hv:ShV k u v):L2 (ShV k) (Fz e d u) (Fz e' d v):=by
 cases d with
 |none=>exact he
 |some d=>exact he.set hv d
variable {C:Cx} {callf:Nat→FuncId→List Value→H→Option (Value×H)}
theorem WV (hz:Ca C.P) (hcf:Qq k g callf) {draw:Bool} {lo lo':Nat} (hlo:lo'≤lo+k) {ops:List Oper} {o:Oper} {e e':BF} (ho:IQ o.op=true) (he:L2 (ShV k) e e') (hh:ShH k g h h') {v:Value} {h1:H}
  (hx:Dy C callf draw lo ops o e h=some (v,h1)):∃v' h1',Dy C callf draw lo' ops o e' h'=some (v',h1')∧ShV k v v'∧ShH k g h1 h1':=by
 unfold Dy at hx ⊢
 rw [Ye he]
 split at hx
 ·rename_i hw
  rw [if_pos hw]
  split at hx
  ·rename_i u h2 hxo
   cases hx
   obtain ⟨x',h1',k1,k2,k3⟩:=YE hz hlo hh (Ud he ho) _ _ hxo
   cases k2 with
   |val k2=>rw [k1];exact ⟨_,_,rfl,k2,k3⟩
  ·rename_i f args h2 hxo
   obtain ⟨x',h1',k1,k2,k3⟩:=YE hz hlo hh (Ud he ho) _ _ hxo
   cases k2 with
   |call k2=>
    rw [k1]
    refine hcf _ _ f _ _ _ _ v h1 hx ?_ k2 k3
    have:=k3.n
    split<;>omega
  ·cases hx
 ·rename_i hw
  rw [if_neg hw]
  cases hx
  exact ⟨_,_,rfl,.undef,hh⟩
theorem Wj (hz:Ca C.P) (hcf:Qq k g callf) {draw:Bool} {lo lo':Nat} (hlo:lo'≤lo+k) {ops:List Oper}:∀{os:List Oper} {e e':BF} {h h':H},(os.all fun o=>IQ o.op)=true→L2 (ShV k) e e'→ShH k g h h'→∀{e1:BF} {h1:H},
  Lt C callf draw lo ops os e h=some (e1,h1)→∃e1' h1',Lt C callf draw lo' ops os e' h'=some (e1',h1')∧L2 (ShV k) e1 e1'∧ShH k g h1 h1'
 |[],e,e',h,h',ho,he,hh,e1,h1,hx=>by rw [Hc] at hx;cases hx;exact ⟨e',h',Hc ..,he,hh⟩
 |o::os,e,e',h,h',ho,he,hh,e1,h1,hx=>by
  simp only [List.all_cons,Bool.and_eq_true] at ho
  rw [Dj] at hx
  split at hx
  ·rename_i v h2 hs
   obtain ⟨v',h2',k1,k2,k3⟩:=WV hz hcf hlo ho.1 he hh hs
   rw [Dj,k1]
   exact Wj hz hcf hlo ho.2 (VX he _ k2) k3 hx
  ·cases hx
def bP:Value→Option Nat
 |.pointer (some a)=>some a.block
 |_=>none
def bS:Value→Option Nat
 |.slice (some a) _ _=>some a.block
 |_=>none
theorem fY (hs:ShV k u v):bP v=(bP u).map (·+k):=by
 rcases hs.inv with hs|⟨xs,ys,rfl,rfl,_⟩|⟨xs,ys,rfl,rfl,_⟩
 ·rcases hs.inv with ⟨hd,rfl⟩|⟨a,rfl,rfl⟩|⟨a,n,c,rfl,rfl⟩
  ·cases v with
   |pointer a=>cases a with
    |none=>rfl
    |some a=>cases hd
   |_=>rfl
  ·rfl
  ·rfl
 ·rfl
 ·rfl
theorem Yb (hs:ShV k u v):bS v=(bS u).map (·+k):=by
 rcases hs.inv with hs|⟨xs,ys,rfl,rfl,_⟩|⟨xs,ys,rfl,rfl,_⟩
 ·rcases hs.inv with ⟨hd,rfl⟩|⟨a,rfl,rfl⟩|⟨a,n,c,rfl,rfl⟩
  ·cases v with
   |slice a n c=>cases a with
    |none=>rfl
    |some a=>cases hd
   |_=>rfl
  ·rfl
  ·rfl
 ·rfl
 ·rfl
theorem mQ {P:Program} {ρ ρ':Operand→Value} {op:Op} (hr:∀x∈op.operands.toList,ShV k (ρ x) (ρ' x)):GL P ρ' op=(GL P ρ op).map (·+k):=by
 unfold GL
 split
 ·rename_i t a
  exact fY (hr a (by simp [Op.operands]))
 ·rename_i s d x
  split
  ·exact Yb (hr x (by simp [Op.operands]))
  ·rfl
 ·rfl
theorem lE {P:Program} {ρ ρ':Operand→Value} {op:Op} (hr:∀x∈op.operands.toList,ShV k (ρ x) (ρ' x)):Hf P ρ' op=(Hf P ρ op).map (·+k):=by
 unfold Hf
 split
 ·rename_i t a v
  exact fY (hr a (by simp [Op.operands]))
 ·rename_i s d x
  split
  ·exact Yb (hr x (by simp [Op.operands]))
  ·rfl
 ·rename_i c d args
  split
  ·rename_i s r ha
   exact Yb (hr s (by simp [Op.operands,Call.operands,ha]))
  ·rfl
 ·rfl
def Q9 (k:Nat) (tr:List (Option Nat×Option Nat)):List (Option Nat×Option Nat):=tr.map fun p=>(p.1.map (·+k),p.2.map (·+k))
theorem U3:∀(tr:List (Option Nat×Option Nat)) (i:Nat),GV (Q9 k tr) i=(GV tr i).map fun p=>(p.1,p.2+k)
 |[],i=>rfl
 |(some r,t)::tr,i=>by show (i,r+k)::GV (Q9 k tr) (i+1)=_;rw [U3 tr];rfl
 |(none,t)::tr,i=>by show GV (Q9 k tr) (i+1)=_;rw [U3 tr];rfl
theorem Uf:∀(tr:List (Option Nat×Option Nat)) (i:Nat),Fg (Q9 k tr) i=(Fg tr i).map fun p=>(p.1,p.2+k)
 |[],i=>rfl
 |(r,some t)::tr,i=>by show (i,t+k)::Fg (Q9 k tr) (i+1)=_;rw [Uf tr];rfl
 |(r,none)::tr,i=>by show Fg (Q9 k tr) (i+1)=_;rw [Uf tr];rfl
theorem Yc (b:List Nat) (x y:Nat×Nat):FS b (x.1,x.2+k) (y.1,y.2+k)=FS b x y:=by
 unfold FS
 simp only
 congr 2
 rw [Bool.eq_iff_iff,beq_iff_eq,beq_iff_eq]
 omega
theorem Up (ops:List Oper) (tr:List (Option Nat×Option Nat)):F4 ops (Q9 k tr)=F4 ops tr:=by
 unfold F4
 rw [U3,Uf]
 generalize GV tr 0=rs
 generalize Fg tr 0=ts
 cases ts with
 |nil=>rfl
 |cons t ts=>
  show (((t::ts).map fun p=>(p.1,p.2+k)).all fun y=>(rs.map fun p=>(p.1,p.2+k)).all fun x=>FS (E7 ops []) x y)=((t::ts).all fun y=>rs.all fun x=>FS (E7 ops []) x y)
  rw [List.all_map]
  congr 1
  funext y
  show (List.map (fun p=>(p.1,p.2+k)) rs).all (fun x=>FS (E7 ops []) x (y.1,y.2+k))=_
  rw [List.all_map]
  congr 1
  funext x
  exact Yc _ x y
theorem Rb (hz:Ca C.P) (hcf:Qq k g callf) {lo lo':Nat} (hlo:lo'≤lo+k) {ops:List Oper}:∀{os:List Oper} {e e':BF} {h h':H},(os.all fun o=>IQ o.op)=true→L2 (ShV k) e e'→ShH k g h h'→∀{e1:BF} {h1:H} {tr:List (Option Nat×Option Nat)},
  Gm C callf lo ops os e h=some (e1,h1,tr)→∃e1' h1',Gm C callf lo' ops os e' h'=some (e1',h1',Q9 k tr)∧L2 (ShV k) e1 e1'∧ShH k g h1 h1'
 |[],e,e',h,h',ho,he,hh,e1,h1,tr,hx=>by rw [Jf] at hx;cases hx;exact ⟨e',h',Jf ..,he,hh⟩
 |o::os,e,e',h,h',ho,he,hh,e1,h1,tr,hx=>by
  simp only [List.all_cons,Bool.and_eq_true] at ho
  rw [FG] at hx
  split at hx
  ·rename_i v h2 hs
   obtain ⟨v',h2',k1,k2,k3⟩:=WV hz hcf hlo ho.1 he hh hs
   rw [FG,k1]
   simp only
   split at hx
   ·rename_i e2 h3 tr2 hx2
    cases hx
    obtain ⟨e1',h1',g1,g2,g3⟩:=Rb hz hcf hlo ho.2 (VX he _ k2) k3 hx2
    rw [g1]
    have hr:=Ud he ho.1
    refine ⟨_,_,?_,g2,g3⟩
    simp only [Q9,List.map_cons,mQ hr,lE hr]
   ·cases hx
  ·cases hx
theorem OD {e e':BF} (he:L2 (ShV k) e e') (hh:ShH k g h h'):∀{rs:List ResultVar} {vs:List Value},Db C e h rs=some vs→∃vs',Db C e' h' rs=some vs'∧L2 (ShB k) vs vs'
 |[],vs,hx=>by cases hx;exact ⟨[],rfl,L2.nil⟩
 |r::rs,vs,hx=>by
  simp only [Db] at hx ⊢
  split at hx
  ·rename_i v vs1 h1 h2
   obtain ⟨vs',g1,g2⟩:=OD he hh h2
   have key:∃v',LK C e' h' r=some v'∧ShV k v v':=by
    cases r with
    |tmp t=>cases h1;exact ⟨_,rfl,QZ he t⟩
    |cell a t=>exact Vo hh (QZ he a) v h1
   obtain ⟨v',g3,g4⟩:=key
   split at hx
   ·cases hx
   ·rename_i ht
    cases hx
    have hb:ShB k v v':=by
     rcases g4.inv with g4|⟨xs,ys,rfl,rfl,hl⟩|⟨xs,ys,rfl,rfl,hl⟩
     ·exact .cell g4
     ·exact .agg hl
     ·exact absurd rfl ht
    have ht':=(g4.cl (by simpa using ht)).1
    rw [g3,g1]
    simp only
    rw [if_neg (by rw [ht'];simp)]
    exact ⟨_,rfl,g2.cons hb⟩
  ·cases hx
theorem jR {vs vs':List Value} (hl:L2 (ShB k) vs vs'):ShV k (one vs) (one vs'):=by
 unfold one
 cases vs with
 |nil=>cases vs' with
  |nil=>exact .tup L2.nil
  |cons _ _=>exact absurd hl.1 (by simp)
 |cons a vs=>cases vs' with
  |nil=>exact absurd hl.1 (by simp)
  |cons b vs'=>
   cases vs with
   |nil=>cases vs' with
    |nil=>exact .b hl.head
    |cons _ _=>exact absurd hl.1 (by simp)
   |cons c vs=>cases vs' with
    |nil=>exact absurd hl.1 (by simp)
    |cons d vs'=>exact .tup hl
def gP (C:Cx) (k:Nat) (g:H) (run:Nat→Code→BF→H→Option (X×BF×H)):Prop:=∀(lo lo':Nat) (c:Code) (e e':BF) (h h':H) (x:X) (e1:BF) (h1:H),run lo c e h=some (x,e1,h1)→DF C.P c=true→lo'≤lo+k→L2 (ShV k) e e'→ShH k g h h'→
  ∃e1' h1',run lo' c e' h'=some (x,e1',h1')∧L2 (ShV k) e1 e1'∧ShH k g h1 h1'
theorem Wg (G : Good C) (T : RH C) {run : Nat → Code → BF → H → Option (X × BF × H)} (hr : gP C k g run) : Qq k g (Ei C run) := by
  intro lo lo' f args args' h h' v h1 hx hlo ha hh
  unfold Ei at hx ⊢
  split at hx
  · rename_i tg ht
    exact T f tg ht k g lo lo' args args' h h' v h1 hx hlo ha hh
  · rename_i ht
    split at hx
    · rename_i hf
      split at hx
      · cases hx
      · rename_i fn hfn
        split at hx
        · cases hx
        · rename_i c hb
          have hok : DF C.P c = true := by
            have h2 := G.fns f fn (Nat.le_of_ble_eq_true hf) ht (by rw [Cf] at hfn; simpa using hfn)
            unfold W2 at h2
            rw [hb] at h2
            simp only [Bool.and_eq_true] at h2
            exact h2.1
          have hargs : L2 (ShV k) (args ++ List.replicate (fn.ntmps - args.length) undef) (args' ++ List.replicate (fn.ntmps - args'.length) undef) := by
            rw [← ha.1]
            refine ha.append ⟨rfl, fun i a b h1 h2 => ?_⟩
            rw [List.getElem?_replicate] at h1 h2
            split at h1
            · rename_i hi; rw [if_pos hi] at h2; cases h1; cases h2; exact .undef
            · cases h1
          split at hx
          all_goals
            first
            | (rename_i e1 h2 hrun
               obtain ⟨e1', h2', g1, g2, g3⟩ := hr _ lo' c _ _ _ _ _ _ _ hrun hok hlo hargs hh
               simp only [g1]
               split at hx
               · rename_i vs hvs
                 cases hx
                 obtain ⟨vs', g4, g5⟩ := OD (C := C) g2 g3 hvs
                 simp only [g4]
                 exact ⟨_, _, rfl, jR g5, g3⟩
               · cases hx)
            | cases hx
    · cases hx
theorem X3 (G:Good C) (T:RH C):∀n,gP C k g (ex C n)
 |0=>fun lo lo' c e e' h h' x e1 h1 hx=>by rw [F7] at hx;cases hx
 |n+1=>by
  have ih:=X3 G T n
  have hcall:=Wg G T ih
  intro lo lo' c e e' h h' x e1 h1 hx hok hlo he hh
  rw [Cg] at hx ⊢
  unfold H2 at hx ⊢
  cases c<;>simp only at hx ⊢<;>try (cases hx;done)
  case skip=>cases hx;exact ⟨_,_,rfl,he,hh⟩
  case exit id=>cases hx;exact ⟨_,_,rfl,he,hh⟩
  case ret=>cases hx;exact ⟨_,_,rfl,he,hh⟩
  case region id ops draw=>
   simp only [DF,V0,Bool.and_eq_true] at hok
   unfold D9 at hx ⊢
   cases draw with
   |false=>
    simp only at hx ⊢
    split at hx
    ·rename_i e2 h2 hops
     cases hx
     obtain ⟨e1',h1',g1,g2,g3⟩:=Wj G.zeros hcall hlo hok.1 he hh hops
     rw [g1];exact ⟨_,_,rfl,g2,g3⟩
    ·cases hx
   |true=>
    simp only at hx ⊢
    split at hx
    ·rename_i e2 h2 tr hops
     split at hx
     ·rename_i hot
      cases hx
      obtain ⟨e1',h1',g1,g2,g3⟩:=Rb G.zeros hcall hlo hok.1 he hh hops
      rw [g1]
      simp only [Up]
      rw [if_pos hot]
      exact ⟨_,_,rfl,g2,g3⟩
     ·cases hx
    ·cases hx
  case seq a b=>
   simp only [DF,Bool.and_eq_true] at hok
   unfold Gn at hx
   split at hx
   ·rename_i e2 h2 ha
    obtain ⟨e2',h2',g1,g2,g3⟩:=ih lo lo' a e e' h h' _ _ _ ha hok.1 hlo he hh
    rw [g1]
    exact ih lo lo' b _ _ _ _ x e1 h1 hx hok.2 hlo g2 g3
   ·rename_i hne
    obtain ⟨e2',h2',g1,g2,g3⟩:=ih lo lo' a e e' h h' _ _ _ hx hok.1 hlo he hh
    rw [g1]
    refine ⟨e2',h2',?_,g2,g3⟩
    cases x with
    |normal=>exact absurd hx (hne e1 h1)
    |exit i=>rfl
    |ret=>rfl
  case cond t a b=>
   simp only [DF,Bool.and_eq_true] at hok
   have ht:=gJ he hok.1.1
   unfold I2 at hx
   split at hx
   ·rename_i hv
    rw [hv] at ht
    rw [ht.dryE rfl]
    exact ih lo lo' a e e' h h' x e1 h1 hx hok.1.2 hlo he hh
   ·rename_i hv
    rw [hv] at ht
    rw [ht.dryE rfl]
    exact ih lo lo' b e e' h h' x e1 h1 hx hok.2 hlo he hh
   ·cases hx
  case block id c=>
   simp only [DF] at hok
   unfold Do at hx
   split at hx
   ·rename_i i e2 h2 ha
    obtain ⟨e2',h2',g1,g2,g3⟩:=ih lo lo' c e e' h h' _ _ _ ha hok hlo he hh
    rw [g1]
    unfold Do
    simp only
    split at hx
    ·rename_i hi;cases hx;exact ⟨_,_,rfl,g2,g3⟩
    ·rename_i hi;cases hx;exact ⟨_,_,rfl,g2,g3⟩
   ·rename_i hne
    obtain ⟨e2',h2',g1,g2,g3⟩:=ih lo lo' c e e' h h' _ _ _ hx hok hlo he hh
    rw [g1]
    refine ⟨e2',h2',?_,g2,g3⟩
    cases x with
    |normal=>rfl
    |exit i=>exact absurd hx (hne i e1 h1)
    |ret=>rfl
  case loop c=>
   have hok':DF C.P c=true:=hok
   unfold Gn at hx
   split at hx
   ·rename_i e2 h2 ha
    obtain ⟨e2',h2',g1,g2,g3⟩:=ih lo lo' c e e' h h' _ _ _ ha hok' hlo he hh
    rw [g1]
    exact ih lo lo' (.loop c) _ _ _ _ x e1 h1 hx hok hlo g2 g3
   ·rename_i hne
    obtain ⟨e2',h2',g1,g2,g3⟩:=ih lo lo' c e e' h h' _ _ _ hx hok' hlo he hh
    rw [g1]
    refine ⟨e2',h2',?_,g2,g3⟩
    cases x with
    |normal=>exact absurd hx (hne e1 h1)
    |exit i=>rfl
    |ret=>rfl
end
end Go.Vx
