/- Texts joined: VyC4 VzW0 VyW0 VyN3 VyN4 VzBa VzBb VzBc VzBd VyLj. -/
import Derived.Test.YtmbonddknackiaaVm41
import Derived.Test.YtmbonddknackiaaVm38
import Derived.Test.YtmbonddknackiaaVm40
set_option linter.unusedSimpArgs false
set_option linter.unusedVariables false
section
open Go Go.Vx Go.Proofs
set_option maxRecDepth 10000
set_option maxHeartbeats 4000000
namespace Go.Vx.Seat
attribute [local irreducible] Rg Rt Ro Ri Rc Ds Dt Dw Dx Rw Rl Rd Av An kf
def Bv (ts:List Tok) (i:Nat):Int:=match ts[i]? with|some t=>t.kind|none=>0
theorem B6 {ts:List Tok} {i:Nat} {t:Tok} (h:ts[i]?=some t):Bv ts i=t.kind:=by rw [Bv,h]
def kG (ts:List Tok) (i:Nat):Bool:=Fk (Bv ts i)&&Ci (AX ts i)
def back (ts:List Tok):Nat→Nat→Nat→Nat×Nat
 |0,a,b=>(a,b)
 |n+1,a,b=>if kG ts n=true then (a,b) else if BK (Bv ts n)=true then back ts n a b else if Bv ts n=1 then back ts n (a+1) b else back ts n a (b+1)
end Go.Vx.Seat
end
section
open Go Go.Vx Go.Proofs
namespace Go.Vx.Seat
def Ew (s:ByteArray) (f:Int):Tok:=⟨13,s,⟨#[]⟩,false,⟨#[]⟩,⟨#[]⟩,false,false,0,0,0,0,f⟩
def kp (t:Tok):Bool:=AJ t.kind 25&&Ia t.text
def EV (ts:List Tok) (i:Nat):Nat→List Tok
 |0=>[]
 |m+1=>EV ts i m++(match ts[i+m]? with|some t=>(if kp t then [t] else [])|none=>[])
def Bn (ts:List Tok) (i:Nat):Nat→Option Nat
 |0=>none
 |m+1=>match Bn ts i m with
  |some k=>some k
  |none=>match ts[i+m]? with|some t=>(if AJ t.kind 13 then some (i+m) else none)|none=>none
def Ix (ts:List Tok) (n:Nat):Int:=match ts[n]? with|some t=>t.start|none=>0
def Ht (ts:List Tok):Nat→Bool
 |0=>false
 |j+1=>match ts[j]? with|some t=>Cd t|none=>false
def LS (ts:List Tok) (cols:List Int):Nat→Bool
 |0=>true
 |j+1=>fE ts cols j
def BY (ts:List Tok) (cols:List Int) (i k:Nat):List Tok:=
 match Bn ts i (k - i) with
 |none=>EV ts i (k - i)
 |some n=>if Ht ts i then Ew ⟨#[10]⟩ (Ix ts n)::EV ts i (k - i)
  else if LS ts cols i||K3 ts cols k then EV ts i (k - i) else EV ts i (k - i)++[Ew ⟨#[32]⟩ (Ix ts n)]
def Mu (ts:List Tok):Nat→Nat→Nat
 |0,k=>k
 |d+1,k=>if BK (Bv ts k) then Mu ts d (k+1) else k
theorem RL (ts:List Tok):∀d k,k≤Mu ts d k∧Mu ts d k≤k+d
 |0,k=>by simp [Mu]
 |d+1,k=>by
  have:=RL ts d (k+1)
  unfold Mu
  split<;>omega
def Jo (ts:List Tok) (cols:List Int) (i:Nat):List Tok:=
 if h:i<ts.length then
  (if BK (Bv ts i) then BY ts cols i (Mu ts (ts.length - (i+1)) (i+1))++Jo ts cols (Mu ts (ts.length - (i+1)) (i+1)) else ts[i]::Jo ts cols (i+1))
 else []
termination_by ts.length - i
decreasing_by
 all_goals first|(have:=RL ts (ts.length - (i+1)) (i+1);omega)|omega
theorem Kn {ts:List Tok} {cols:List Int} {i:Nat} (h:ts.length≤i):Jo ts cols i=[]:=by rw [Jo,dif_neg (by omega)]
theorem TZ {ts:List Tok} {cols:List Int} {i:Nat} {t:Tok} (h:ts[i]?=some t) (hq:BK t.kind=false):Jo ts cols i=t::Jo ts cols (i+1):=by
 obtain ⟨hl,he⟩:=List.getElem?_eq_some_iff.mp h
 rw [Jo,dif_pos hl,if_neg (by rw [B6 h,hq];simp),he]
theorem Vf {ts:List Tok}:∀{d k n:Nat},(∀j,k≤j→j<n→BK (Bv ts j)=true)→k≤n→n≤k+d→(n=k+d∨BK (Bv ts n)=false)→Mu ts d k=n
 |0,k,n,_,h1,h2,_=>by simp [Mu];omega
 |d+1,k,n,hq,h1,h2,h3=>by
  unfold Mu
  by_cases e:k=n
  ·subst e
   rcases h3 with h3|h3
   ·omega
   ·rw [if_neg (by rw [h3];simp)]
  ·rw [if_pos (hq k (Nat.le_refl _) (by omega))]
   exact Vf (fun j hj=>hq j (by omega)) (by omega) (by omega) (by rcases h3 with h3|h3;exact .inl (by omega);exact .inr h3)
theorem OV {ts:List Tok} {cols:List Int} {i m:Nat} (hm:0<m) (hl:i+m≤ts.length) (hq:∀j,j<m→BK (Bv ts (i+j))=true) (he:i+m=ts.length∨BK (Bv ts (i+m))=false):
  Jo ts cols i=BY ts cols i (i+m)++Jo ts cols (i+m):=by
 have h1:Mu ts (ts.length - (i+1)) (i+1)=i+m:=Vf (fun j h1 h2=>by have:=hq (j - i) (by omega);rwa [show i+(j - i)=j by omega] at this) (by omega) (by omega) (by rcases he with he|he;exact .inl (by omega);exact .inr he)
 rw [Jo,dif_pos (by omega),if_pos (by have:=hq 0 hm;simpa using this),h1]
theorem Ib (ts:List Tok) (i:Nat):∀m,(EV ts i m).length+(match Bn ts i m with|some _=>1|none=>0)≤m
 |0=>by simp [EV,Bn]
 |m+1=>by
  have ih:=Ib ts i m
  simp only [EV,Bn,List.length_append]
  cases h:ts[i+m]? with
  |none=>
   simp only [List.length_nil]
   cases hs:Bn ts i m with
   |none=>rw [hs] at ih;simp only at ih ⊢;omega
   |some k=>rw [hs] at ih;simp only at ih ⊢;omega
  |some t=>
   simp only
   by_cases k1:kp t
   ·have h25:AJ t.kind 13=false:=by
     simp only [kp,Bool.and_eq_true] at k1
     have h1:=k1.1
     rw [BN,decide_eq_true_eq] at h1
     exact AF (by omega)
    rw [if_pos k1,h25]
    simp only [List.length_singleton]
    cases hs:Bn ts i m with
    |none=>rw [hs] at ih;simp at ih ⊢;omega
    |some k=>rw [hs] at ih;simp only at ih ⊢;omega
   ·rw [if_neg k1]
    simp only [List.length_nil]
    cases hs:Bn ts i m with
    |none=>rw [hs] at ih;simp only at ih ⊢;split<;>first|omega|(simp_all;omega)|simp_all
    |some k=>rw [hs] at ih;simp only at ih ⊢;omega
theorem RJ (ts:List Tok) (i m:Nat):(EV ts i m).length≤m:=by have:=Ib ts i m;omega
theorem EQ (a b:Nat) (ha:a≤400000000) (hb:b≤400000000):(a+b)*128≤70368744177664:=by omega
theorem Oj {ts:List Tok} {i:Nat}:∀{m n:Nat},Bn ts i m=some n→i≤n∧n<i+m∧n<ts.length∧Bv ts n=13
 |0,n,h=>by cases h
 |m+1,n,h=>by
  unfold Bn at h
  split at h
  ·rename_i k hk
   cases h
   have:=Oj hk
   exact ⟨by omega,by omega,this.2.2⟩
  ·split at h
   ·rename_i t ht
    split at h
    ·rename_i hq
     cases h
     have:=(List.getElem?_eq_some_iff.mp ht).1
     rw [BN,decide_eq_true_eq] at hq
     exact ⟨by omega,by omega,this,by rw [B6 ht,hq]⟩
    ·cases h
   ·cases h
def Qe:Option Nat→Int
 |none=> -1
 |some n=>(n:Nat)
end Go.Vx.Seat
end
section
end
section
open Go Go.Vx Go.Proofs
namespace Go.Vx.Seat
def W3 (x:Rn):Rn:=⟨x.r,0⟩
theorem lJ (x:Rn):(W3 x).r=x.r:=rfl
def A4 (t:Tok):Tok:={t with start:=0}
theorem dS (x:Rn) (r:List Rn) {T:Tok×List Rn} (h:Ak (W3 x::r)=T):BO (W3 x::r)=A4 T.1::BO T.2:=by rw [Eq,h];rfl
theorem Xq:∀(n:Nat) (l:List Rn),l.length≤n→BO (l.map W3)=(BO l).map A4:=by
 intro n
 induction n with
 |zero=>intro l h;have:l=[]:=List.eq_nil_of_length_eq_zero (by omega);subst this;rw [C9];exact C9
 |succ n ih=>
  intro l h
  cases l with
  |nil=>rw [C9];exact C9
  |cons x r=>
   have h1:=j5 (f:=W3) (t:=[]) lJ (x:=x) (r:=r) (.inl rfl)
   have e:J W3 [] (x::r)=W3 x::(r.map W3):=by simp [J]
   have e2:J W3 [] (Ak (x::r)).2=(Ak (x::r)).2.map W3:=by simp [J]
   rw [e,e2] at h1
   rw [List.map_cons,dS x _ h1,Eq,List.map_cons,ih _ (by have:=LT x r;simp only [List.length_cons] at this h;omega)]
   rfl
theorem Tc {l:List Rn} {c:UInt8} {cs:List UInt8} (h:AJ (hd l) (c.toNat:Nat)=false):Ay l (c::cs)=false:=by rw [Ay,h];rfl
theorem Kz {r:Int} (h:Ad r=true):r=32∨r=9∨r=10:=by
 simp only [Ad,Bool.or_eq_true] at h
 rcases h with (h|h)|h
 ·exact .inl (AQ h)
 ·exact .inr (.inl (AQ h))
 ·exact .inr (.inr (AQ h))
theorem Jg {x:Rn} (r:List Rn) (h:Ad x.r=true):Ak (x::r)=(AM 13 (if AJ x.r 10 then ⟨#[10]⟩ else ⟨#[32]⟩),Aq r):=by
 have hh:hd (x::r)=x.r:=rfl
 have q1:Ay (x::r) (AA ⟨#[47,42]⟩)=false:=Tc (c:=47) (cs:=[42]) (by rw [hh];rcases Kz h with e|e|e<;>(rw [e];decide))
 have q2:Aq (x::r)=Aq r:=Ff h
 unfold Ak
 rw [q1,hh,h,q2]
 simp only [Bool.false_eq_true,if_false,if_true]
theorem Jl (r:Int):(Ao r).length≤4:=(Bj r).2
theorem Ln:∀(n:Nat) (l:List Rn),l.length≤n→(AT l).1.length+4*(AT l).2.length≤4*l.length:=by
 intro n
 induction n with
 |zero=>intro l h;have:l=[]:=List.eq_nil_of_length_eq_zero (by omega);subst this;rw [BU];simp
 |succ n ih=>
  intro l h
  cases l with
  |nil=>rw [BU];simp
  |cons x r=>
   have hr:r.length≤n:=by simpa using h
   cases h1:DB x.r with
   |true=>rw [BM h1];have:=ih r hr;have:=Jl x.r;simp only [List.length_append,List.length_cons];omega
   |false=>
    cases h2:esc0 (x::r) with
    |true=>rw [Cj h1 h2];have h3:=CT r;have:=ih _ (show (BZ r).2.length≤n by omega);have:=Jl (BZ r).1;simp only [List.length_append,List.length_cons];omega
    |false=>rw [Cw h1 h2];simp
theorem Sk (q:Int):∀(n:Nat) (l:List Rn),l.length≤n→(quotedF q l).1.length+4*(quotedF q l).2.2.length≤4*l.length:=by
 intro n
 induction n with
 |zero=>intro l h;have:l=[]:=List.eq_nil_of_length_eq_zero (by omega);subst this;rw [B5];simp
 |succ n ih=>
  intro l h
  cases l with
  |nil=>rw [B5];simp
  |cons x r=>
   have hr:r.length≤n:=by simpa using h
   cases h1:AJ x.r q with
   |true=>rw [DX h1];simp;omega
   |false=>
    cases h2:AJ x.r 10 with
    |true=>rw [FL h1 h2];simp
    |false=>
     cases h3:AJ x.r 92 with
     |false=>rw [DG h1 h2 h3];have:=ih r hr;have:=Jl x.r;simp only [List.length_append,List.length_cons];omega
     |true=>
      cases r with
      |nil=>rw [EL h1 h2 h3];simp
      |cons y r'=>
       cases h4:AJ y.r 10 with
       |true=>rw [Dh h1 h2 h3 h4];have:=ih r' (by simp at hr;omega);simp only [List.length_cons];omega
       |false=>rw [DW h1 h2 h3 h4];have h3:=CT (y::r');have:=ih _ (show (BZ (y::r')).2.length≤n by omega);have:=Jl (BZ (y::r')).1;simp only [List.length_append,List.length_cons] at h3 ⊢;omega
theorem Y3:∀(n:Nat) (l:List Rn),l.length≤n→∀bs,(urlF l).1=some bs→bs.length≤4*l.length:=by
 intro n
 induction n with
 |zero=>intro l h bs hb;have:l=[]:=List.eq_nil_of_length_eq_zero (by omega);subst this;rw [Dc] at hb;cases hb;simp
 |succ n ih=>
  intro l h bs hb
  cases l with
  |nil=>rw [Dc] at hb;cases hb;simp
  |cons x r=>
   have hr:r.length≤n:=by simpa using h
   cases h1:AJ x.r 41 with
   |true=>rw [Er h1] at hb;cases hb;simp
   |false=>
    cases h2:Ad x.r with
    |true=>
     cases h3:Aq r with
     |nil=>rw [He h1 h2 h3] at hb;cases hb;simp
     |cons y r'=>
      cases h4:AJ y.r 41 with
      |true=>rw [HX h1 h2 h3 h4] at hb;cases hb;simp
      |false=>rw [Hb h1 h2 h3 h4] at hb;cases hb
    |false=>
     cases h3:Bo x r with
     |true=>rw [DN h1 h2 h3] at hb;cases hb
     |false=>
      cases h4:AJ x.r 92 with
      |true=>
       rw [Fe h1 h2 h3 h4] at hb
       simp only [Option.map_eq_some_iff] at hb
       obtain ⟨cs,hc,rfl⟩:=hb
       have h5:=CT r
       have:=ih _ (show (BZ r).2.length≤n by omega) cs hc
       have:=Jl (BZ r).1
       simp only [List.length_append,List.length_cons];omega
      |false=>
       rw [Eb h1 h2 h3 h4] at hb
       simp only [Option.map_eq_some_iff] at hb
       obtain ⟨cs,hc,rfl⟩:=hb
       have:=ih r hr cs hc
       have:=Jl x.r
       simp only [List.length_append,List.length_cons];omega
theorem P6:∀l:List Rn,(Bc l).1.length≤l.length
 |[]=>by simp [Bc]
 |x::r=>by
  unfold Bc
  split
  ·simp
  ·have:=P6 r;simp only [List.length_cons];omega
theorem aX (l r:List Rn):(used l r).length≤l.length:=by rw [used,List.length_take];omega
theorem P2 (l r:List Rn):(AA (AO (A9 (used l r)))).length≤4*l.length:=by
 rw [AW];have:=En (used l r);have:=aX l r;omega
theorem Xf {g s:List Rn} (h:s<:+g):(AA (D7 g s).1.text).length≤4*g.length:=by
 unfold D7
 rcases hu:urlF (Aq s) with ⟨o,r⟩
 cases o with
 |none=>exact P2 g r
 |some bs=>
  show (AA (AO bs)).length≤_
  rw [AW]
  have:=Y3 _ (Aq s) (Nat.le_refl _) bs (by rw [hu])
  have:=XC s
  have:=h.length_le
  omega
theorem SE (l:List Rn):(AA (BG l).1.text).length≤4*l.length:=by
 have h1:=Ln _ l (Nat.le_refl _)
 have h2:(AA (AO (AT l).1)).length≤4*l.length:=by rw [AW];omega
 unfold BG
 refine AZ (p:=fun q:Tok×List Rn=>(AA q.1.text).length≤4*l.length) (fun _=>?_) fun _=>h2
 refine AZ (p:=fun q:Tok×List Rn=>(AA q.1.text).length≤4*l.length) (fun _=>?_) fun _=>h2
 exact Xf ((List.drop_suffix 1 _).trans (Df _ _ (Nat.le_refl _)))
theorem MX (x:Rn) (r:List Rn):(AA (CH (x::r)).1.text).length≤4*(x::r).length:=by
 unfold CH
 show (AA (ite _ _ _:Tok).text).length≤_
 refine AZ (p:=fun q:Tok=>(AA q.text).length≤4*(x::r).length) (fun _=>P2 _ _) fun _=>?_
 show (AA (AO _)).length≤_
 rw [AW]
 have:=Sk x.r _ r (Nat.le_refl _)
 show (quotedF x.r r).1.length≤_
 simp only [List.length_cons];omega
theorem XK (l:List Rn):(AA (E8 l).1.text).length=0:=by
 unfold E8 EP
 refine AZ (p:=fun q:Tok×List Rn=>(AA q.1.text).length=0) (fun _=>rfl) fun _=>?_
 exact AZ (p:=fun q:Tok×List Rn=>(AA q.1.text).length=0) (fun _=>rfl) fun _=>rfl
theorem QK (x:Rn) (r:List Rn):(AA (Ak (x::r)).1.text).length≤4*(x::r).length:=by
 have h0:∀k,(AA (AM k ⟨#[]⟩).text).length≤4*(x::r).length:=fun k=>by show 0≤_;omega
 unfold Ak
 refine AZ (p:=fun q:Tok×List Rn=>(AA q.1.text).length≤4*(x::r).length) (fun _=>?_) fun _=>?_
 ·show (AA (AO _)).length≤_
  rw [AW]
  have h1:=En (Bc ((x::r).drop 2)).1
  have h2:=P6 ((x::r).drop 2)
  have h3:((x::r).drop 2).length≤(x::r).length:=by rw [List.length_drop];omega
  omega
 refine AZ (p:=fun q:Tok×List Rn=>(AA q.1.text).length≤4*(x::r).length) (fun _=>?_) fun _=>?_
 ·refine AZ (p:=fun q:ByteArray=>(AA q).length≤4*(x::r).length) (fun _=>?_) fun _=>?_
  ·show 1≤_;simp only [List.length_cons];omega
  ·show 1≤_;simp only [List.length_cons];omega
 refine AZ (p:=fun q:Tok×List Rn=>(AA q.1.text).length≤4*(x::r).length) (fun _=>MX x r) fun _=>?_
 refine AZ (p:=fun q:Tok×List Rn=>(AA q.1.text).length≤4*(x::r).length) (fun _=>MX x r) fun _=>?_
 have htk:(AA (AO (AT ((x::r).drop 1)).1)).length≤4*(x::r).length:=by
  rw [AW]
  have:=Ln _ r (Nat.le_refl _)
  show (AT r).1.length≤_
  simp only [List.length_cons];omega
 refine AZ (p:=fun q:Tok×List Rn=>(AA q.1.text).length≤4*(x::r).length) (fun _=>htk) fun _=>?_
 refine AZ (p:=fun q:Tok×List Rn=>(AA q.1.text).length≤4*(x::r).length) (fun _=>by rw [XK];omega) fun _=>?_
 refine AZ (p:=fun q:Tok×List Rn=>(AA q.1.text).length≤4*(x::r).length) (fun _=>h0 15) fun _=>?_
 refine AZ (p:=fun q:Tok×List Rn=>(AA q.1.text).length≤4*(x::r).length) (fun _=>h0 14) fun _=>?_
 refine AZ (p:=fun q:Tok×List Rn=>(AA q.1.text).length≤4*(x::r).length) (fun _=>SE _) fun _=>?_
 refine AZ (p:=fun q:Tok×List Rn=>(AA q.1.text).length≤4*(x::r).length) (fun _=>htk) fun _=>?_
 refine AZ (p:=fun q:Tok×List Rn=>(AA q.1.text).length≤4*(x::r).length) (fun _=>?_) fun _=>h0 _
 show (AA (AO _)).length≤_
 rw [AW]
 have:=En ((x::r).take 1)
 have:((x::r).take 1).length=1:=rfl
 simp only [List.length_cons];omega
theorem Di:∀(n:Nat) (l:List Rn),l.length≤n→(BO l).length≤l.length∧∀t,t∈BO l→(AA t.text).length≤4*n:=by
 intro n
 induction n with
 |zero=>intro l h;have:l=[]:=List.eq_nil_of_length_eq_zero (by omega);subst this;rw [C9];exact ⟨by simp,fun t ht=>by simp at ht⟩
 |succ n ih=>
  intro l h
  cases l with
  |nil=>rw [C9];exact ⟨by simp,fun t ht=>by simp at ht⟩
  |cons x r=>
   have hlt:=LT x r
   obtain ⟨i1,i2⟩:=ih (Ak (x::r)).2 (by simp only [List.length_cons] at hlt h;omega)
   rw [Eq]
   refine ⟨by simp only [List.length_cons] at hlt h ⊢;omega,fun t ht=>?_⟩
   rcases List.mem_cons.mp ht with rfl|ht
   ·have:=QK x r
    show (AA (Ak (x::r)).1.text).length≤_
    omega
   ·have:=i2 t ht;omega
end Go.Vx.Seat
end
section
open Go Go.Vx Go.Proofs
namespace Go.Vx.Seat
theorem ZL (r:List Int):PD r<:+r:=by
 unfold PD
 split
 ·split
  ·exact List.suffix_cons _ _
  ·exact List.suffix_refl _
 ·exact List.suffix_refl _
theorem XP (x:Int) (r:List Int):(EM x r).2<:+r:=by
 unfold EM
 refine AZ (p:=fun q:Int×List Int=>q.2<:+r) (fun _=>List.suffix_refl _) fun _=>?_
 refine AZ (p:=fun q:Int×List Int=>q.2<:+r) (fun _=>List.suffix_refl _) fun _=>?_
 exact AZ (p:=fun q:Int×List Int=>q.2<:+r) (fun _=>ZL r) fun _=>List.suffix_refl _
def Ii (c:Int) (r:List Int):Int×List Int:=EM (Bb c r).1 (r.drop ((Bb c r).2 - 1))
theorem Lx (c:Int) (r:List Int):(Ii c r).2<:+r:=(XP _ _).trans (List.drop_suffix _ _)
theorem JX (pos:Nat) (c:Int) (r:List Int):BI pos (c::r)=⟨(Ii c r).1,(pos:Nat)⟩::BI (pos+((c::r).length - (Ii c r).2.length)) (Ii c r).2:=by rw [BI];rfl
theorem CN:∀(n:Nat) (bs:List Int),bs.length≤n→∀pos,(BI pos bs).length≤bs.length:=by
 intro n
 induction n with
 |zero=>intro bs h pos;have:bs=[]:=List.eq_nil_of_length_eq_zero (by omega);subst this;rw [EB];simp
 |succ n ih=>
  intro bs h pos
  cases bs with
  |nil=>rw [EB];simp
  |cons c r=>
   have h1:=(Lx c r).length_le
   have hr:r.length≤n:=by simpa using h
   rw [JX]
   have:=ih (Ii c r).2 (by omega) (pos+((c::r).length - (Ii c r).2.length))
   simp only [List.length_cons] at this ⊢;omega
def RS (bs:List Int):List Rn:=(BI 0 bs).map W3
theorem jF:∀(n:Nat) (bs:List Int),bs.length≤n→∀p q,(BI p bs).map W3=(BI q bs).map W3:=by
 intro n
 induction n with
 |zero=>intro bs h p q;have:bs=[]:=List.eq_nil_of_length_eq_zero (by omega);subst this;rw [EB,EB]
 |succ n ih=>
  intro bs h p q
  cases bs with
  |nil=>rw [EB,EB]
  |cons c r=>
   have h1:=(Lx c r).length_le
   have hr:r.length≤n:=by simpa using h
   rw [JX,JX,List.map_cons,List.map_cons,ih (Ii c r).2 (by omega) _ (q+((c::r).length - (Ii c r).2.length))]
   rfl
theorem Uq:RS []=[]:=by rw [RS,EB];rfl
theorem Wd (c:Int) (r:List Int):RS (c::r)=⟨(Ii c r).1,0⟩::RS (Ii c r).2:=by
 rw [RS,JX,List.map_cons,jF _ _ (Nat.le_refl _) _ 0];rfl
end Go.Vx.Seat
end
section
open Go Go.Vx Go.Proofs
namespace Go.Vx.Seat
theorem E0 {n:Nat} {p:Nat→Prop} [DecidablePred p] (h:∀i:Fin n,p i.val) (x:Nat) (hx:x<n):p x:=h ⟨x,hx⟩
theorem Lj (x:Nat) (h:x<64):tl ((128+x:Nat):Int)=true∧tv ((128+x:Nat):Int)=(x:Nat):=
 E0 (n:=64) (p:=fun x=>tl ((128+x:Nat):Int)=true∧tv ((128+x:Nat):Int)=(x:Nat)) (by decide+kernel) x h
theorem Ph (x:Nat) (h:x<64):AG .u8 (JP 128 (x:Nat))=((128+x:Nat):Int):=
 E0 (n:=64) (p:=fun x=>AG .u8 (JP 128 (x:Nat))=((128+x:Nat):Int)) (by decide+kernel) x h
theorem lZ (x:Nat) (h:x<32):AG .u8 (JP 192 (x:Nat))=((192+x:Nat):Int)∧Ck (AG .i64 ((192+x:Nat):Int)) 31=(x:Nat):=
 E0 (n:=32) (p:=fun x=>AG .u8 (JP 192 (x:Nat))=((192+x:Nat):Int)∧Ck (AG .i64 ((192+x:Nat):Int)) 31=(x:Nat)) (by decide+kernel) x h
theorem l8 (x:Nat) (h:x<16):AG .u8 (JP 224 (x:Nat))=((224+x:Nat):Int)∧Ck (AG .i64 ((224+x:Nat):Int)) 15=(x:Nat):=
 E0 (n:=16) (p:=fun x=>AG .u8 (JP 224 (x:Nat))=((224+x:Nat):Int)∧Ck (AG .i64 ((224+x:Nat):Int)) 15=(x:Nat)) (by decide+kernel) x h
theorem l7 (x:Nat) (h:x<8):AG .u8 (JP 240 (x:Nat))=((240+x:Nat):Int)∧Ck (AG .i64 ((240+x:Nat):Int)) 7=(x:Nat):=
 E0 (n:=8) (p:=fun x=>AG .u8 (JP 240 (x:Nat))=((240+x:Nat):Int)∧Ck (AG .i64 ((240+x:Nat):Int)) 7=(x:Nat)) (by decide+kernel) x h
theorem fF (x:Nat) (h:x<9223372036854775808):IntKind.wrap .i64 ((x:Nat):Int)=(x:Nat):=by rw [IntKind.wrap_i64];omega
theorem kL (x:Nat) (h:x<18446744073709551616):(BitVec.ofInt IntKind.i64.bits (x:Nat)).toNat=x:=by
 show (BitVec.ofInt 64 (x:Nat)).toNat=x
 rw [BitVec.toNat_ofInt];omega
theorem Pr (x:Nat) (h:x<4294967296):Ck (x:Nat) 63=((x % 64:Nat):Int):=by
 unfold Ck
 rw [BitVec.toNat_and,kL x (by omega),show (63:Int)=((63:Nat):Int) from rfl,kL 63 (by omega),show (63:Nat)=2 ^ 6 - 1 from rfl,Nat.and_two_pow_sub_one_eq_mod]
 exact fF _ (by omega)
theorem Vj (x k:Nat) (h:k≤64):FF (x:Nat) (k:Nat)=((x / 2 ^ k:Nat):Int):=by
 unfold FF
 have e:min ((k:Nat):Int).toNat IntKind.i64.bits=k:=by show min _ 64=k;simp;omega
 rw [e]
 have:((2:Int) ^ k)=((2 ^ k:Nat):Int):=by simp
 rw [this,Int.fdiv_eq_ediv_of_nonneg _ (Int.natCast_nonneg _)];rfl
theorem nV (x:Nat):FF (x:Nat) 6=((x / 64:Nat):Int):=Vj x 6 (by omega)
theorem mO (x:Nat):FF (x:Nat) 12=((x / 4096:Nat):Int):=Vj x 12 (by omega)
theorem nU (x:Nat):FF (x:Nat) 18=((x / 262144:Nat):Int):=Vj x 18 (by omega)
theorem Px (x y:Nat) (hx:x<4294967296) (hy:y<64):JP (PB (x:Nat)) (y:Nat)=((64*x+y:Nat):Int):=by
 have e:PB (x:Nat)=((64*x:Nat):Int):=by
  unfold PB
  rw [show min (6:Int).toNat IntKind.i64.bits=6 from rfl,show ((x:Nat):Int)*2 ^ 6=((64*x:Nat):Int) by omega]
  exact fF _ (by omega)
 rw [e]
 unfold JP
 rw [BitVec.toNat_or,kL _ (by omega),kL y (by omega),show 64*x=x<<<6 by rw [Nat.shiftLeft_eq];omega,←Nat.shiftLeft_add_eq_or_of_lt (by omega:y<2 ^ 6),Nat.shiftLeft_eq]
 rw [fF _ (by omega)]
def Cp (r:Int):Prop:=0≤r∧r≤1114111∧¬(55296≤r∧r<57344)
theorem Kj {N:Nat} {L r:Int} (h:Cp r) (hL:L≤r):CP N L r=(r,N):=by
 unfold CP
 obtain ⟨h1,h2,h3⟩:=h
 rw [AH hL,AH h2]
 by_cases h4:(55296:Int)≤r
 ·rw [AH (by omega:(57344:Int)≤r)];simp
 ·rw [AE h4];simp
theorem eA {r:Int} (h:Cp r):TT r=r:=by
 unfold TT
 obtain ⟨h1,h2,h3⟩:=h
 rw [AH h1,AH h2]
 by_cases h4:(55296:Int)≤r
 ·rw [AH (by omega:(57344:Int)≤r)];simp
 ·rw [AE h4];simp
theorem Sn {r:Int} (h:Cp r):∃c u,Ao r=c::u∧∀rest,Bb c (u++rest)=(r,u.length+1):=by
 have h0:=h
 obtain ⟨g1,g2,g3⟩:=h0
 obtain ⟨n,rfl⟩:=Int.eq_ofNat_of_zero_le g1
 rw [Ao,eA h]
 unfold Lw
 by_cases k1:(128:Int)≤(n:Nat)
 ·rw [AH k1]
  by_cases k2:(2048:Int)≤(n:Nat)
  ·rw [AH k2]
   by_cases k3:(65536:Int)≤(n:Nat)
   ·rw [AH k3]
    simp only [reduceCtorEq,if_false]
    rw [nU,mO,nV,Pr _ (by omega),Pr _ (by omega),Pr _ (by omega)]
    obtain ⟨a1,a2⟩:=l7 (n / 262144) (by omega)
    rw [a1,Ph _ (by omega),Ph _ (by omega),Ph _ (by omega)]
    refine ⟨_,_,rfl,fun rest=>?_⟩
    obtain ⟨b1,b2⟩:=Lj (n / 4096 % 64) (by omega)
    obtain ⟨c1,c2⟩:=Lj (n / 64 % 64) (by omega)
    obtain ⟨d1,d2⟩:=Lj (n % 64) (by omega)
    unfold Bb
    have e0:AG .i64 ((240+n / 262144:Nat):Int)=((240+n / 262144:Nat):Int):=A1 (by omega)
    have q1:AN 128 ((240+n / 262144:Nat):Int)=true:=AH (by omega)
    have q2:AN 192 ((240+n / 262144:Nat):Int)=true:=AH (by omega)
    have q3:AN 224 ((240+n / 262144:Nat):Int)=true:=AH (by omega)
    have q4:AN 240 ((240+n / 262144:Nat):Int)=true:=AH (by omega)
    have q5:AN 248 ((240+n / 262144:Nat):Int)=false:=AE (by omega)
    rw [e0] at a2 ⊢
    rw [q1,q2,q3,q4,q5,a2]
    simp only [Bool.not_true,Bool.not_false,Bool.false_eq_true,if_false,if_true,List.cons_append,List.nil_append]
    rw [show 4 - 1=2+1 from rfl,DE,b1,if_pos rfl,b2,Px _ _ (by omega) (by omega),DE,c1,if_pos rfl,c2,Px _ _ (by omega) (by omega),DE,d1,if_pos rfl,d2,Px _ _ (by omega) (by omega)]
    rw [show 64*(64*(64*(n / 262144)+n / 4096 % 64)+n / 64 % 64)+n % 64=n by omega]
    exact Kj h k3
   ·rw [AE k3]
    simp only [reduceCtorEq,if_false,if_true]
    rw [mO,nV,Pr _ (by omega),Pr _ (by omega)]
    obtain ⟨a1,a2⟩:=l8 (n / 4096) (by omega)
    rw [a1,Ph _ (by omega),Ph _ (by omega)]
    refine ⟨_,_,rfl,fun rest=>?_⟩
    obtain ⟨c1,c2⟩:=Lj (n / 64 % 64) (by omega)
    obtain ⟨d1,d2⟩:=Lj (n % 64) (by omega)
    unfold Bb
    have e0:AG .i64 ((224+n / 4096:Nat):Int)=((224+n / 4096:Nat):Int):=A1 (by omega)
    have q1:AN 128 ((224+n / 4096:Nat):Int)=true:=AH (by omega)
    have q2:AN 192 ((224+n / 4096:Nat):Int)=true:=AH (by omega)
    have q3:AN 224 ((224+n / 4096:Nat):Int)=true:=AH (by omega)
    have q4:AN 240 ((224+n / 4096:Nat):Int)=false:=AE (by omega)
    rw [e0] at a2 ⊢
    rw [q1,q2,q3,q4,a2]
    simp only [Bool.not_true,Bool.not_false,Bool.false_eq_true,if_false,if_true,List.cons_append,List.nil_append]
    rw [show 3 - 1=1+1 from rfl,DE,c1,if_pos rfl,c2,Px _ _ (by omega) (by omega),DE,d1,if_pos rfl,d2,Px _ _ (by omega) (by omega)]
    rw [show 64*(64*(n / 4096)+n / 64 % 64)+n % 64=n by omega]
    exact Kj h k2
  ·rw [AE k2]
   simp only [reduceCtorEq,if_false,if_true]
   rw [nV,Pr _ (by omega)]
   obtain ⟨a1,a2⟩:=lZ (n / 64) (by omega)
   rw [a1,Ph _ (by omega)]
   refine ⟨_,_,rfl,fun rest=>?_⟩
   obtain ⟨d1,d2⟩:=Lj (n % 64) (by omega)
   unfold Bb
   have e0:AG .i64 ((192+n / 64:Nat):Int)=((192+n / 64:Nat):Int):=A1 (by omega)
   have q1:AN 128 ((192+n / 64:Nat):Int)=true:=AH (by omega)
   have q2:AN 192 ((192+n / 64:Nat):Int)=true:=AH (by omega)
   have q3:AN 224 ((192+n / 64:Nat):Int)=false:=AE (by omega)
   rw [e0] at a2 ⊢
   rw [q1,q2,q3,a2]
   simp only [Bool.not_true,Bool.not_false,Bool.false_eq_true,if_false,if_true,List.cons_append,List.nil_append]
   rw [show 2 - 1=0+1 from rfl,DE,d1,if_pos rfl,d2,Px _ _ (by omega) (by omega)]
   rw [show 64*(n / 64)+n % 64=n by omega]
   exact Kj h k1
 ·rw [AE k1]
  simp only [if_true]
  have e0:AG .u8 ((n:Nat):Int)=(n:Nat):=E0 (n:=128) (p:=fun n=>AG .u8 ((n:Nat):Int)=(n:Nat)) (by decide+kernel) n (by omega)
  rw [e0]
  refine ⟨_,_,rfl,fun rest=>?_⟩
  unfold Bb
  have e1:AG .i64 ((n:Nat):Int)=(n:Nat):=A1 (by omega)
  rw [e1,AE k1]
  simp only [Bool.not_false,if_true,List.nil_append]
  exact Kj h (by omega)
def enc (l:List Int):List Int:=l.flatMap Ao
theorem BD:enc []=[]:=rfl
theorem Aa (r:Int) (l:List Int):enc (r::l)=Ao r++enc l:=rfl
theorem Ap (a b:List Int):enc (a++b)=enc a++enc b:=List.flatMap_append ..
def Cq (r:Int):Prop:=Cp r∧r≠0∧r≠12∧r≠13
theorem iV {r:Int} (h:Cq r) (rest:List Int):RS (Ao r++rest)=⟨r,0⟩::RS rest:=by
 obtain ⟨hc,h1,h2,h3⟩:=h
 obtain ⟨c,u,e,hn⟩:=Sn hc
 rw [e,List.cons_append,Wd,Ii,hn rest]
 simp only [Nat.add_sub_cancel]
 rw [List.drop_left]
 have:EM r rest=(r,rest):=by
  unfold EM
  rw [AF h1,AF h2,AF h3];rfl
 rw [this]
theorem Zu {l:List Int} (h:∀r,r∈l→Cq r) (rest:List Int):RS (enc l++rest)=l.map (fun r=>(⟨r,0⟩:Rn))++RS rest:=by
 induction l with
 |nil=>rfl
 |cons r l ih=>
  rw [Aa,List.append_assoc,iV (h r (List.mem_cons_self ..)),ih (fun x hx=>h x (List.mem_cons_of_mem _ hx))]
  rfl
end Go.Vx.Seat
end
section
open Go Go.Vx Go.Proofs
namespace Go.Vx.Seat
def rn (l:List Int):List Rn:=l.map fun r=>⟨r,0⟩
theorem Qh (r:Int) (l:List Int):rn (r::l)=⟨r,0⟩::rn l:=rfl
theorem Cu (a b:List Int):rn (a++b)=rn a++rn b:=List.map_append ..
def Ct (d:Nat):Int:=if d<10 then ((48+d:Nat):Int) else ((87+d:Nat):Int)
def Ee (n:Nat):List Int:=if n<16 then [Ct n] else Ee (n / 16)++[Ct (n % 16)]
termination_by n
theorem FX {n:Nat} (h:n<16):Ee n=[Ct n]:=by rw [Ee,if_pos h]
theorem JU {n:Nat} (h:16≤n):Ee n=Ee (n / 16)++[Ct (n % 16)]:=by rw [Ee,if_neg (by omega)]
def As (r:Int):List Int:=92::Ee r.toNat
def Dr (q:Bool) (r:Int):Bool:= !AN 32 r||AJ r 127||(q&&AL r)
def Km (q:Bool) (r:Int):List Int:=if Dr q r=true then As r++[32] else if DB r=true then [r] else [92,r]
def KX:List Int→List Int
 |[]=>[]
 |r::l=>Km false r++KX l
def DL (first:Bool) (l:List Int):List Int:=match first,l with
 |false,l=>KX l
 |true,[]=>[]
 |true,[r]=>if AJ r 45 then [92,45] else Km true r
 |true,r::s::l=>Km true r++(Km (AJ r 45) s++KX l)
theorem Hn (d:Nat) (h:d<16):DI (Ct d)=(d:Nat)∧AN 0 (DI (Ct d))=true∧AJ (Ct d) 10=false∧DB (Ct d)=true∧AJ (Ct d) 92=false:=
 E0 (n:=16) (p:=fun d=>DI (Ct d)=(d:Nat)∧AN 0 (DI (Ct d))=true∧AJ (Ct d) 10=false∧DB (Ct d)=true∧AJ (Ct d) 92=false) (by decide+kernel) d h
theorem Nq (n:Nat) (x:Int) (X:List Rn):Es n x (⟨32,0⟩::X)=(x,⟨32,0⟩::X):=by
 cases n with
 |zero=>rfl
 |succ n=>rw [Es,if_neg (by decide)]
theorem Oo {r:Int} (h0:0<r) (h1:r<128) (X:List Rn):BZ (rn (Ee r.toNat++[32])++X)=(r,X):=by
 obtain ⟨n,rfl⟩:=Int.eq_ofNat_of_zero_le (show 0≤r by omega)
 have hn:((n:Nat):Int).toNat=n:=rfl
 rw [hn]
 have hfix:FE ((n:Nat):Int)=(n:Nat):=by
  unfold FE
  rw [AF (by omega),AH (by omega:((n:Nat):Int)≤1114111),AE (by omega:¬(55296:Int)≤(n:Nat))];rfl
 by_cases h:n<16
 ·obtain ⟨e1,e2,_⟩:=Hn n h
  rw [FX h]
  show BZ (⟨Ct n,0⟩::⟨32,0⟩::X)=_
  have w:AG .i64 (AG .i64 (16*0)+((n:Nat):Int))=(n:Nat):=by
   rw [show AG .i64 (16*0)=0 from rfl,Int.zero_add];exact A1 (by omega)
  rw [BZ,if_pos e2,Es,if_pos e2,e1,w,Nq,hfix]
  rfl
 ·have ha:n / 16<16:=by omega
  have hb:n % 16<16:=by omega
  obtain ⟨e1,e2,_⟩:=Hn _ ha
  obtain ⟨f1,f2,_⟩:=Hn _ hb
  rw [JU (by omega),FX ha]
  show BZ (⟨Ct (n / 16),0⟩::⟨Ct (n % 16),0⟩::⟨32,0⟩::X)=_
  have w:AG .i64 (AG .i64 (16*0)+((n / 16:Nat):Int))=((n / 16:Nat):Int):=by
   rw [show AG .i64 (16*0)=0 from rfl,Int.zero_add];exact A1 (by omega)
  have w2:AG .i64 (AG .i64 (16*((n / 16:Nat):Int))+((n % 16:Nat):Int))=(n:Nat):=by
   rw [show 16*((n / 16:Nat):Int)=((16*(n / 16):Nat):Int) by omega,A1 (by omega),show ((16*(n / 16):Nat):Int)+((n % 16:Nat):Int)=(n:Nat) by omega];exact A1 (by omega)
  rw [BZ,if_pos e2,Es,if_pos e2,e1,w,Es,if_pos f2,f1,w2,Nq,hfix]
  rfl
theorem Hd (n:Nat):∃d u,Ee n=Ct d::u∧d<16:=by
 induction n using Nat.strongRecOn with
 |ind n ih=>
  by_cases h:n<16
  ·exact ⟨n,[],FX h,h⟩
  ·obtain ⟨d,u,e,hd⟩:=ih (n / 16) (by omega)
   exact ⟨d,u++[Ct (n % 16)],by rw [JU (by omega),e];rfl,hd⟩
def Cn (r:Int):Prop:=Cp r∧r≠0
theorem YN {q:Bool} {r:Int} (h:Dr q r=true):r<128:=by
 simp only [Dr,Bool.or_eq_true,Bool.and_eq_true,Bool.not_eq_true',AL] at h
 rcases h with (h|h)|⟨_,h,h'⟩
 ·have:=BQ h;omega
 ·have:=AQ h;omega
 ·have:=Bl h';omega
theorem QC {r:Int} (h0:0<r) (h1:r<128) (X:List Rn):AT (rn (As r++[32])++X)=(Ao r++(AT X).1,(AT X).2):=by
 obtain ⟨d,u,e,hd⟩:=Hd r.toNat
 have he:=Oo h0 h1 X
 have hs:esc0 (⟨92,0⟩::(rn (Ee r.toNat++[32])++X))=true:=by
  rw [e]
  show (AJ 92 92&& !AJ (Ct d) 10)=true
  rw [(Hn d hd).2.2.1];rfl
 show AT (⟨92,0⟩::(rn (Ee r.toNat++[32])++X))=_
 rw [Cj rfl hs,he]
theorem dH {r:Int} (h:DB r=false):AN 0 (DI r)=false:=by
 simp only [DB,Bm,Bool.or_eq_false_iff,Bool.and_eq_false_iff] at h
 obtain ⟨⟨⟨⟨⟨h1,h2⟩,h3⟩,h4⟩,h5⟩,h6⟩:=h
 unfold DI
 rw [if_neg (by rw [h5];simp),if_neg (by simp only [Bool.and_eq_true,not_and];intro a b;have:=Bl a;have:=Bl b;rcases h1 with k|k<;>(have:=BQ k;omega)),
  if_neg (by simp only [Bool.and_eq_true,not_and];intro a b;have:=Bl a;have:=Bl b;rcases h2 with k|k<;>(have:=BQ k;omega))]
 rfl
theorem P8 {r:Int} (h:AN 0 (DI r)=false) (h2:r≠10) (X:List Rn):AT (rn [92,r]++X)=(Ao r++(AT X).1,(AT X).2):=by
 show AT (⟨92,0⟩::⟨r,0⟩::X)=_
 have he:BZ (⟨r,0⟩::X)=(r,X):=by rw [BZ,if_neg (by rw [h];simp)]
 rw [Cj rfl (by show (AJ 92 92&& !AJ r 10)=true;rw [AF h2];rfl),he]
theorem Kc (q:Bool) {r:Int} (h:Cn r) (X:List Rn):AT (rn (Km q r)++X)=(Ao r++(AT X).1,(AT X).2):=by
 obtain ⟨⟨h1,h2,h3⟩,h4⟩:=h
 unfold Km
 by_cases k:Dr q r=true
 ·rw [if_pos k]
  exact QC (by omega) (YN k) X
 ·rw [if_neg k]
  by_cases k2:DB r=true
  ·rw [if_pos k2]
   exact BM k2
  ·rw [if_neg k2]
   have k3:DB r=false:=by simpa using k2
   refine P8 (dH k3) ?_ X
   rintro rfl
   exact k rfl
theorem SF {l:List Int} (h:∀r,r∈l→Cn r) (X:List Rn):AT (rn (KX l)++X)=(enc l++(AT X).1,(AT X).2):=by
 induction l with
 |nil=>rfl
 |cons r l ih=>
  rw [KX,Cu,List.append_assoc,Kc false (h r (List.mem_cons_self ..)),ih (fun x hx=>h x (List.mem_cons_of_mem _ hx)),Aa,List.append_assoc]
theorem GI (first:Bool) {l:List Int} (h:∀r,r∈l→Cn r) (X:List Rn):AT (rn (DL first l)++X)=(enc l++(AT X).1,(AT X).2):=by
 cases first with
 |false=>exact SF h X
 |true=>
  cases l with
  |nil=>rfl
  |cons r l=>
   cases l with
   |nil=>
    simp only [DL]
    by_cases k:AJ r 45=true
    ·rw [if_pos k]
     have:=AQ k
     subst this
     rw [P8 (by decide) (by decide),Aa,BD,List.append_nil]
    ·rw [if_neg k,Kc true (h r (List.mem_cons_self ..)),Aa,BD,List.append_nil]
   |cons s l=>
    simp only [DL]
    rw [Cu,Cu,List.append_assoc,List.append_assoc,Kc true (h r (List.mem_cons_self ..)),Kc _ (h s (by simp)),SF (fun x hx=>h x (by simp [hx])),Aa,Aa]
    simp
theorem D5 (q:Bool) {r:Int}  :∃c u,Km q r=c::u∧((c=r∧DB r=true∧u=[]∧(q=true→AL r=false))∨(c=92∧∃d v,u=d::v∧d≠10)):=by
 unfold Km
 by_cases k:Dr q r=true
 ·rw [if_pos k]
  obtain ⟨d,u,e,hd⟩:=Hd r.toNat
  refine ⟨92,_,rfl,.inr ⟨rfl,Ct d,u++[32],by rw [e];rfl,A7 (Hn d hd).2.2.1⟩⟩
 ·rw [if_neg k]
  by_cases k2:DB r=true
  ·rw [if_pos k2]
   refine ⟨r,[],rfl,.inl ⟨rfl,k2,rfl,fun hq=>?_⟩⟩
   subst hq
   simp only [Dr,Bool.true_and,Bool.or_eq_true,not_or] at k
   simpa using k.2
  ·rw [if_neg k2]
   refine ⟨92,[r],rfl,.inr ⟨rfl,r,[],rfl,?_⟩⟩
   rintro rfl
   exact k rfl
theorem KR {d:Int} {v:List Rn} (hd:d≠10):Ag (⟨92,0⟩::⟨d,0⟩::v)=true∧BT (⟨92,0⟩::⟨d,0⟩::v)=false∧Ay (⟨92,0⟩::⟨d,0⟩::v) [45,45,62]=false:=by
 refine ⟨?_,rfl,rfl⟩
 show (Bm 92||(AJ 92 92&& !AJ d 10))=true
 rw [AF hd];rfl
theorem Tj {r:Int} (h:DB r=true) (h2:AL r=false) (h3:r≠45):Bm r=true:=by
 simp only [DB,h2,AF h3,Bool.or_false] at h
 exact h
theorem H0 {r:Int} {v:List Rn} (h:DB r=true) (h2:AL r=false) (h3:r≠45):Ag (⟨r,0⟩::v)=true∧BT (⟨r,0⟩::v)=false∧Ay (⟨r,0⟩::v) [45,45,62]=false:=by
 have h43:r≠43:=by rintro rfl;exact absurd h (by decide)
 have h46:r≠46:=by rintro rfl;exact absurd h (by decide)
 refine ⟨?_,?_,?_⟩
 ·show (if AJ r 45=true then _ else Bm r||_)=true
  rw [AF h3,if_neg (by simp),Tj h h2 h3];rfl
 ·have hs:Ai (⟨r,0⟩::v)=false:=by show (AJ r 43||AJ r 45)=false;rw [AF h43,AF h3];rfl
  unfold BT
  rw [hs]
  show (AL r||(AJ r 46&&_))=false
  rw [h2,AF h46];rfl
 ·show (AJ r ((45:UInt8).toNat:Nat)&&_)=false
  rw [show (((45:UInt8).toNat:Nat):Int)=45 from rfl,AF h3];rfl
theorem Lb {r:Int} {w:List Rn} (h:Bm r=true∨r=45∨(r=92∧AJ (hd w) 10=false)) (h2:AL r=false) {Q:Prop} (h3:Q→r=45→hd w≠62):Ag (⟨45,0⟩::⟨r,0⟩::w)=true∧BT (⟨45,0⟩::⟨r,0⟩::w)=false∧(Q→Ay (⟨45,0⟩::⟨r,0⟩::w) [45,45,62]=false):=by
 have h46:r≠46:=by
  rintro rfl
  rcases h with h|h|h
  ·exact absurd h (by decide)
  ·exact absurd h (by decide)
  ·exact absurd h.1 (by decide)
 refine ⟨?_,?_,?_⟩
 ·show (Bm r||AJ r 45||(AJ r 92&& !AJ (hd w) 10))=true
  rcases h with h|h|⟨h,h'⟩
  ·rw [h];rfl
  ·rw [h];simp [BN]
  ·rw [h,h'];simp [BN]
 ·show (AL r||(AJ r 46&&_))=false
  rw [h2,AF h46];rfl
 ·intro q
  show (AJ 45 45&&(AJ r 45&&(AJ (hd w) 62&&true)))=false
  by_cases k:r=45
  ·rw [AF (h3 q k)];simp
  ·rw [AF k];simp
theorem FC {l:List Int} (hl:l≠[]) (X:List Rn):Ag (rn (DL true l)++X)=true∧BT (rn (DL true l)++X)=false∧(hd X≠62→Ay (rn (DL true l)++X) [45,45,62]=false):=by
 cases l with
 |nil=>exact absurd rfl hl
 |cons r l=>
  have single:∀(Y:List Rn),r≠45→Ag (rn (Km true r)++Y)=true∧BT (rn (Km true r)++Y)=false∧(hd X≠62→Ay (rn (Km true r)++Y) [45,45,62]=false):=fun Y k=>by
   obtain ⟨c,u,e,hc⟩:=D5 true (r:=r)
   rw [e]
   rcases hc with ⟨rfl,hi,rfl,hd⟩|⟨rfl,d,v,rfl,hd⟩
   ·obtain ⟨a,b,c⟩:=H0 (v:=Y) hi (hd rfl) k
    exact ⟨a,b,fun _=>c⟩
   ·obtain ⟨a,b,c⟩:=KR (v:=rn v++Y) hd
    exact ⟨a,b,fun _=>c⟩
  cases l with
  |nil=>
   simp only [DL]
   by_cases k:AJ r 45=true
   ·rw [if_pos k]
    obtain ⟨a,b,c⟩:=KR (d:=45) (v:=X) (by decide)
    exact ⟨a,b,fun _=>c⟩
   ·rw [if_neg k];exact single X (fun e=>k (by rw [e];rfl))
  |cons s l=>
   simp only [DL]
   by_cases k:r=45
   ·subst k
    rw [show Km true 45=[45] from by decide,show AJ 45 45=true from rfl]
    obtain ⟨c,u,e,hc⟩:=D5 true (r:=s)
    rw [e]
    rcases hc with ⟨rfl,hi,rfl,hd'⟩|⟨rfl,d,v,rfl,hd'⟩
    ·refine Lb (r:=c) (w:=rn (KX l)++X) ?_ (hd' rfl) ?_
     ·by_cases k:c=45
      ·exact .inr (.inl k)
      ·exact .inl (Tj hi (hd' rfl) k)
     ·intro hX _
      cases l with
      |nil=>exact hX
      |cons z l=>
       obtain ⟨c2,u2,e2,hc2⟩:=D5 false (r:=z)
       rw [KX,e2]
       show c2≠62
       rcases hc2 with ⟨rfl,hi2,_⟩|⟨rfl,_⟩
       ·rintro rfl;exact absurd hi2 (by decide)
       ·decide
    ·exact Lb (r:=92) (w:=⟨d,0⟩::_) (.inr (.inr ⟨rfl,AF hd'⟩)) rfl (fun _ h=>absurd h (by decide))
   ·rw [Cu,List.append_assoc]
    exact single _ k
theorem LV {l:List Int} (hl:l≠[]):∃c u,DL true l=c::u∧(DB c=true∨c=92)∧AL c=false:=by
 have single:∀r:Int,∃c u,Km true r=c::u∧(DB c=true∨c=92)∧AL c=false:=fun r=>by
  obtain ⟨c,u,e,hc⟩:=D5 true (r:=r)
  rcases hc with ⟨rfl,hi,rfl,hd⟩|⟨rfl,d,v,rfl,hd⟩
  ·exact ⟨c,[],e,.inl hi,hd rfl⟩
  ·exact ⟨92,_,e,.inr rfl,rfl⟩
 cases l with
 |nil=>exact absurd rfl hl
 |cons r l=>
  cases l with
  |nil=>
   simp only [DL]
   split
   ·exact ⟨92,[45],rfl,.inr rfl,rfl⟩
   ·exact single r
  |cons s l=>
   simp only [DL]
   obtain ⟨c,u,e,h1,h2⟩:=single r
   exact ⟨c,u++(Km (AJ r 45) s++KX l),by rw [e];rfl,h1,h2⟩
end Go.Vx.Seat
end
section
open Go Go.Vx Go.Proofs
namespace Go.Vx.Seat
def RC (r:Int):Bool:=AJ r 10||AJ r 12||AJ r 13
def E1 (s:Int):Bool:=AN 0 (DI s)||Ad s||AJ s 12||AJ s 13
def DS:List Int→List Int
 |[]=>[]
 |s::_=>if E1 s=true then [32] else []
def HM (q:Int):List Int→List Int
 |[]=>[]
 |r::l=>(if (AJ r q||AJ r 92)=true then [92,r] else if RC r=true then As r++DS l else [r])++HM q l
def O2 (q:Int) (l:List Int):List Int:=q::(HM q l++[q])
theorem XB (n:Nat) (x:Int) {Y:List Rn} (h:AN 0 (DI (hd Y))=false):Es n x Y=(x,Y):=by
 cases n with
 |zero=>rfl
 |succ n=>
  cases Y with
  |nil=>rfl
  |cons c Y=>rw [Es,if_neg (by rw [show DI c.r=DI (hd (c::Y)) from rfl,h];simp)]
theorem UC {Y:List Rn} (h:Ad (hd Y)=false):Ek Y=Y:=by
 cases Y with
 |nil=>rfl
 |cons c Y=>show (if Ad c.r=true then Y else c::Y)=c::Y;rw [if_neg (by rw [show Ad c.r=Ad (hd (c::Y)) from rfl,h];simp)]
theorem bQ {r:Int} (h:RC r=true) {Y:List Rn} (h1:AN 0 (DI (hd Y))=false) (h2:Ad (hd Y)=false):BZ (rn (Ee r.toNat)++Y)=(r,Y):=by
 have hr:r=10∨r=12∨r=13:=by
  simp only [RC,Bool.or_eq_true] at h
  rcases h with (h|h)|h
  ·exact .inl (AQ h)
  ·exact .inr (.inl (AQ h))
  ·exact .inr (.inr (AQ h))
 have key:∀d:Nat,(d=10∨d=12∨d=13)→BZ (rn (Ee d)++Y)=(((d:Nat):Int),Y):=fun d hd'=>by
  have hd:d<16:=by omega
  obtain ⟨e1,e2,_⟩:=Hn d hd
  rw [FX hd]
  show BZ (⟨Ct d,0⟩::Y)=_
  have w:AG .i64 (AG .i64 (16*0)+((d:Nat):Int))=(d:Nat):=by
   rw [show AG .i64 (16*0)=0 from rfl,Int.zero_add];exact A1 (by omega)
  rw [BZ,if_pos e2,Es,if_pos e2,e1,w,XB _ _ h1,UC h2]
  rcases hd' with rfl|rfl|rfl<;>rfl
 rcases hr with rfl|rfl|rfl
 ·exact key 10 (.inl rfl)
 ·exact key 12 (.inr (.inl rfl))
 ·exact key 13 (.inr (.inr rfl))
theorem L3 {q r:Int} (hq:q=34∨q=39) (h:RC r=true) {Y Z:List Rn} (hY:BZ (rn (Ee r.toNat)++Y)=(r,Z)):quotedF q (rn (As r)++Y)=(Ao r++(quotedF q Z).1,(quotedF q Z).2):=by
 obtain ⟨d,u,e,hd⟩:=Hd r.toNat
 have h92:AJ 92 q=false:=by rcases hq with rfl|rfl<;>rfl
 unfold As
 rw [e] at hY ⊢
 show quotedF q (⟨92,0⟩::⟨Ct d,0⟩::(rn u++Y))=_
 have hY':BZ (⟨Ct d,0⟩::(rn u++Y))=(r,Z):=hY
 rw [DW h92 rfl rfl (Hn d hd).2.2.1,hY']
theorem MQ {q:Int} (hq:q=34∨q=39) (X:List Rn):∀l:List Int,(∀r,r∈l→Cn r)→quotedF q (rn (HM q l++[q])++X)=(enc l,false,X)
 |[],_=>by
  have:AJ q q=true:=by rw [BN];simp
  exact DX this
 |r::l,h=>by
  have ih:=MQ hq X l (fun x hx=>h x (List.mem_cons_of_mem _ hx))
  obtain ⟨⟨g1,g2,g3⟩,g4⟩:=h r (List.mem_cons_self ..)
  have h92:AJ 92 q=false:=by rcases hq with rfl|rfl<;>rfl
  have hbs:AN 0 (DI q)=false∧AJ q 10=false∧Ad q=false:=by rcases hq with rfl|rfl<;>decide
  rw [HM]
  by_cases k1:(AJ r q||AJ r 92)=true
  ·rw [if_pos k1]
   have hr:AN 0 (DI r)=false∧AJ r 10=false:=by
    rw [Bool.or_eq_true] at k1
    rcases k1 with k|k
    ·rw [AQ k];exact ⟨hbs.1,hbs.2.1⟩
    ·rw [AQ k];decide
   show quotedF q (⟨92,0⟩::⟨r,0⟩::(rn (HM q l++[q])++X))=_
   have he:BZ (⟨r,0⟩::(rn (HM q l++[q])++X))=(r,rn (HM q l++[q])++X):=by rw [BZ,if_neg (by rw [hr.1];simp)]
   rw [DW h92 rfl rfl hr.2,he,ih];rfl
  ·rw [if_neg k1]
   by_cases k2:RC r=true
   ·rw [if_pos k2]
    cases l with
    |nil=>
     show quotedF q (rn ((As r++[])++[]++[q])++X)=_
     rw [List.append_nil,List.append_nil,Cu,List.append_assoc]
     rw [L3 hq k2 (Z:=rn [q]++X) (bQ k2 hbs.1 hbs.2.2),show rn [q]=rn (HM q []++[q]) from rfl,ih];rfl
    |cons s l=>
     rw [DS]
     by_cases k3:E1 s=true
     ·rw [if_pos k3]
      have hr0:r<128∧0<r:=by
       simp only [RC,Bool.or_eq_true] at k2
       rcases k2 with (k|k)|k<;>(have:=AQ k;omega)
      have e:=Oo hr0.2 hr0.1 (rn (HM q (s::l)++[q])++X)
      rw [Cu,List.append_assoc] at e
      rw [List.append_assoc,List.append_assoc,Cu,Cu,List.append_assoc,List.append_assoc,L3 hq k2 e,ih];rfl
     ·rw [if_neg k3]
      simp only [E1,Bool.or_eq_true,not_or,Bool.not_eq_true] at k3
      obtain ⟨⟨⟨n1,n2⟩,n3⟩,n4⟩:=k3
      have hhd:AN 0 (DI (hd (rn (HM q (s::l)++[q])++X)))=false∧Ad (hd (rn (HM q (s::l)++[q])++X))=false:=by
       rw [HM]
       by_cases m1:(AJ s q||AJ s 92)=true
       ·rw [if_pos m1];exact ⟨rfl,rfl⟩
       ·rw [if_neg m1]
        have:RC s=false:=by
         simp only [RC,n3,n4,Bool.or_false]
         simp only [Ad,Bool.or_eq_false_iff] at n2
         exact n2.2
        rw [this,if_neg (by simp)]
        exact ⟨n1,n2⟩
      rw [List.append_nil,List.append_assoc,Cu,List.append_assoc,L3 hq k2 (bQ k2 hhd.1 hhd.2),ih];rfl
   ·rw [if_neg k2]
    rw [Bool.or_eq_true,not_or] at k1
    have e1:AJ r q=false:=by simpa using k1.1
    have e2:AJ r 92=false:=by simpa using k1.2
    have e3:AJ r 10=false:=by
     simp only [RC,Bool.or_eq_true,not_or] at k2
     simpa using k2.1.1
    show quotedF q (⟨r,0⟩::(rn (HM q l++[q])++X))=_
    rw [DG e1 e3 e2,ih];rfl
def Gk (r:Int):Bool:=AJ r 34||AJ r 39||AJ r 40||AJ r 41||AJ r 92||AJ r 32
def WS (r:Int):List Int:=if Gk r then [92,r] else if !AN 32 r||AJ r 127 then As r++[32] else [r]
def Gg:List Int→List Int
 |[]=>[]
 |r::l=>WS r++Gg l
theorem NH {X:List Rn} (h:esc0 (⟨92,0⟩::X)=true):Bo ⟨92,0⟩ X=false:=by
 unfold Bo
 rw [h];rfl
theorem cE {r:Int} (h:Gk r=true):AN 0 (DI r)=false∧r≠10:=by
 simp only [Gk,Bool.or_eq_true] at h
 rcases h with ((((h|h)|h)|h)|h)|h<;>(rw [AQ h];decide)
theorem SW (X:List Rn):∀l:List Int,(∀r,r∈l→Cn r)→urlF (rn (Gg l++[41])++X)=(some (enc l),X)
 |[],_=>Er rfl
 |r::l,h=>by
  have ih:=SW X l (fun x hx=>h x (List.mem_cons_of_mem _ hx))
  obtain ⟨⟨g1,g2,g3⟩,g4⟩:=h r (List.mem_cons_self ..)
  rw [Gg,WS,List.append_assoc]
  by_cases k1:Gk r=true
  ·rw [if_pos k1]
   obtain ⟨a1,a2⟩:=cE k1
   show urlF (⟨92,0⟩::⟨r,0⟩::(rn (Gg l++[41])++X))=_
   have he:BZ (⟨r,0⟩::(rn (Gg l++[41])++X))=(r,rn (Gg l++[41])++X):=by rw [BZ,if_neg (by rw [a1];simp)]
   have hs:esc0 (⟨92,0⟩::⟨r,0⟩::(rn (Gg l++[41])++X))=true:=by show (AJ 92 92&& !AJ r 10)=true;rw [AF a2];rfl
   rw [Fe rfl rfl (NH hs) rfl,he,ih];rfl
  ·rw [if_neg k1]
   by_cases k2:(!AN 32 r||AJ r 127)=true
   ·rw [if_pos k2]
    have hr0:r<128∧0<r:=by
     rw [Bool.or_eq_true] at k2
     rcases k2 with k|k
     ·have:=BQ (by simpa using k:AN 32 r=false);omega
     ·have:=AQ k;omega
    obtain ⟨d,u,e,hd⟩:=Hd r.toNat
    have he:=Oo hr0.2 hr0.1 (rn (Gg l++[41])++X)
    rw [Cu,List.append_assoc,As,List.cons_append,Qh]
    have hs:esc0 (⟨92,0⟩::(rn (Ee r.toNat++[32])++(rn (Gg l++[41])++X)))=true:=by
     rw [e]
     show (AJ 92 92&& !AJ (Ct d) 10)=true
     rw [(Hn d hd).2.2.1];rfl
    rw [List.cons_append,Fe rfl rfl (NH hs) rfl,he,ih];rfl
   ·rw [if_neg k2]
    simp only [Bool.or_eq_true,not_or,Bool.not_eq_true,Bool.not_eq_false'] at k2
    simp only [Gk,Bool.or_eq_true,not_or,Bool.not_eq_true] at k1
    obtain ⟨⟨⟨⟨⟨n1,n2⟩,n3⟩,n4⟩,n5⟩,n6⟩:=k1
    have h32:=Bl k2.1
    have b1:Ad r=false:=by
     unfold Ad
     rw [n6,AF (by omega),AF (by omega)];rfl
    have b2:Bo ⟨r,0⟩ (rn (Gg l++[41])++X)=false:=by
     unfold Bo
     simp only
     rw [n1,n2,n3,AH (by omega:(9:Int)≤r),AF (by omega:r≠11),k2.1,k2.2,n5];simp
    show urlF (⟨r,0⟩::(rn (Gg l++[41])++X))=_
    rw [Eb n4 b1 b2 n5,ih];rfl
theorem Z7 (l:List Int) (X:List Rn):Ad (hd (rn (Gg l++[41])++X))=false∧AJ (hd (rn (Gg l++[41])++X)) 34=false∧AJ (hd (rn (Gg l++[41])++X)) 39=false:=by
 cases l with
 |nil=>exact ⟨rfl,rfl,rfl⟩
 |cons r l=>
  rw [Gg,WS]
  by_cases k1:Gk r=true
  ·rw [if_pos k1];exact ⟨rfl,rfl,rfl⟩
  ·rw [if_neg k1]
   by_cases k2:(!AN 32 r||AJ r 127)=true
   ·rw [if_pos k2];exact ⟨rfl,rfl,rfl⟩
   ·rw [if_neg k2]
    simp only [Bool.or_eq_true,not_or,Bool.not_eq_true,Bool.not_eq_false'] at k2
    simp only [Gk,Bool.or_eq_true,not_or,Bool.not_eq_true] at k1
    obtain ⟨⟨⟨⟨⟨n1,n2⟩,n3⟩,n4⟩,n5⟩,n6⟩:=k1
    have h32:=Bl k2.1
    refine ⟨?_,n1,n2⟩
    show Ad r=false
    unfold Ad
    rw [n6,AF (by omega),AF (by omega)];rfl
theorem Re {S X:List Rn}:∀{l:List Rn},Bc (l++⟨42,0⟩::⟨47,0⟩::S)=(l,S)→Bc (l++⟨42,0⟩::⟨47,0⟩::X)=(l,X)
 |[],_=>by
  show Bc (⟨42,0⟩::⟨47,0⟩::X)=_
  rw [Bc];rfl
 |x::l,h=>by
  rw [List.cons_append,Bc] at h ⊢
  have hh:hd (l++⟨42,0⟩::⟨47,0⟩::S)=hd (l++⟨42,0⟩::⟨47,0⟩::X):=by cases l<;>rfl
  rw [←hh]
  by_cases k:(AJ x.r 42&&AJ (hd (l++⟨42,0⟩::⟨47,0⟩::S)) 47)=true
  ·rw [if_pos k] at h;simp at h
  ·rw [if_neg k] at h ⊢
   have h1:(Bc (l++⟨42,0⟩::⟨47,0⟩::S)).1=l:=by simpa using congrArg Prod.fst h
   have h2:(Bc (l++⟨42,0⟩::⟨47,0⟩::S)).2=S:=congrArg Prod.snd h
   rw [Re (S:=S) (X:=X) (Prod.ext h1 h2)]
theorem RT:∀Y:List Rn,(∃a b,Y=(Bc Y).1++a::b::(Bc Y).2∧a.r=42∧b.r=47)∨(Y=(Bc Y).1∧(Bc Y).2=[])
 |[]=>.inr ⟨rfl,rfl⟩
 |x::Y=>by
  rw [Bc]
  by_cases k:(AJ x.r 42&&AJ (hd Y) 47)=true
  ·rw [if_pos k]
   rw [Bool.and_eq_true] at k
   cases Y with
   |nil=>exact absurd k.2 (by decide)
   |cons y Y=>exact .inl ⟨x,y,rfl,AQ k.1,AQ k.2⟩
  ·rw [if_neg k]
   rcases RT Y with ⟨a,b,e,h⟩|⟨e,h⟩
   ·exact .inl ⟨a,b,by (conv=>lhs;rw [e]);rfl,h⟩
   ·exact .inr ⟨by conv=>lhs;rw [e],h⟩
theorem Lv (a b:List Rn):A9 (a++b)=A9 a++A9 b:=List.flatMap_append ..
theorem MH {l:List Rn} (h:(A9 l).length=0):l=[]:=by
 cases l with
 |nil=>rfl
 |cons x l=>
  have:=(Bj x.r).1
  rw [show A9 (x::l)=Ao x.r++A9 l from rfl,List.length_append] at h
  omega
theorem Ym {p l Y Z:List Rn} (h:p++Y=l++Z) (ht:(A9 p).length=(A9 l).length):p=l:=by
 rcases List.append_eq_append_iff.mp h with ⟨u,e,_⟩|⟨u,e,_⟩
 ·rw [e,Lv,List.length_append] at ht
  rw [e,MH (l:=u) (by omega),List.append_nil]
 ·rw [e,Lv,List.length_append] at ht
  rw [e,MH (l:=u) (by omega),List.append_nil]
theorem XG {l S:List Rn} (ht:(A9 (Bc (l++⟨42,0⟩::⟨47,0⟩::S)).1).length=(A9 l).length) (X:List Rn):Bc (l++⟨42,0⟩::⟨47,0⟩::X)=(l,X):=by
 refine Re (S:=S) ?_
 rcases RT (l++⟨42,0⟩::⟨47,0⟩::S) with ⟨a,b,e,h1,h2⟩|⟨e,h⟩
 ·have:=Ym e.symm ht
  refine Prod.ext this ?_
  rw [this] at e
  have e':=List.append_cancel_left e
  simp only [List.cons.injEq] at e'
  exact e'.2.2.symm
 ·exfalso
  have:=congrArg (fun q=>(A9 q).length) e
  simp only [Lv,List.length_append] at this
  rw [ht] at this
  have h3:=MH (l:=⟨42,0⟩::⟨47,0⟩::S) (by omega)
  cases h3
end Go.Vx.Seat
end
section
open Go Go.Vx Go.Proofs
namespace Go.Vx.Seat
inductive One (l:List Rn):Tok×List Rn→Prop where
 |comm (h:Ay l (AA ⟨#[47,42]⟩)=true):One l (AM 25 (AO (A9 (Bc (l.drop 2)).1)),(Bc (l.drop 2)).2)
 |blank (h:Ad (hd l)=true):One l (AM 13 (if AJ (hd l) 10 then ⟨#[10]⟩ else ⟨#[32]⟩),Aq l)
 |quote (h:hd l=34∨hd l=39):One l (CH l)
 |hash (h:hd l=35) (h2:(DB (hd (l.drop 1))||esc0 (l.drop 1))=true):One l (⟨4,AO (AT (l.drop 1)).1,⟨#[]⟩,false,⟨#[]⟩,⟨#[]⟩,Ag (l.drop 1),false,0,0,0,0,0⟩,(AT (l.drop 1)).2)
 |num (h:BT l=true):One l (E8 l)
 |cdc (h:Ay l (AA ⟨#[45,45,62]⟩)=true):One l (AM 15 ⟨#[]⟩,l.drop 3)
 |cdo (h:Ay l (AA ⟨#[60,33,45,45]⟩)=true):One l (AM 14 ⟨#[]⟩,l.drop 4)
 |named (h:Ag l=true):One l (BG l)
 |at (h:hd l=64) (h2:Ag (l.drop 1)=true):One l (AM 3 (AO (AT (l.drop 1)).1),(AT (l.drop 1)).2)
 |delim:One l (AM 9 (AO (A9 (l.take 1))),l.drop 1)
 |sign (h:Bp (hd l)≠9):One l (AM (Bp (hd l)) ⟨#[]⟩,l.drop 1)
theorem Hj (l:List Rn):One l (Ak l):=by
 unfold Ak
 refine AZ (p:=One l) (fun h=>.comm h) fun _=>?_
 refine AZ (p:=One l) (fun h=>.blank h) fun _=>?_
 refine AZ (p:=One l) (fun h=>.quote (.inl (AQ h))) fun _=>?_
 refine AZ (p:=One l) (fun h=>.quote (.inr (AQ h))) fun _=>?_
 refine AZ (p:=One l) (fun h=>?_) fun _=>?_
 ·rw [Bool.and_eq_true] at h
  exact .hash (AQ h.1) h.2
 refine AZ (p:=One l) (fun h=>.num h) fun _=>?_
 refine AZ (p:=One l) (fun h=>.cdc h) fun _=>?_
 refine AZ (p:=One l) (fun h=>.cdo h) fun _=>?_
 refine AZ (p:=One l) (fun h=>.named h) fun _=>?_
 refine AZ (p:=One l) (fun h=>?_) fun _=>?_
 ·rw [Bool.and_eq_true] at h
  exact .at (AQ h.1) h.2
 refine AZ (p:=One l) (fun h=>.delim) fun h=>.sign ?_
 simpa [BN] using h
def Vl (L:List Rn):Prop:=∀x,x∈L→Cn x.r
theorem Vl.suf {r l:List Rn} (h:Vl l) (hs:r<:+l):Vl r:=fun x hx=>h x (hs.subset hx)
theorem Vl.tail {x:Rn} {r:List Rn} (h:Vl (x::r)):Vl r:=fun y hy=>h y (List.mem_cons_of_mem _ hy)
def Yk (b:List Int):Prop:=∃l:List Int,(∀r,r∈l→Cn r)∧b=enc l
theorem Yk.nil:Yk []:=⟨[],fun r h=>by simp at h,rfl⟩
theorem Yk.put {r:Int} {b:List Int} (hr:Cn r) (h:Yk b):Yk (Ao r++b):=by
 obtain ⟨l,h1,rfl⟩:=h
 exact ⟨r::l,fun x hx=>by rcases List.mem_cons.mp hx with rfl|hx;exact hr;exact h1 x hx,rfl⟩
theorem dI (r:Int):DI r≤15:=by
 unfold DI
 split
 ·rename_i h
  simp only [AL,Bool.and_eq_true] at h
  have:=Bl h.1;have:=Bl h.2
  rw [Au (by omega) (by omega)];omega
 ·split
  ·rename_i h
   rw [Bool.and_eq_true] at h
   have:=Bl h.1;have:=Bl h.2
   rw [Au (x:=r - 97) (by omega) (by omega),Au (by omega) (by omega)];omega
  ·split
   ·rename_i h
    rw [Bool.and_eq_true] at h
    have:=Bl h.1;have:=Bl h.2
    rw [Au (x:=r - 65) (by omega) (by omega),Au (by omega) (by omega)];omega
   ·decide
theorem WB:∀(n:Nat) (x:Int) (l:List Rn),n≤10→0≤x→x+1≤16 ^ (10 - n)→0≤(Es n x l).1
 |0,x,l,_,h,_=>h
 |n+1,x,[],_,h,_=>h
 |n+1,x,c::l,hn,h,hb=>by
  unfold Es
  split
  ·rename_i hc
   have h1:=Bl hc
   have h2:=dI c.r
   have e:(16:Int) ^ (10 - n)=16*16 ^ (10 - (n+1)):=by
    rw [show 10 - n=(10 - (n+1))+1 by omega,Int.pow_succ];omega
   have hm:(16:Int) ^ (10 - (n+1))≤16 ^ 10:=by
    have:(16:Nat) ^ (10 - (n+1))≤16 ^ 10:=Nat.pow_le_pow_right (by omega) (by omega)
    exact_mod_cast this
   have hm':(16:Int) ^ 10=1099511627776:=by decide
   rw [Au (x:=16*x) (by omega) (by omega),Au (x:=16*x+DI c.r) (by omega) (by omega)]
   exact WB n _ l (by omega) (by omega) (by rw [e];omega)
  ·exact h
theorem jT {x:Int} (h:0≤x):Cn (FE x):=by
 unfold FE
 split
 ·exact ⟨⟨by omega,by omega,by omega⟩,by omega⟩
 ·rename_i k
  simp only [Bool.or_eq_true,not_or,Bool.and_eq_true,Bool.not_eq_true,Bool.not_eq_false',not_and] at k
  obtain ⟨⟨k1,k2⟩,k3⟩:=k
  refine ⟨⟨h,Bl k2,fun ⟨a,b⟩=>?_⟩,A7 k1⟩
  have:=k3 (AH a)
  have:=Bl (by simpa using this:AN 57344 x=true)
  omega
theorem T2 {L:List Rn} (h:Vl L):Cn (BZ L).1:=by
 cases L with
 |nil=>exact ⟨⟨by decide,by decide,by decide⟩,by decide⟩
 |cons c r=>
  unfold BZ
  simp only
  split
  ·exact jT (WB 6 0 _ (by omega) (by omega) (by decide))
  ·exact h c (List.mem_cons_self ..)
theorem Kb:∀(n:Nat) (L:List Rn),L.length≤n→Vl L→Yk (AT L).1:=by
 intro n
 induction n with
 |zero=>intro L h _;have:L=[]:=List.eq_nil_of_length_eq_zero (by omega);subst this;rw [BU];exact .nil
 |succ n ih=>
  intro L h hv
  cases L with
  |nil=>rw [BU];exact .nil
  |cons x r=>
   have hr:r.length≤n:=by simpa using h
   cases h1:DB x.r with
   |true=>rw [BM h1];exact .put (hv x (List.mem_cons_self ..)) (ih r hr hv.tail)
   |false=>
    cases h2:esc0 (x::r) with
    |true=>rw [Cj h1 h2];exact .put (T2 hv.tail) (ih _ (by have:=CT r;omega) (hv.tail.suf (Fd r)))
    |false=>rw [Cw h1 h2];exact .nil
theorem UX (q:Int):∀(n:Nat) (L:List Rn),L.length≤n→Vl L→Yk (quotedF q L).1:=by
 intro n
 induction n with
 |zero=>intro L h _;have:L=[]:=List.eq_nil_of_length_eq_zero (by omega);subst this;rw [B5];exact .nil
 |succ n ih=>
  intro L h hv
  cases L with
  |nil=>rw [B5];exact .nil
  |cons x r=>
   have hr:r.length≤n:=by simpa using h
   cases h1:AJ x.r q with
   |true=>rw [DX h1];exact .nil
   |false=>
    cases h2:AJ x.r 10 with
    |true=>rw [FL h1 h2];exact .nil
    |false=>
     cases h3:AJ x.r 92 with
     |false=>rw [DG h1 h2 h3];exact .put (hv x (List.mem_cons_self ..)) (ih r hr hv.tail)
     |true=>
      cases r with
      |nil=>rw [EL h1 h2 h3];exact .nil
      |cons y r'=>
       cases h4:AJ y.r 10 with
       |true=>rw [Dh h1 h2 h3 h4];exact ih r' (by simp at hr;omega) hv.tail.tail
       |false=>rw [DW h1 h2 h3 h4];exact .put (T2 hv.tail) (ih _ (by have:=CT (y::r');omega) (hv.tail.suf (Fd _)))
theorem dK:∀(n:Nat) (L:List Rn),L.length≤n→Vl L→∀b,(urlF L).1=some b→Yk b:=by
 intro n
 induction n with
 |zero=>intro L h _ b hb;have:L=[]:=List.eq_nil_of_length_eq_zero (by omega);subst this;rw [Dc] at hb;cases hb;exact .nil
 |succ n ih=>
  intro L h hv b hb
  cases L with
  |nil=>rw [Dc] at hb;cases hb;exact .nil
  |cons x r=>
   have hr:r.length≤n:=by simpa using h
   cases h1:AJ x.r 41 with
   |true=>rw [Er h1] at hb;cases hb;exact .nil
   |false=>
    cases h2:Ad x.r with
    |true=>
     cases h3:Aq r with
     |nil=>rw [He h1 h2 h3] at hb;cases hb;exact .nil
     |cons y r'=>
      cases h4:AJ y.r 41 with
      |true=>rw [HX h1 h2 h3 h4] at hb;cases hb;exact .nil
      |false=>rw [Hb h1 h2 h3 h4] at hb;cases hb
    |false=>
     cases h3:Bo x r with
     |true=>rw [DN h1 h2 h3] at hb;cases hb
     |false=>
      cases h4:AJ x.r 92 with
      |true=>
       rw [Fe h1 h2 h3 h4] at hb
       obtain ⟨b',e,rfl⟩:=Option.map_eq_some_iff.mp hb
       exact .put (T2 hv.tail) (ih _ (by have:=CT r;omega) (hv.tail.suf (Fd r)) b' e)
      |false=>
       rw [Eb h1 h2 h3 h4] at hb
       obtain ⟨b',e,rfl⟩:=Option.map_eq_some_iff.mp hb
       exact .put (hv x (List.mem_cons_self ..)) (ih r hr hv.tail b' e)
theorem Kw {L:List Rn} (hv:Vl L):Yk (A9 L):=by
 induction L with
 |nil=>exact .nil
 |cons x r ih=>exact .put (hv x (List.mem_cons_self ..)) (ih hv.tail)
theorem NP:∀L:List Rn,∀x,x∈(Bc L).1→x∈L
 |[],x,h=>by simp [Bc] at h
 |y::L,x,h=>by
  rw [Bc] at h
  split at h
  ·simp at h
  ·rcases List.mem_cons.mp h with rfl|h
   ·exact List.mem_cons_self ..
   ·exact List.mem_cons_of_mem _ (NP L x h)
theorem Vl.used {l r:List Rn} (h:Vl l):Vl (used l r):=fun x hx=>h x (List.mem_of_mem_take hx)
def L5 (s:ByteArray):Prop:=∃b,Yk b∧s=AO b
theorem L5.nil:L5 ⟨#[]⟩:=⟨[],.nil,rfl⟩
theorem L5.of {b:List Int} (h:Yk b):L5 (AO b):=⟨b,h,rfl⟩
theorem CM {k:Int} {s:ByteArray} (h:L5 s):L5 (AM k s).text∧L5 (AM k s).unit:=⟨h,.nil⟩
theorem X1 {g s:List Rn} (hg:Vl g) (hs:Vl s):L5 (D7 g s).1.text∧L5 (D7 g s).1.unit:=by
 have hb:Vl (Aq s):=hs.suf (Eg s)
 unfold D7
 split
 ·rename_i bs r e
  exact CM (.of (dK _ _ (Nat.le_refl _) hb bs (by rw [e])))
 ·exact CM (.of (Kw hg.used))
theorem UT {l:List Rn} (h:Vl l):L5 (BG l).1.text∧L5 (BG l).1.unit:=by
 have h1:=Kb _ l (Nat.le_refl _) h
 have h2:Vl (AT l).2:=h.suf (Df _ _ (Nat.le_refl _))
 unfold BG
 simp only
 refine AZ (p:=fun q:Tok×List Rn=>L5 q.1.text∧L5 q.1.unit) (fun _=>?_) fun _=>CM (.of h1)
 exact AZ (p:=fun q:Tok×List Rn=>L5 q.1.text∧L5 q.1.unit) (fun _=>X1 h (h2.suf (List.drop_suffix 1 _))) fun _=>CM (.of h1)
theorem aV {l:List Rn} (h:Vl l):L5 (E8 l).1.text∧L5 (E8 l).1.unit:=by
 have h2:Vl (Et l).2:=h.suf (Nn l)
 unfold E8 EP
 refine AZ (p:=fun q:Tok×List Rn=>L5 q.1.text∧L5 q.1.unit) (fun _=>⟨.nil,.of (Kb _ _ (Nat.le_refl _) h2)⟩) fun _=>?_
 exact AZ (p:=fun q:Tok×List Rn=>L5 q.1.text∧L5 q.1.unit) (fun _=>⟨.nil,.nil⟩) fun _=>⟨.nil,.nil⟩
theorem UM {l:List Rn} (h:Vl l):L5 (CH l).1.text∧L5 (CH l).1.unit:=by
 unfold CH
 simp only
 exact AZ (p:=fun q:Tok=>L5 q.text∧L5 q.unit) (fun _=>CM (.of (Kw h.used))) fun _=>CM (.of (UX _ _ _ (Nat.le_refl _) (h.suf (List.drop_suffix 1 l))))
theorem fC {l:List Rn} {T:Tok×List Rn} (h:One l T) (hv:Vl l):L5 T.1.text∧L5 T.1.unit:=by
 cases h with
 |comm h=>exact CM (.of (Kw fun x hx=>hv x (List.mem_of_mem_drop (NP _ x hx))))
 |blank h=>
  refine CM ?_
  split
  ·exact ⟨[10],⟨[10],fun r hr=>by rw [List.mem_singleton.mp hr];exact ⟨⟨by decide,by decide,by decide⟩,by decide⟩,rfl⟩,rfl⟩
  ·exact ⟨[32],⟨[32],fun r hr=>by rw [List.mem_singleton.mp hr];exact ⟨⟨by decide,by decide,by decide⟩,by decide⟩,rfl⟩,rfl⟩
 |quote h=>exact UM hv
 |hash h h2=>exact ⟨.of (Kb _ _ (Nat.le_refl _) (hv.suf (List.drop_suffix 1 l))),.nil⟩
 |num h=>exact aV hv
 |cdc h=>exact CM .nil
 |cdo h=>exact CM .nil
 |named h=>exact UT hv
 |«at» h h2=>exact CM (.of (Kb _ _ (Nat.le_refl _) (hv.suf (List.drop_suffix 1 l))))
 |delim=>exact CM (.of (Kw fun x hx=>hv x (List.mem_of_mem_take hx)))
 |sign h=>exact CM .nil
def Js (bs:List Int):List Int:=match bs with
 |[]=>[]
 |c::r=>(if AJ (Bb c r).1 0=true then 65533 else (Bb c r).1)::Js (r.drop ((Bb c r).2 - 1))
termination_by bs.length
decreasing_by simp;omega
theorem V5:Js []=[]:=by rw [Js]
theorem fK {r:Int} (h:Cn r) (b:List Int):Js (Ao r++b)=r::Js b:=by
 obtain ⟨c,u,e,hn⟩:=Sn h.1
 rw [e,List.cons_append,Js,hn b]
 simp only [Nat.add_sub_cancel]
 rw [List.drop_left,AF h.2];rfl
theorem cY {l:List Int} (h:∀r,r∈l→Cn r):Js (enc l)=l:=by
 induction l with
 |nil=>exact V5
 |cons r l ih=>rw [Aa,fK (h r (List.mem_cons_self ..)),ih fun x hx=>h x (List.mem_cons_of_mem _ hx)]
end Go.Vx.Seat
end
section
open Go Go.Vx Go.Proofs
set_option maxRecDepth 10000
set_option maxHeartbeats 8000000
namespace Go.Vx.Seat
attribute [local irreducible] Rg Rt Ro Ri Rc Ds Dt Dw Dx Rw Rl Rd Av An kf
end Go.Vx.Seat
end
