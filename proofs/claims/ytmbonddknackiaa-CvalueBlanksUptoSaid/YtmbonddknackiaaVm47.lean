/- Texts joined: VzP1 VyE4a VzX2 VzS3 VzG1 VzI1 VzV1 VzV2 VzW1 VzX3 VzY2 VzP2. -/
import Derived.Test.YtmbonddknackiaaVm46
import Derived.Test.YtmbonddknackiaaVm42
import Derived.Test.YtmbonddknackiaaVm45
import Derived.Test.YtmbonddknackiaaVm37
import Derived.Test.YtmbonddknackiaaVyOwn
import Derived.Test.YtmbonddknackiaaVyNbox
import Derived.Test.YtmbonddknackiaaVyCut
import Derived.Test.YtmbonddknackiaaVm43
import Derived.Test.YtmbonddknackiaaVyGive
set_option linter.unusedSimpArgs false
set_option linter.unusedVariables false
section
open Go Go.Vx Go.Proofs
namespace Go.Vx.Seat
def qt (t:Tok):Bool:=BK t.kind
def Im (t:Tok):Bool:= !BK t.kind
def op (l:List Tok):List Int:=l.foldl (fun o t=>BS o t.kind) []
theorem cV (l:List Tok) (t:Tok):op (l++[t])=BS (op l) t.kind:=by simp [op]
theorem Jh (ts:List Tok):∀i,i≤ts.length→AX ts i=op (ts.take i)
 |0,_=>rfl
 |i+1,h=>by
  obtain ⟨t,ht⟩:=get_lt (l:=ts) (i:=i) (by omega)
  rw [Fj ht,Jh ts i (by omega),List.take_add_one,ht]
  exact (cV _ _).symm
def EJ (o:List Int):Prop:=∀k,k∈o→QL k
theorem EJ.step {o:List Int} (h:EJ o) (q:Int):EJ (BS o q):=by
 intro k hk
 unfold BS at hk
 split at hk
 ·exact h k ((List.dropLast_sublist _).subset hk)
 ·split at hk
  ·rename_i hc
   rcases List.mem_append.mp hk with hk|hk
   ·exact h k hk
   ·rw [List.mem_singleton.mp hk];exact LF hc
  ·exact h k hk
theorem EJ.nil:EJ []:=fun k h=>by simp at h
theorem QP:∀(l:List Tok) {o:List Int},EJ o→EJ (l.foldl (fun o t=>BS o t.kind) o)
 |[],o,h=>h
 |t::l,o,h=>QP l (h.step t.kind)
theorem d5 (l:List Tok):EJ (op l):=QP l .nil
theorem NQ {o:List Int} (h:EJ o) {q:Int} (hq:BK q=true):¬o.getLast?=some q:=fun hl=>by
 have h1:=h q (List.mem_of_getLast? hl)
 simp only [BK,Bool.or_eq_true,decide_eq_true_eq] at hq
 unfold QL at h1
 omega
theorem Qp {q:Int} (hq:BK q=true):BP q=0:=by
 simp only [BK,Bool.or_eq_true,decide_eq_true_eq] at hq
 unfold BP
 rw [if_neg (by omega),if_neg (by omega),if_neg (by omega)]
theorem J6 {o:List Int} (h:EJ o) {q:Int} (hq:BK q=true):BS o q=o:=by
 rw [BS,if_neg (NQ h hq),Qp hq];rfl
theorem Z9:∀(l:List Tok) {o:List Int},EJ o→(l.filter Im).foldl (fun o t=>BS o t.kind) o=l.foldl (fun o t=>BS o t.kind) o
 |[],o,h=>rfl
 |t::l,o,h=>by
  cases hq:BK t.kind with
  |true=>
   rw [List.filter_cons_of_neg (by simp [Im,hq]),List.foldl_cons,J6 h hq]
   exact Z9 l h
  |false=>
   rw [List.filter_cons_of_pos (by simp [Im,hq]),List.foldl_cons,List.foldl_cons]
   exact Z9 l (h.step _)
theorem Xj (l:List Tok):op (l.filter Im)=op l:=Z9 l .nil
def cB (s:List Int×Nat×Bool) (t:Tok):List Int×Nat×Bool:=
 (BS s.1 t.kind,if BK t.kind=true then s.2 else if Fk t.kind=true∧(HV s.1 t.kind).2.1=true then (0,s.2.2) else (s.2.1+1,decide (t.kind=1)))
def Xy (l:List Tok):List Int×Nat×Bool:=l.foldl cB ([],0,false)
theorem ZZ (l:List Tok) (t:Tok):Xy (l++[t])=cB (Xy l) t:=by simp [Xy]
theorem jZ (l:List Tok):(Xy l).1=op l:=by
 have key:∀(l:List Tok) (s:List Int×Nat×Bool),(l.foldl cB s).1=l.foldl (fun o t=>BS o t.kind) s.1:=by
  intro l
  induction l with
  |nil=>intro s;rfl
  |cons t l ih=>intro s;rw [List.foldl_cons,List.foldl_cons,ih];rfl
 exact key l _
theorem N3 (ts:List Tok):∀i,i≤ts.length→DM ts i=(Xy (ts.take i)).2
 |0,_=>rfl
 |i+1,h=>by
  obtain ⟨t,ht⟩:=get_lt (l:=ts) (i:=i) (by omega)
  have hk:=B6 ht
  have hpl:pl ts i=HV (op (ts.take i)) t.kind:=by rw [pl,hk,Jh ts i (by omega)]
  rw [DM,List.take_add_one,ht,hk,hpl,N3 ts i (by omega)]
  show _=(Xy (ts.take i++[t])).2
  rw [ZZ,cB,jZ]
theorem VI:∀(l:List Tok) {s:List Int×Nat×Bool},EJ s.1→(l.filter Im).foldl cB s=l.foldl cB s
 |[],s,h=>rfl
 |t::l,s,h=>by
  cases hq:BK t.kind with
  |true=>
   rw [List.filter_cons_of_neg (by simp [Im,hq]),List.foldl_cons]
   have:cB s t=s:=by rw [cB,J6 h hq,if_pos hq]
   rw [this]
   exact VI l h
  |false=>
   rw [List.filter_cons_of_pos (by simp [Im,hq]),List.foldl_cons,List.foldl_cons]
   exact VI l (h.step _)
theorem UR (l:List Tok):Xy (l.filter Im)=Xy l:=VI l .nil
def Ef (o:List Int) (D:Nat):List Tok→Bool
 |[]=>true
 |t::r=>if (HV o t.kind).1<D then true else if (HV o t.kind).1=D∧Fk t.kind=true then !decide (t.kind=19) else Ef (BS o t.kind) D r
theorem M4 {ts:List Tok} {i:Nat} {t:Tok} (ht:ts[i]?=some t):ts.drop i=t::ts.drop (i+1):=by
 obtain ⟨h1,h2⟩:=List.getElem?_eq_some_iff.mp ht
 rw [List.drop_eq_getElem_cons h1,h2]
theorem N1 (ts:List Tok) (i:Nat):∀d k,k+d=ts.length→Cz ts i d k=Ef (AX ts k) (pl ts i).1 (ts.drop k)
 |0,k,h=>by rw [Cz,List.drop_eq_nil_of_le (by omega)];rfl
 |d+1,k,h=>by
  obtain ⟨t,ht⟩:=get_lt (l:=ts) (i:=k) (by omega)
  have hk:=B6 ht
  rw [Cz,N1 ts i d (k+1) (by omega),M4 ht,Ef,Fj ht,hk]
  have hpl:pl ts k=HV (AX ts k) t.kind:=by rw [pl,hk]
  rw [hpl]
theorem fP (o:List Int) (k:Int):(HV o k).1≤o.length:=by
 unfold HV
 simp only
 split
 ·simp
 ·exact Nat.le_refl _
theorem Wt {o:List Int} {D:Nat} (h:o.length<D):∀l,Ef o D l=true
 |[]=>rfl
 |t::r=>by rw [Ef,if_pos (by have:=fP o t.kind;omega)]
theorem OS:∀(l:List Tok) {o:List Int} {D:Nat},EJ o→Ef o D (l.filter Im)=Ef o D l
 |[],o,D,h=>rfl
 |t::l,o,D,h=>by
  cases hq:BK t.kind with
  |true=>
   rw [List.filter_cons_of_neg (by simp [Im,hq]),Ef]
   have h1:(HV o t.kind).1=o.length:=by simp [HV,NQ h hq]
   have h2:Fk t.kind=false:=by
    simp only [BK,Bool.or_eq_true,decide_eq_true_eq] at hq
    rcases hq with hq|hq<;>rw [hq]<;>rfl
   rw [h1,h2,J6 h hq]
   by_cases h3:o.length<D
   ·rw [if_pos h3,Wt h3]
   ·rw [if_neg h3,if_neg (by simp)]
    exact OS l h
  |false=>
   rw [List.filter_cons_of_pos (by simp [Im,hq]),Ef,Ef,OS l (h.step _)]
def Dp (pre:List Tok) (t:Tok) (post:List Tok):Bool:=
 decide (t.kind=16)&&(HV (op pre) t.kind).2.1&&decide (0<(HV (op pre) t.kind).1)&&decide ((Xy pre).2.1=1)&&(Xy pre).2.2&&Ef (BS (op pre) t.kind) (HV (op pre) t.kind).1 post
theorem S7 {ts:List Tok} {i:Nat} {t:Tok} (ht:ts[i]?=some t):Bs ts i=Dp (ts.take i) t (ts.drop (i+1)):=by
 have hi:=(List.getElem?_eq_some_iff.mp ht).1
 have hk:=B6 ht
 have hpl:pl ts i=HV (op (ts.take i)) t.kind:=by rw [pl,hk,Jh ts i (by omega)]
 rw [Bs,Dp,hk,N3 ts i (by omega),Ky,N1 ts i _ _ (by omega),hpl,Fj ht,Jh ts i (by omega)]
theorem Su (pre post:List Tok) (t:Tok):Dp (pre.filter Im) t (post.filter Im)=Dp pre t post:=by
 rw [Dp,Dp,Xj,UR,OS post ((d5 pre).step t.kind)]
theorem Mm {pre pre' post post':List Tok} {t:Tok} (h1:pre.filter Im=pre'.filter Im) (h2:post.filter Im=post'.filter Im):Dp pre t post=Dp pre' t post':=by
 rw [←Su pre,←Su pre',h1,h2]
def I4 (pre:List Tok):Bool:=match pre.getLast? with|some t=>Cd t|none=>false
def Xw (pre post:List Tok):Bool:=match pre.getLast? with|some t=>Ns t.kind||Dp pre.dropLast t post|none=>true
def XF (pre:List Tok):List Tok→Bool
 |[]=>true
 |u::r=>OA u.kind||Dp pre u r
def IR (t:Tok):Bool:=AJ t.kind 13
def JB (pre run rest:List Tok):List Tok:=match run.find? IR with
 |none=>run.filter kp
 |some s=>if I4 pre then Ew ⟨#[10]⟩ s.start::run.filter kp else if Xw pre (run++rest)||XF (pre++run) rest then run.filter kp else run.filter kp++[Ew ⟨#[32]⟩ s.start]
def HI (pre suf:List Tok):List Tok:=match suf with
 |[]=>[]
 |t::r=>if BK t.kind=true then JB pre (t::r.takeWhile qt) (r.dropWhile qt)++HI (pre++(t::r.takeWhile qt)) (r.dropWhile qt) else t::HI (pre++[t]) r
termination_by suf.length
decreasing_by
 ·have:=(List.dropWhile_sublist (l:=r) qt).length_le
  simp;omega
 ·simp
theorem Fi (pre:List Tok):HI pre []=[]:=by rw [HI]
theorem Iw (pre:List Tok) {t:Tok} (r:List Tok) (h:BK t.kind=false):HI pre (t::r)=t::HI (pre++[t]) r:=by rw [HI,if_neg (by rw [h];simp)]
theorem Kk (pre:List Tok) {run rest:List Tok} (hr:run≠[]) (hq:∀t,t∈run→BK t.kind=true) (hn:∀u r,rest=u::r→BK u.kind=false):HI pre (run++rest)=JB pre run rest++HI (pre++run) rest:=by
 cases run with
 |nil=>exact absurd rfl hr
 |cons t run=>
  have h1:(run++rest).takeWhile qt=run:=by
   rw [List.takeWhile_append_of_pos (p:=qt) (fun a ha=>hq a (List.mem_cons_of_mem _ ha))]
   cases rest with
   |nil=>simp
   |cons u r=>rw [List.takeWhile_cons_of_neg (by simp [qt,hn u r rfl])];simp
  have h2:(run++rest).dropWhile qt=rest:=by
   rw [List.dropWhile_append_of_pos (p:=qt) (fun a ha=>hq a (List.mem_cons_of_mem _ ha))]
   cases rest with
   |nil=>rfl
   |cons u r=>rw [List.dropWhile_cons_of_neg (by simp [qt,hn u r rfl])]
  rw [List.cons_append,HI,if_pos (hq t (List.mem_cons_self ..)),h1,h2]
end Go.Vx.Seat
end
section
open Go Go.Vx Go.Proofs
set_option maxRecDepth 10000
set_option maxHeartbeats 8000000
namespace Go.Vx.Seat
attribute [local irreducible] Rg Rt Ro Ri Rc Ds Dt Dw Dx Rw Rl Rd Av An kf
end Go.Vx.Seat
end
section
open Go Go.Vx Go.Proofs
set_option maxRecDepth 10000
set_option maxHeartbeats 8000000
namespace Go.Vx.Seat
attribute [local irreducible] Rg Rt Ro Ri Rc Ds Dt Dw Dx Rw Rl Rd Av An kf
end Go.Vx.Seat
end
section
open Go Go.Vx Go.Proofs
set_option maxRecDepth 10000
set_option maxHeartbeats 4000000
namespace Go.Vx.Seat
attribute [local irreducible] Rg Rt Ro Ri Rc Ds Dt Dw Dx Rw Rl Rd Av An kf
theorem nS:By C1.P.funcs.toList 90=some Try.f90:=by kernel_rfl
theorem lG:By C1.P.funcs.toList 112=some Try.f112:=by kernel_rfl
theorem Sv (l:List Int) (n:Int) (hl:l.length≤200000000):AS C1 112 [.c (.p (rI l)),yd (.int .i64 n)] fun y=>∃v:Int,y=yd (.int .i64 v)∧(AN 0 v=l.contains n):=by
 refine Pf (by rfl) (by rfl) lG (by rfl) ?_
 simp only [Try.f112,List.length_cons,List.length_nil,List.replicate,List.cons_append,List.nil_append]
 simp -implicitDefEqProofs only [↓yP,yT]
 refine Ah (fun d e s=>∃i:Nat,e=[.c (.p (rI l)),yd (.int .i64 n),Tp,Tp,Tp,Tp,Tp,yd (.int .i64 (l.length:Nat)),yd (.int .i64 i),Tp,Tp,Tp,Tp,Tp,Tp,Tp,Tp,Tp,Tp]∧s=[]∧i+d=l.length∧∀(j:Nat) (a:Int),j<i→l[j]?=some a→a≠n) [true,true,false,false,false,false,false,true,true] l.length [] (by decide) (AC _) ⟨0,by simp only [yE];rfl,rfl,by omega,fun j a hj=>absurd hj (Nat.not_lt_zero j)⟩ ?_
 rintro d e s ⟨i,rfl,rfl,hd,hno⟩
 by_cases hi:i<l.length
 ·obtain ⟨a,ha⟩:=get_lt hi
  have t1:AN (l.length:Nat) (i:Nat)=false:=AE (by omega)
  have w1:AG .i64 ((i:Int)+1)=((i+1:Nat):Int):=AK (by omega)
  by_cases he:n=a
  ·subst he
   simp -implicitDefEqProofs only [↓yP,yT,reduceCtorEq,t1,AP ha,ei,CV]
   refine ⟨_,rfl,?_⟩
   rw [AH (by omega)]
   exact (List.contains_iff_mem.mpr (List.mem_of_getElem? ha)).symm
  ·simp -implicitDefEqProofs only [↓yP,yT,t1,AP ha,ei,AF he,w1]
   refine ⟨d - 1,[],by omega,by decide,AC _,i+1,by (simp only [yE];try rfl),by (simp only [yE];try rfl),by omega,fun j b hj hb=>?_⟩
   by_cases e:j=i
   ·subst e;rw [ha] at hb;cases hb;exact fun h=>he h.symm
   ·exact hno j b (by omega) hb
 ·have t1:AN (l.length:Nat) (i:Nat)=true:=AH (by omega)
  simp -implicitDefEqProofs only [↓yP,yT,reduceCtorEq,t1]
  refine ⟨_,rfl,?_⟩
  rw [AE (by omega)]
  symm
  rw [Bool.eq_false_iff]
  intro h
  obtain ⟨j,hj⟩:=List.getElem?_of_mem (List.contains_iff_mem.mp h)
  exact hno j n (by have:=(List.getElem?_eq_some_iff.mp hj).1;omega) hj rfl
theorem Oh (l:List Int) (n:Int) (hl:l.length≤200000000):AS C1 90 [.c (.p (rI l)),yd (.int .i64 n)] fun y=>y=yd (.bool (l.contains n)):=by
 refine Pf (by rfl) (by rfl) nS (by rfl) ?_
 simp only [Try.f90,List.length_cons,List.length_nil,List.replicate,List.cons_append,List.nil_append]
 simp -implicitDefEqProofs only [↓yP,yT]
 refine AB (Sv l n hl) (by rfl) fun y hy=>?_
 obtain ⟨v,rfl,hv⟩:=hy
 simp -implicitDefEqProofs only [↓yP,yT,reduceCtorEq,hv]
end Go.Vx.Seat
end
section
open Go Go.Vx Go.Proofs
set_option maxRecDepth 10000
set_option maxHeartbeats 4000000
namespace Go.Vx.Seat
attribute [local irreducible] Rg Rt Ro Ri Rc Ds Dt Dw Dx Rw Rl Rd Av An kf
theorem lU:By C1.P.funcs.toList 62=some Try.f62:=by kernel_rfl
def rb (ts:List Tok) (cols:List Int) (out:PC):List PC:=[rT ts,rI cols,out]
theorem LU (ts:List Tok) (cols kinds:List Int) (out:PC) (i:Int) (h:i<0∨(ts.length:Int)≤i):AS C1 62 [.c (.rp (rb ts cols out)),yd (.int .i64 i),.c (.p (rI kinds))] fun y=>y=yd (.bool true):=by
 refine Pf (by rfl) (by rfl) lU (by rfl) ?_
 simp only [Try.f62,List.length_cons,List.length_nil,List.replicate,List.cons_append,List.nil_append]
 unfold rb
 by_cases h0:i<0
 ·have t0:AN 0 i=false:=AE (by omega)
  simp -implicitDefEqProofs only [↓yP,yT,reduceCtorEq,t0]
 ·have t0:AN 0 i=true:=AH (by omega)
  have t1:AN (ts.length:Nat) i=true:=AH (by omega)
  simp -implicitDefEqProofs only [↓yP,yT,Nat.reduceAdd,reduceCtorEq,t0,t1]
theorem M8 (ts:List Tok) (cols kinds:List Int) (out:PC) (n:Nat) (t:Tok) (ht:ts[n]?=some t) (hl:ts.length≤200000000) (hc:cols.length≤200000000) (hr:Om cols) (hk:kinds.length≤200000000):
  AS C1 62 [.c (.rp (rb ts cols out)),yd (.int .i64 (n:Nat)),.c (.p (rI kinds))] fun y=>y=yd (.bool (cols.contains ((n:Nat):Int)||kinds.contains t.kind)):=by
 have hn:n<ts.length:=(List.getElem?_eq_some_iff.mp ht).1
 have t0:AN 0 (n:Nat)=true:=AH (by omega)
 have t1:AN (ts.length:Nat) (n:Nat)=false:=AE (by omega)
 refine Pf (by rfl) (by rfl) lU (by rfl) ?_
 simp only [Try.f62,List.length_cons,List.length_nil,List.replicate,List.cons_append,List.nil_append]
 unfold rb
 simp -implicitDefEqProofs only [↓yP,yT,Nat.reduceAdd,Nat.reduceLeDiff,t0,t1]
 refine AB (TJ cols n hc hr) (by rfl) fun y hy=>?_
 obtain ⟨k,b,rfl,hs,hb⟩:=hy
 have hbc:cols.contains ((n:Nat):Int)=b:=by
  rw [Bool.eq_iff_iff,List.contains_iff_mem]
  constructor
  ·intro hm
   obtain ⟨j,hj⟩:=List.getElem?_of_mem hm
   rcases Nat.lt_or_ge j k with h|h
   ·have:=hs.2.1 j _ h hj;omega
   ·rcases Nat.eq_or_lt_of_le h with e|h2
    ·rw [←e] at hj;exact hb.mpr hj
    ·obtain ⟨a,ha⟩:=get_lt (l:=cols) (i:=k) (by have:=(List.getElem?_eq_some_iff.mp hj).1;omega)
     have h3:=hs.2.2 k a (Nat.le_refl _) ha
     have h4:=hr k j a _ h2 ha hj
     omega
  ·intro h;exact List.mem_of_getElem? (hb.mp h)
 cases b with
 |true=>
  simp -implicitDefEqProofs only [↓yP,yT,reduceCtorEq]
  rw [hbc];rfl
 |false=>
  simp -implicitDefEqProofs only [↓yP,yT,Nat.reduceAdd,reduceCtorEq,AP ht,Tok.pc]
  refine AB (Oh kinds t.kind hk) (by rfl) fun y hy=>?_
  subst hy
  simp -implicitDefEqProofs only [↓yP,yT,reduceCtorEq]
  rw [hbc];rfl
end Go.Vx.Seat
end
section
open Go Go.Vx Go.Proofs
namespace Go.Vx.Seat
theorem YI:C1.told 61=some KD:=rfl
theorem VE {x:List PC} {id:Nat} {s:BH} {K:YV→BH→Prop} (hid:s[id]?=some (.row 13 [x])) (hK:K (.c (.own s.length 13 0 1)) (s++[.row 13 [x]])):
  YC C1 false 61 [.c (.p (.d (.slice none 0 0))),yd (.int .i64 0),.c (.own id 13 0 1)] s K:=by
 intro lo m R h vals hs ha
 match vals,ha.1,ha with
 |[v0,v1,v2],_,ha=>
  obtain ⟨rfl,_⟩:=Af.dv (ha.2 0 _ _ rfl rfl) (show Go.Vx.dv (.c (.p (.d (.slice none 0 0))))=some (.slice none 0 0) from rfl)
  obtain ⟨rfl,_⟩:=Af.dv (ha.2 1 _ _ rfl rfl) (show Go.Vx.dv (yd (.int .i64 0))=some (.int .i64 0) from rfl)
  have h2:Af m R h (.c (.own id 13 0 1)) v2:=ha.2 2 _ _ rfl rfl
  have hy:H5 Try.prog 22 22 (.c (.p (.d (.slice none 0 0)))) (.c (.own id 13 0 1)) s=some (.val (.c (.own s.length 13 0 1)),s++[.row 13 [x]]):=by
   have e1:Bt Try.prog 22=some 38:=by kernel_rfl
   have e2:CF Try.prog 38=some (clist ztv):=by unfold CF;rw [qC];rfl
   have e6:(clist ztv).length=13:=rfl
   have e3:Ab Try.prog 38=13:=by kernel_rfl
   have e4:A0 Try.prog 38=128:=by kernel_rfl
   have e5:Ac Try.prog 22=false:=by kernel_rfl
   have e7:By s id=some (.row 13 [x]):=by rw [Cf];exact hid
   unfold H5
   simp only [e1,e2,e3,e4,e5,e6]
   simp [FU,ES,e7,Q7]
  obtain ⟨y,v',h',e,hx,hd⟩:=J3 (lo:=lo) hs (ha.2 0 _ _ rfl rfl) h2 hy
  cases e
  obtain ⟨m',k1,k2,k3,k4⟩:=hd
  have hv2:∃ax sx,v2=.slice (some ax) 1 sx:=by
   obtain ⟨_,⟨_,_,h5⟩|⟨b,_,h5⟩⟩:=h2
   ·cases h5
   ·exact ⟨_,_,h5⟩
  obtain ⟨ax,sx,rfl⟩:=hv2
  have hx':EZ Try.prog lo 22 22 (.slice none 0 0) (.slice (some ax) 1 sx) h=some (v',h'):=by
   revert hx
   unfold Fq
   split
   ·intro hx;cases hx;assumption
   ·intro hx;cases hx
  refine Hu YI (v:=v') (h':=h') (by simp only [KD,if_true];exact hx') ⟨m',R,_,_,hK,k1,k2,k3,k4,fun hd=>by cases hd⟩
theorem T3 {x:List PC} {els:List (List PC)} {k id:Nat} {s:BH} {K:YV→BH→Prop} (hk:s[k]?=some (.row 13 els)) (hne:0<els.length) (hle:els.length≤200000000) (hid:s[id]?=some (.row 13 [x])) (hik:id≠k)
  (hK:K (.c (.own s.length 13 0 (els.length+1))) (s.set k .dead++[.row 13 (x::els)])):
  YC C1 false 61 [.c (.own k 13 0 els.length),yd (.int .i64 0),.c (.own id 13 0 1)] s K:=by
 intro lo m R h vals hs ha
 match vals,ha.1,ha with
 |[v0,v1,v2],_,ha=>
  obtain ⟨rfl,_⟩:=Af.dv (ha.2 1 _ _ rfl rfl) (show Go.Vx.dv (yd (.int .i64 0))=some (.int .i64 0) from rfl)
  have h0:CI m R h (.own k 13 0 els.length) v0:=ha.2 0 _ _ rfl rfl
  have h2:CI m R h (.own id 13 0 1) v2:=ha.2 2 _ _ rfl rfl
  obtain ⟨_,⟨_,_,hc⟩|⟨b,hm,rfl⟩⟩:=h0
  ·omega
  obtain ⟨_,⟨_,_,hc⟩|⟨bx,hmx,rfl⟩⟩:=h2
  ·cases hc
  rcases hs.ent _ _ _ hk hm with ⟨e1,_⟩|⟨b',vs,e1,e2,e3,e4⟩
  ·cases e1
  cases e1
  rcases hs.ent _ _ _ hid hmx with ⟨e1,_⟩|⟨bx',vx,e1,f2,f3,f4⟩
  ·cases e1
  cases e1
  have hbx:bx≠b:=fun e=>by
   subst e
   exact hik (hs.inj id k _ _ bx hid hk (by simp) (by simp) hmx hm)
  have b1:=e4.bound
  have b2:=f4.bound
  simp only [List.length_singleton] at b2
  have hg:KD lo [.slice (some ⟨b,0*13,none⟩) els.length 13,.int .i64 0,.slice (some ⟨bx,0*13,none⟩) 1 13] h=
    some (.slice (some ⟨h.n,0,none⟩) (els.length+1) 13,(h.put b none).push ⟨true,vx.take 13++vs.take (els.length*13)⟩):=by
   simp only [KD,H.getK_eq,e3,f3]
   rw [if_pos ⟨trivial,hne,hle,trivial,trivial,trivial,e2,trivial,hbx,by omega,by omega⟩]
   simp
  obtain ⟨g1,g2⟩:=hs.set (e':=.dead) (x:=none) hk (by simp) hm trivial
  have hRk:∀c,R c→(h.put b none).get c=h.get c:=fun c hc=>H.get_put_ne _ (H.get_lt e3) fun he'=>by
   subst he';exact hs.own c ⟨_,_,hk,by simp,hm⟩ hc
  have l1:=(e4.mono (fun _ h=>h) hRk).sub (a:=0) (n:=els.length) (by omega)
  have l2:=(f4.mono (fun _ h=>h) hRk).sub (a:=0) (n:=1) (by simp)
  simp only [List.drop_zero,List.take_length,Nat.zero_mul,Nat.add_zero] at l1 l2
  have hat:L2 (PRep R (h.put b none)) (x::els).flatten (vx.take 13++vs.take (els.length*13)):=by
   have a1:=l2.at_
   have a2:=l1.at_
   simp only [List.take_succ_cons,List.take_zero,List.length_singleton,Nat.one_mul,List.drop_zero] at a1 a2
   have:=a1.append a2
   simpa using this
  obtain ⟨m',p1,p2,p3,p4⟩:=Gc g1 (sz:=13) (by decide) (els:=x::els) (fun cs hc=>by
   rcases List.mem_cons.mp hc with rfl|hc
   ·exact f4.each _ (by simp)
   ·exact e4.each _ hc) hat
  rw [show (s.set k Ent.dead).length=s.length by simp] at p2
  refine Hu YI (v:=.slice (some ⟨h.n,0,none⟩) (els.length+1) 13) (h':=(h.put b none).push ⟨true,vx.take 13++vs.take (els.length*13)⟩) hg ⟨m',R,_,_,hK,?_,?_,?_,p4,fun hd=>by cases hd⟩
  ·exact p1
  ·exact p2
  ·exact g2.trans p3
section
variable {pin:Nat} {e:List YV} {fs:List Fr} {Q:FI} {gs:List (Option Nat)} {rest:List Oper} {d:Option Nat}
theorem PH {x:List PC} {id:Nat} {s:BH} (hid:s[id]?=some (.row 13 [x])) (hK:Rg C1 pin false gs rest fs Q (yput e d (.c (.own s.length 13 0 1))) (s++[.row 13 [x]])):
  Av C1 pin false gs d rest fs Q e 61 [.c (.p (.d (.slice none 0 0))),yd (.int .i64 0),.c (.own id 13 0 1)] s:=VE (K:=fun v s=>Rg C1 pin false gs rest fs Q (yput e d v) s) hid hK
theorem O4 {x:List PC} {els:List (List PC)} {k id n:Nat} {s:BH} (hn:els.length=n) (hk:s[k]?=some (.row 13 els)) (hne:0<n) (hle:n≤200000000) (hid:s[id]?=some (.row 13 [x])) (hik:id≠k)
  (hK:Rg C1 pin false gs rest fs Q (yput e d (.c (.own s.length 13 0 (n+1)))) (s.set k .dead++[.row 13 (x::els)])):
  Av C1 pin false gs d rest fs Q e 61 [.c (.own k 13 0 n),yd (.int .i64 0),.c (.own id 13 0 1)] s:=by
 subst hn
 exact T3 (K:=fun v s=>Rg C1 pin false gs rest fs Q (yput e d v) s) hk hne hle hid hik hK
end
end Go.Vx.Seat
end
section
open Go Go.Vx Go.Proofs
set_option maxRecDepth 10000
set_option maxHeartbeats 4000000
namespace Go.Vx.Seat
attribute [local irreducible] Rg Rt Ro Ri Rc Ds Dt Dw Dx Rw Rl Rd Av An kf
theorem pC:By C1.P.funcs.toList 40=some Try.f40:=by kernel_rfl
def Xc (ts:List Tok) (cols:List Int) (id n:Nat):List Ce:=[.p (rT ts),.p (rI cols),.own id 13 0 n]
def kV:List Tok→YV
 |[]=>.c (.p (.d (.slice none 0 0)))
 |t::l=>.c (.own 2 13 0 (l.length+1))
def kE:List Tok→Ent
 |[]=>.dead
 |t::l=>.row 13 ((t::l).map Tok.pc)
theorem PX (cs:List Int) (n k:Int):(cs.contains n||[19,20,21,2,23,18,17].contains k)=(Ns k||cs.contains n):=by
 rw [Bool.or_comm];congr 1;rw [Bool.eq_iff_iff];simp [Ns,BN]
theorem Po (cs:List Int) (n k:Int):(cs.contains n||[19,20,22,24,18,17].contains k)=(OA k||cs.contains n):=by
 rw [Bool.or_comm];congr 1;rw [Bool.eq_iff_iff];simp [OA,BN]
theorem TE {ts out:List Tok} {cols kinds:List Int} {s:BH} {id k:Nat} {x:Int} (h0:By s 0=some (.box [.p (rT ts),.p (rI cols),.own 1 13 0 out.length])) (h1:By s 1=some (.row 13 (out.map Tok.pc)))
  (h2:By s id=some (.row 1 (kinds.map ei))) (hk:kinds.length=k):List.map (IV s) [.c (.ptr 0 0 0 0),yd (.int .i64 x),.c (.own id 1 0 k)]=[.c (.rp (rb ts cols (rT out))),yd (.int .i64 x),.c (.p (rI kinds))]:=by
 subst hk
 simp [IV,Qk,Fu,ES,h0,h1,h2,pcs,rb,List.take_of_length_le]
theorem QQ (ts:List Tok) (cols:List Int) (out:List Tok) (i kk:Nat) (hik:i≤kk) (hk:kk≤ts.length) (hl:ts.length≤200000000) (hc:cols.length≤200000000) (hr:Om cols) (ho:out.length≤200000000) (htx:∀t,t∈ts→(AA t.text).length≤4000000000):
  YC C1 false 40 [.c (.ptr 0 0 0 0),yd (.int .i64 i),yd (.int .i64 kk)] [.box (Xc ts cols 1 out.length),.row 13 (out.map Tok.pc)] fun y s=>
   s=[.box (Xc ts cols 2 (out++BY ts cols i kk).length),.dead,.row 13 ((out++BY ts cols i kk).map Tok.pc)]:=by
 refine oW [] (by rfl) (by rfl) pC (by rfl) ?_
 simp only [Try.f40,List.length_cons,List.length_nil,List.replicate,List.cons_append,List.nil_append]
 unfold Xc
 simp -implicitDefEqProofs only [↓yP,yT,Nat.reduceAdd]
 refine Ah (fun d e s=>∃(m:Nat),e=([.c (.ptr 0 0 0 0),yd (.int .i64 i),yd (.int .i64 kk),Tp,Tp,Tp,kV (EV ts i m),yd (.int .i64 (Qe (Bn ts i m))),yd (.int .i64 ((i+m:Nat):Int)),Tp,Tp,Tp,Tp,Tp,Tp,Tp,Tp,Tp,Tp,Tp,Tp,Tp,Tp,Tp,Tp,Tp,Tp,Tp,Tp,Tp,Tp,Tp,Tp,Tp,Tp,Tp,Tp,Tp,Tp,Tp,Tp,Tp,Tp,Tp,Tp,Tp,Tp,Tp,Tp,Tp,Tp,Tp,Tp,Tp,Tp,Tp,Tp,Tp,Tp,Tp,Tp,Tp,Tp,Tp,Tp,Tp,Tp,Tp,Tp,Tp,Tp,Tp,Tp,Tp,Tp,Tp,Tp,Tp,Tp,Tp,Tp,Tp,Tp,Tp,Tp,Tp,Tp,Tp,Tp,Tp,Tp,Tp,Tp,Tp,Tp,Tp,Tp,Tp,Tp,Tp,Tp,Tp,Tp,Tp,Tp,Tp,Tp])∧s=[.box (Xc ts cols 1 out.length),.row 13 (out.map Tok.pc),kE (EV ts i m)]∧m+d=kk - i)
  [true,true,true,false,false,false,true,true,true] (kk - i) [0,1,2] (by decide) (BA _) ⟨0,by (simp only [yE,reduceCtorEq];try rfl),by (simp only [yE,Nat.reduceEqDiff,reduceCtorEq];try rfl),by omega⟩ ?_
 rintro d e s ⟨m,rfl,rfl,hd⟩
 unfold Xc
 cases hkn:EV ts i m with
 |nil=>
  simp only [kV,kE]
  by_cases hk:m<kk - i
  ·obtain ⟨t,ht⟩:=get_lt (l:=ts) (i:=i+m) (by omega)
   have t1:AN (kk:Nat) ((i+m:Nat):Int)=false:=AE (by omega)
   have w1:AG .i64 (((i+m:Nat):Int)+1)=((i+m+1:Nat):Int):=AK (by omega)
   have hks1:EV ts i (m+1)=EV ts i m++(if kp t then [t] else []):=by rw [EV,ht]
   have hsp1:Bn ts i (m+1)=(match Bn ts i m with|some k=>some k|none=>if AJ t.kind 13 then some (i+m) else none):=by rw [Bn,ht];cases Bn ts i m<;>rfl
   simp -implicitDefEqProofs only [↓yP,yT,Nat.reduceAdd,reduceCtorEq,t1,AP ht,Tok.pc]
   cases q1:AJ t.kind 13 with
   |true=>
    have q2:AJ t.kind 25=false:=AF (by have:t.kind=13:=(by rw [BN,decide_eq_true_eq] at q1;exact q1);omega)
    have hkp:kp t=false:=by rw [kp,q2];rfl
    rw [hkp] at hks1
    rw [q1] at hsp1
    simp only [Bool.false_eq_true,if_false,List.append_nil] at hks1
    cases hsn:Bn ts i m with
    |none=>
     rw [hsn] at hsp1
     have s0:AN 0 (-1)=false:=rfl
     simp only [Qe]
     simp -implicitDefEqProofs only [↓yP,yT,s0,w1]
     refine ⟨d - 1,[0,1,2],by omega,by decide,BA _,m+1,?_,?_,by omega⟩
     ·simp only [hks1,hsp1,hkn,if_true];(simp only [yE,reduceCtorEq];try rfl)
     ·simp only [hks1,hkn];(simp only [yE,Nat.reduceEqDiff,reduceCtorEq];try rfl)
    |some n=>
     rw [hsn] at hsp1
     have s0:AN 0 ((n:Nat):Int)=true:=AH (by omega)
     simp only [Qe]
     simp -implicitDefEqProofs only [↓yP,yT,q2,s0,w1]
     refine ⟨d - 1,[0,1,2],by omega,by decide,BA _,m+1,?_,?_,by omega⟩
     ·simp only [hks1,hsp1,hkn];(simp only [yE,reduceCtorEq];try rfl)
     ·simp only [hks1,hkn];(simp only [yE,Nat.reduceEqDiff,reduceCtorEq];try rfl)
   |false=>
    rw [q1] at hsp1
    have hsp2:Bn ts i (m+1)=Bn ts i m:=by rw [hsp1];cases Bn ts i m<;>rfl
    cases q2:AJ t.kind 25 with
    |true=>
     simp -implicitDefEqProofs only [↓yP,yT,q2]
     refine AB (MW t.text (htx t (List.mem_of_getElem? ht))) (by rfl) fun y hy=>?_
     subst hy
     cases hkb:Ia t.text with
     |true=>
      have hkp:kp t=true:=by rw [kp,q2,hkb];rfl
      rw [hkp] at hks1
      simp only [if_true] at hks1
      simp -implicitDefEqProofs only [↓yP,yT,Nat.reduceAdd,Nat.reduceMul,Nat.reduceLeDiff,reduceCtorEq,w1,Nat.reduceLeDiff]
      refine ⟨d - 1,[0,1,5],by omega,by decide,BA _,m+1,?_,?_,by omega⟩
      ·simp only [hks1,hsp2,hkn,List.nil_append,List.length_nil];(simp only [yE,Nat.reduceEqDiff,Nat.reduceAdd,reduceCtorEq];try rfl)
      ·simp only [hks1,hkn,List.nil_append,List.map_nil];(simp only [yE,Nat.reduceEqDiff,reduceCtorEq];try rfl)
     |false=>
      have hkp:kp t=false:=by rw [kp,q2,hkb];rfl
      rw [hkp] at hks1
      simp only [Bool.false_eq_true,if_false,List.append_nil] at hks1
      simp -implicitDefEqProofs only [↓yP,yT,w1]
      refine ⟨d - 1,[0,1,2],by omega,by decide,BA _,m+1,?_,?_,by omega⟩
      ·simp only [hks1,hsp2,hkn];(simp only [yE,reduceCtorEq];try rfl)
      ·simp only [hks1,hkn];(simp only [yE,Nat.reduceEqDiff,reduceCtorEq];try rfl)
    |false=>
     have hkp:kp t=false:=by rw [kp,q2];rfl
     rw [hkp] at hks1
     simp only [Bool.false_eq_true,if_false,List.append_nil] at hks1
     simp -implicitDefEqProofs only [↓yP,yT,q2,w1]
     refine ⟨d - 1,[0,1,2],by omega,by decide,BA _,m+1,?_,?_,by omega⟩
     ·simp only [hks1,hsp2,hkn];(simp only [yE,reduceCtorEq];try rfl)
     ·simp only [hks1,hkn];(simp only [yE,Nat.reduceEqDiff,reduceCtorEq];try rfl)
  ·have hm:m=kk - i:=by omega
   subst hm
   have t1:AN (kk:Nat) ((i+(kk - i):Nat):Int)=true:=AH (by omega)
   have hkn2:0≤200000000:=by
    have hkl:=RJ ts i (kk - i)
    rw [hkn] at hkl
    simp only [List.length_nil] at hkl
    omega
   have b0:out.length*128≤70368744177664:=EQ out.length 0 (by omega) (by omega)
   have b3:(out.length+(0))*128≤70368744177664:=EQ _ _ (by omega) (by omega)
   have b4:(out.length+(0+1))*128≤70368744177664:=EQ _ _ (by omega) (by omega)
   have b5:(0+1)*128≤70368744177664:=EQ _ _ (by omega) (by omega)
   cases hsn:Bn ts i (kk - i) with
   |none=>
    have s0:AN 0 (-1)=false:=rfl
    have hro:BY ts cols i kk=[]:=by rw [BY,hsn,hkn]
    simp only [Qe]
    simp -implicitDefEqProofs only [↓yP,yT,Nat.reduceAdd,Nat.reduceLeDiff,reduceCtorEq,t1,s0,b0]
    refine ⟨.inl trivial,[0,1,4],by decide,BA _,?_⟩
    simp only [hro,List.append_nil]
    (simp only [yE,Nat.reduceEqDiff,Nat.reduceAdd,reduceCtorEq];try rfl)
   |some n=>
    obtain ⟨n1,n2,n3,n4⟩:=Oj hsn
    obtain ⟨tn,htn⟩:=get_lt n3
    have hfr:Ix ts n=tn.start:=by rw [Ix,htn]
    have s0:AN 0 ((n:Nat):Int)=true:=AH (by omega)
    simp only [Qe]
    simp -implicitDefEqProofs only [↓yP,yT,Nat.reduceAdd,Nat.reduceLeDiff,reduceCtorEq,t1,s0,AP htn,Tok.pc]
    cases i with
    |zero=>
     have z0:AN ((0:Nat):Int) 0=true:=rfl
     have w0:AG .i64 (((0:Nat):Int) - 1)= -1:=by rw [show (((0:Nat):Int) - 1)= -1 from rfl];exact Au (by decide) (by decide)
     simp -implicitDefEqProofs only [↓yP,yT,Nat.reduceAdd,Nat.reduceMul,Nat.reduceLeDiff,z0,w0,Nat.reduceLT]
     refine BV (TE (kinds:=[19,20,21,2,23,18,17]) (by rfl) (by rfl) (by rfl) (by rfl)) (LU ts cols _ _ (-1) (.inl (by decide))) (by rfl) fun y hy=>⟨by rw [hy];rfl,?_⟩
     subst hy
     have hro:BY ts cols 0 kk=[]:=by rw [BY,hsn,hkn];rfl
     simp -implicitDefEqProofs only [↓yP,yT,Nat.reduceAdd,reduceCtorEq,b0]
     refine ⟨.inl trivial,[0,1,5],by decide,BA _,?_⟩
     simp only [hro,List.append_nil]
     (simp only [yE,Nat.reduceEqDiff,Nat.reduceAdd,reduceCtorEq];try rfl)
    |succ j=>
     have z0:AN ((j+1:Nat):Int) 0=false:=AE (by omega)
     have w0:AG .i64 (((j+1:Nat):Int) - 1)=((j:Nat):Int):=Bq (i:=j+1) (by omega) (by omega)
     obtain ⟨tj,htj⟩:=get_lt (l:=ts) (i:=j) (by omega)
     simp -implicitDefEqProofs only [yT,Nat.reduceAdd,reduceCtorEq,z0,w0,AP htj,Tok.pc]
     refine AB (P1 tj) (by rfl) fun y hy=>?_
     subst hy
     cases hlb:Cd tj with
     |true=>
      have hro:BY ts cols (j+1) kk=Ew ⟨#[10]⟩ tn.start::[]:=by rw [BY,hsn];simp only [Ht,htj,hlb,if_true,hkn,hfr]
      simp -implicitDefEqProofs only [↓yP,yT,Nat.reduceAdd,Nat.reduceMul,Nat.reduceLeDiff]
      refine PH rfl ?_
      simp -implicitDefEqProofs only [↓yP,yT,Nat.reduceAdd,reduceCtorEq,b4]
      refine ⟨.inl trivial,[0,1,6],by decide,BA _,?_⟩
      simp only [hro,List.map_append,List.map_cons,List.map_nil,List.length_append,List.length_cons,List.length_nil,Nat.zero_add]
      (simp only [yE,Nat.reduceEqDiff,Nat.reduceAdd,reduceCtorEq];try rfl)
     |false=>
      have hln:Ht ts (j+1)=false:=by simp only [Ht,htj,hlb]
      have hgb:(cols.contains ((j:Nat):Int)||[19,20,21,2,23,18,17].contains tj.kind)=LS ts cols (j+1):=by rw [LS,fE,htj,PX]
      simp -implicitDefEqProofs only [↓yP,yT,Nat.reduceAdd,Nat.reduceMul,Nat.reduceLeDiff,w0,Nat.reduceLT]
      refine BV (TE (kinds:=[19,20,21,2,23,18,17]) (by rfl) (by rfl) (by rfl) (by rfl)) (M8 ts cols _ _ j tj htj hl hc hr (by decide)) (by rfl) fun y hy=>⟨by rw [hy];rfl,?_⟩
      subst hy
      rw [hgb]
      cases hg1:LS ts cols (j+1) with
      |true=>
       have hro:BY ts cols (j+1) kk=[]:=by rw [BY,hsn];simp only [hln,hg1,Bool.true_or,if_true,hkn,Bool.false_eq_true,if_false]
       simp -implicitDefEqProofs only [↓yP,yT,Nat.reduceAdd,reduceCtorEq,b0]
       refine ⟨.inl trivial,[0,1,5],by decide,BA _,?_⟩
       simp only [hro,List.append_nil]
       (simp only [yE,Nat.reduceEqDiff,Nat.reduceAdd,reduceCtorEq];try rfl)
      |false=>
       simp -implicitDefEqProofs only [yT,Nat.reduceAdd,Nat.reduceMul,Nat.reduceLeDiff,Nat.reduceLT]
       by_cases hke:kk=ts.length
       ·refine BV (TE (kinds:=[19,20,22,24,18,17]) (by rfl) (by rfl) (by rfl) (by rfl)) (LU ts cols _ _ ((kk:Nat):Int) (.inr (by omega))) (by rfl) fun y hy=>⟨by rw [hy];rfl,?_⟩
        subst hy
        have hga:K3 ts cols kk=true:=by rw [K3,List.getElem?_eq_none (by omega)]
        have hro:BY ts cols (j+1) kk=[]:=by rw [BY,hsn];simp only [hln,hg1,hga,Bool.or_true,if_true,hkn,Bool.false_eq_true,if_false]
        simp -implicitDefEqProofs only [↓yP,yT,Nat.reduceAdd,reduceCtorEq,b0]
        refine ⟨.inl trivial,[0,1,6],by decide,BA _,?_⟩
        simp only [hro,List.append_nil]
        (simp only [yE,Nat.reduceEqDiff,Nat.reduceAdd,reduceCtorEq];try rfl)
       ·obtain ⟨tk,htk⟩:=get_lt (l:=ts) (i:=kk) (by omega)
        have hgb2:(cols.contains ((kk:Nat):Int)||[19,20,22,24,18,17].contains tk.kind)=K3 ts cols kk:=by rw [K3,htk,Po]
        refine BV (TE (kinds:=[19,20,22,24,18,17]) (by rfl) (by rfl) (by rfl) (by rfl)) (M8 ts cols _ _ kk tk htk hl hc hr (by decide)) (by rfl) fun y hy=>⟨by rw [hy];rfl,?_⟩
        subst hy
        rw [hgb2]
        cases hga:K3 ts cols kk with
        |true=>
         have hro:BY ts cols (j+1) kk=[]:=by rw [BY,hsn];simp only [hln,hg1,hga,Bool.or_true,if_true,hkn,Bool.false_eq_true,if_false]
         simp -implicitDefEqProofs only [↓yP,yT,Nat.reduceAdd,reduceCtorEq,b0]
         refine ⟨.inl trivial,[0,1,6],by decide,BA _,?_⟩
         simp only [hro,List.append_nil]
         (simp only [yE,Nat.reduceEqDiff,Nat.reduceAdd,reduceCtorEq];try rfl)
        |false=>
         have hro:BY ts cols (j+1) kk=[]++[Ew ⟨#[32]⟩ tn.start]:=by rw [BY,hsn];simp only [hln,hg1,hga,Bool.or_self,hkn,hfr,Bool.false_eq_true,if_false]
         simp -implicitDefEqProofs only [↓yP,yT,Nat.reduceAdd,Nat.reduceMul,Nat.reduceLeDiff,reduceCtorEq,b5,b4]
         refine ⟨.inl trivial,[0,1,8],by decide,BA _,?_⟩
         simp only [hro,List.map_append,List.map_cons,List.map_nil,List.length_append,List.length_cons,List.length_nil,List.nil_append,Nat.zero_add]
         (simp only [yE,Nat.reduceEqDiff,Nat.reduceAdd,reduceCtorEq];try rfl)
 |cons u l=>
  have hkl:=RJ ts i m
  rw [hkn] at hkl
  simp only [List.length_cons] at hkl
  have b1:(l.length+1+1)*128≤70368744177664:=EQ _ 1 (by omega) (by omega)
  simp only [kV,kE]
  by_cases hk:m<kk - i
  ·obtain ⟨t,ht⟩:=get_lt (l:=ts) (i:=i+m) (by omega)
   have t1:AN (kk:Nat) ((i+m:Nat):Int)=false:=AE (by omega)
   have w1:AG .i64 (((i+m:Nat):Int)+1)=((i+m+1:Nat):Int):=AK (by omega)
   have hks1:EV ts i (m+1)=EV ts i m++(if kp t then [t] else []):=by rw [EV,ht]
   have hsp1:Bn ts i (m+1)=(match Bn ts i m with|some k=>some k|none=>if AJ t.kind 13 then some (i+m) else none):=by rw [Bn,ht];cases Bn ts i m<;>rfl
   simp -implicitDefEqProofs only [↓yP,yT,Nat.reduceAdd,reduceCtorEq,t1,AP ht,Tok.pc]
   cases q1:AJ t.kind 13 with
   |true=>
    have q2:AJ t.kind 25=false:=AF (by have:t.kind=13:=(by rw [BN,decide_eq_true_eq] at q1;exact q1);omega)
    have hkp:kp t=false:=by rw [kp,q2];rfl
    rw [hkp] at hks1
    rw [q1] at hsp1
    simp only [Bool.false_eq_true,if_false,List.append_nil] at hks1
    cases hsn:Bn ts i m with
    |none=>
     rw [hsn] at hsp1
     have s0:AN 0 (-1)=false:=rfl
     simp only [Qe]
     simp -implicitDefEqProofs only [↓yP,yT,s0,w1]
     refine ⟨d - 1,[0,1,2],by omega,by decide,BA _,m+1,?_,?_,by omega⟩
     ·simp only [hks1,hsp1,hkn,if_true];(simp only [yE,Nat.reduceEqDiff,Nat.reduceAdd,reduceCtorEq];try rfl)
     ·simp only [hks1,hkn];(simp only [yE,Nat.reduceEqDiff,reduceCtorEq];try rfl)
    |some n=>
     rw [hsn] at hsp1
     have s0:AN 0 ((n:Nat):Int)=true:=AH (by omega)
     simp only [Qe]
     simp -implicitDefEqProofs only [↓yP,yT,q2,s0,w1]
     refine ⟨d - 1,[0,1,2],by omega,by decide,BA _,m+1,?_,?_,by omega⟩
     ·simp only [hks1,hsp1,hkn];(simp only [yE,Nat.reduceEqDiff,Nat.reduceAdd,reduceCtorEq];try rfl)
     ·simp only [hks1,hkn];(simp only [yE,Nat.reduceEqDiff,reduceCtorEq];try rfl)
   |false=>
    rw [q1] at hsp1
    have hsp2:Bn ts i (m+1)=Bn ts i m:=by rw [hsp1];cases Bn ts i m<;>rfl
    cases q2:AJ t.kind 25 with
    |true=>
     simp -implicitDefEqProofs only [↓yP,yT,q2]
     refine AB (MW t.text (htx t (List.mem_of_getElem? ht))) (by rfl) fun y hy=>?_
     subst hy
     cases hkb:Ia t.text with
     |true=>
      have hkp:kp t=true:=by rw [kp,q2,hkb];rfl
      rw [hkp] at hks1
      simp only [if_true] at hks1
      simp -implicitDefEqProofs only [↓yP,yT,Nat.reduceAdd,Nat.reduceMul,Nat.reduceLeDiff,reduceCtorEq,w1,b1]
      refine ⟨d - 1,[0,1,5],by omega,by decide,BA _,m+1,?_,?_,by omega⟩
      ·simp only [hks1,hsp2,hkn,List.length_cons,List.cons_append,List.length_append,List.length_nil];(simp only [yE,Nat.reduceEqDiff,Nat.reduceAdd,reduceCtorEq];try rfl)
      ·simp only [hks1,hkn,List.map_append,List.map_cons,List.map_nil,List.cons_append];(simp only [yE,Nat.reduceEqDiff,reduceCtorEq];try rfl)
     |false=>
      have hkp:kp t=false:=by rw [kp,q2,hkb];rfl
      rw [hkp] at hks1
      simp only [Bool.false_eq_true,if_false,List.append_nil] at hks1
      simp -implicitDefEqProofs only [↓yP,yT,w1]
      refine ⟨d - 1,[0,1,2],by omega,by decide,BA _,m+1,?_,?_,by omega⟩
      ·simp only [hks1,hsp2,hkn];(simp only [yE,Nat.reduceEqDiff,Nat.reduceAdd,reduceCtorEq];try rfl)
      ·simp only [hks1,hkn];(simp only [yE,Nat.reduceEqDiff,reduceCtorEq];try rfl)
    |false=>
     have hkp:kp t=false:=by rw [kp,q2];rfl
     rw [hkp] at hks1
     simp only [Bool.false_eq_true,if_false,List.append_nil] at hks1
     simp -implicitDefEqProofs only [↓yP,yT,q2,w1]
     refine ⟨d - 1,[0,1,2],by omega,by decide,BA _,m+1,?_,?_,by omega⟩
     ·simp only [hks1,hsp2,hkn];(simp only [yE,Nat.reduceEqDiff,Nat.reduceAdd,reduceCtorEq];try rfl)
     ·simp only [hks1,hkn];(simp only [yE,Nat.reduceEqDiff,reduceCtorEq];try rfl)
  ·have hm:m=kk - i:=by omega
   subst hm
   have t1:AN (kk:Nat) ((i+(kk - i):Nat):Int)=true:=AH (by omega)
   have hkn2:(l.length+1)≤200000000:=by
    have hkl:=RJ ts i (kk - i)
    rw [hkn] at hkl
    simp only [List.length_cons] at hkl
    omega
   have b0:out.length*128≤70368744177664:=EQ out.length 0 (by omega) (by omega)
   have b3:(out.length+((l.length+1)))*128≤70368744177664:=EQ _ _ (by omega) (by omega)
   have b4:(out.length+((l.length+1)+1))*128≤70368744177664:=EQ _ _ (by omega) (by omega)
   have b5:((l.length+1)+1)*128≤70368744177664:=EQ _ _ (by omega) (by omega)
   cases hsn:Bn ts i (kk - i) with
   |none=>
    have s0:AN 0 (-1)=false:=rfl
    have hro:BY ts cols i kk=(u::l):=by rw [BY,hsn,hkn]
    simp only [Qe]
    simp -implicitDefEqProofs only [↓yP,yT,Nat.reduceAdd,Nat.reduceLeDiff,reduceCtorEq,t1,s0,b3]
    refine ⟨.inl trivial,[0,1,4],by decide,BA _,?_⟩
    simp only [hro,List.map_append,List.map_cons,List.length_append,List.length_cons]
    (simp only [yE,Nat.reduceEqDiff,Nat.reduceAdd,reduceCtorEq];try rfl)
   |some n=>
    obtain ⟨n1,n2,n3,n4⟩:=Oj hsn
    obtain ⟨tn,htn⟩:=get_lt n3
    have hfr:Ix ts n=tn.start:=by rw [Ix,htn]
    have s0:AN 0 ((n:Nat):Int)=true:=AH (by omega)
    simp only [Qe]
    simp -implicitDefEqProofs only [↓yP,yT,Nat.reduceAdd,Nat.reduceLeDiff,reduceCtorEq,t1,s0,AP htn,Tok.pc]
    cases i with
    |zero=>
     have z0:AN ((0:Nat):Int) 0=true:=rfl
     have w0:AG .i64 (((0:Nat):Int) - 1)= -1:=by rw [show (((0:Nat):Int) - 1)= -1 from rfl];exact Au (by decide) (by decide)
     simp -implicitDefEqProofs only [↓yP,yT,Nat.reduceAdd,Nat.reduceMul,Nat.reduceLeDiff,z0,w0,Nat.reduceLT]
     refine BV (TE (kinds:=[19,20,21,2,23,18,17]) (by rfl) (by rfl) (by rfl) (by rfl)) (LU ts cols _ _ (-1) (.inl (by decide))) (by rfl) fun y hy=>⟨by rw [hy];rfl,?_⟩
     subst hy
     have hro:BY ts cols 0 kk=(u::l):=by rw [BY,hsn,hkn];rfl
     simp -implicitDefEqProofs only [↓yP,yT,Nat.reduceAdd,reduceCtorEq,b3]
     refine ⟨.inl trivial,[0,1,5],by decide,BA _,?_⟩
     simp only [hro,List.map_append,List.map_cons,List.length_append,List.length_cons]
     (simp only [yE,Nat.reduceEqDiff,Nat.reduceAdd,reduceCtorEq];try rfl)
    |succ j=>
     have z0:AN ((j+1:Nat):Int) 0=false:=AE (by omega)
     have w0:AG .i64 (((j+1:Nat):Int) - 1)=((j:Nat):Int):=Bq (i:=j+1) (by omega) (by omega)
     obtain ⟨tj,htj⟩:=get_lt (l:=ts) (i:=j) (by omega)
     simp -implicitDefEqProofs only [yT,Nat.reduceAdd,reduceCtorEq,z0,w0,AP htj,Tok.pc]
     refine AB (P1 tj) (by rfl) fun y hy=>?_
     subst hy
     cases hlb:Cd tj with
     |true=>
      have hro:BY ts cols (j+1) kk=Ew ⟨#[10]⟩ tn.start::(u::l):=by rw [BY,hsn];simp only [Ht,htj,hlb,if_true,hkn,hfr]
      simp -implicitDefEqProofs only [↓yP,yT,Nat.reduceAdd,Nat.reduceMul,Nat.reduceLeDiff]
      refine O4 (by simp) rfl (by omega) (by omega) rfl (by decide) ?_
      simp -implicitDefEqProofs only [↓yP,yT,Nat.reduceAdd,reduceCtorEq,b4]
      refine ⟨.inl trivial,[0,1,6],by decide,BA _,?_⟩
      simp only [hro,List.map_append,List.map_cons,List.length_append,List.length_cons]
      (simp only [yE,Nat.reduceEqDiff,Nat.reduceAdd,reduceCtorEq];try rfl)
     |false=>
      have hln:Ht ts (j+1)=false:=by simp only [Ht,htj,hlb]
      have hgb:(cols.contains ((j:Nat):Int)||[19,20,21,2,23,18,17].contains tj.kind)=LS ts cols (j+1):=by rw [LS,fE,htj,PX]
      simp -implicitDefEqProofs only [↓yP,yT,Nat.reduceAdd,Nat.reduceMul,Nat.reduceLeDiff,w0,Nat.reduceLT]
      refine BV (TE (kinds:=[19,20,21,2,23,18,17]) (by rfl) (by rfl) (by rfl) (by rfl)) (M8 ts cols _ _ j tj htj hl hc hr (by decide)) (by rfl) fun y hy=>⟨by rw [hy];rfl,?_⟩
      subst hy
      rw [hgb]
      cases hg1:LS ts cols (j+1) with
      |true=>
       have hro:BY ts cols (j+1) kk=(u::l):=by rw [BY,hsn];simp only [hln,hg1,Bool.true_or,if_true,hkn,Bool.false_eq_true,if_false]
       simp -implicitDefEqProofs only [↓yP,yT,Nat.reduceAdd,reduceCtorEq,b3]
       refine ⟨.inl trivial,[0,1,5],by decide,BA _,?_⟩
       simp only [hro,List.map_append,List.map_cons,List.length_append,List.length_cons]
       (simp only [yE,Nat.reduceEqDiff,Nat.reduceAdd,reduceCtorEq];try rfl)
      |false=>
       simp -implicitDefEqProofs only [yT,Nat.reduceAdd,Nat.reduceMul,Nat.reduceLeDiff,Nat.reduceLT]
       by_cases hke:kk=ts.length
       ·refine BV (TE (kinds:=[19,20,22,24,18,17]) (by rfl) (by rfl) (by rfl) (by rfl)) (LU ts cols _ _ ((kk:Nat):Int) (.inr (by omega))) (by rfl) fun y hy=>⟨by rw [hy];rfl,?_⟩
        subst hy
        have hga:K3 ts cols kk=true:=by rw [K3,List.getElem?_eq_none (by omega)]
        have hro:BY ts cols (j+1) kk=(u::l):=by rw [BY,hsn];simp only [hln,hg1,hga,Bool.or_true,if_true,hkn,Bool.false_eq_true,if_false]
        simp -implicitDefEqProofs only [↓yP,yT,Nat.reduceAdd,reduceCtorEq,b3]
        refine ⟨.inl trivial,[0,1,6],by decide,BA _,?_⟩
        simp only [hro,List.map_append,List.map_cons,List.length_append,List.length_cons]
        (simp only [yE,Nat.reduceEqDiff,Nat.reduceAdd,reduceCtorEq];try rfl)
       ·obtain ⟨tk,htk⟩:=get_lt (l:=ts) (i:=kk) (by omega)
        have hgb2:(cols.contains ((kk:Nat):Int)||[19,20,22,24,18,17].contains tk.kind)=K3 ts cols kk:=by rw [K3,htk,Po]
        refine BV (TE (kinds:=[19,20,22,24,18,17]) (by rfl) (by rfl) (by rfl) (by rfl)) (M8 ts cols _ _ kk tk htk hl hc hr (by decide)) (by rfl) fun y hy=>⟨by rw [hy];rfl,?_⟩
        subst hy
        rw [hgb2]
        cases hga:K3 ts cols kk with
        |true=>
         have hro:BY ts cols (j+1) kk=(u::l):=by rw [BY,hsn];simp only [hln,hg1,hga,Bool.or_true,if_true,hkn,Bool.false_eq_true,if_false]
         simp -implicitDefEqProofs only [↓yP,yT,Nat.reduceAdd,reduceCtorEq,b3]
         refine ⟨.inl trivial,[0,1,6],by decide,BA _,?_⟩
         simp only [hro,List.map_append,List.map_cons,List.length_append,List.length_cons]
         (simp only [yE,Nat.reduceEqDiff,Nat.reduceAdd,reduceCtorEq];try rfl)
        |false=>
         have hro:BY ts cols (j+1) kk=(u::l)++[Ew ⟨#[32]⟩ tn.start]:=by rw [BY,hsn];simp only [hln,hg1,hga,Bool.or_self,hkn,hfr,Bool.false_eq_true,if_false]
         simp -implicitDefEqProofs only [↓yP,yT,Nat.reduceAdd,Nat.reduceMul,Nat.reduceLeDiff,reduceCtorEq,b5,b4]
         refine ⟨.inl trivial,[0,1,8],by decide,BA _,?_⟩
         simp only [hro,List.map_append,List.map_cons,List.map_nil,List.length_append,List.length_cons,List.length_nil,List.cons_append,Nat.zero_add]
         (simp only [yE,Nat.reduceEqDiff,Nat.reduceAdd,reduceCtorEq];try rfl)
end Go.Vx.Seat
end
section
open Go Go.Vx Go.Proofs
set_option maxRecDepth 10000
set_option maxHeartbeats 4000000
namespace Go.Vx.Seat
attribute [local irreducible] Rg Rt Ro Ri Rc Ds Dt Dw Dx Rw Rl Rd Av An kf
theorem oY:By C1.P.funcs.toList 17=some Try.f17:=by kernel_rfl
theorem Zq (p:Nat→Bool) (n:Nat):Om (((List.range n).filter p).map fun i:Nat=>(i:Int)):=by
 have hpw:((List.range n).filter p).Pairwise (·<·):=List.Pairwise.filter _ List.pairwise_lt_range
 intro i j a b hij ha hb
 rw [List.getElem?_map] at ha hb
 cases h1:((List.range n).filter p)[i]? with
 |none=>rw [h1] at ha;cases ha
 |some x=>
  cases h2:((List.range n).filter p)[j]? with
  |none=>rw [h2] at hb;cases hb
  |some y=>
   rw [h1] at ha;rw [h2] at hb
   cases ha;cases hb
   have li:=Az h1
   have lj:=Az h2
   have:=List.pairwise_iff_getElem.mp hpw i j li lj hij
   rw [List.getElem?_eq_getElem li] at h1
   rw [List.getElem?_eq_getElem lj] at h2
   rw [Option.some.inj h1,Option.some.inj h2] at this
   show (x:Int)<(y:Int)
   omega
def Xt (ts:List Tok):List Tok:=Jo ts (CS ts ts.length) 0
theorem HF (ts:List Tok) (cols:List Int) (i m:Nat):(BY ts cols i (i+m)).length≤m:=by
 have h:=Ib ts i m
 unfold BY
 rw [Nat.add_sub_cancel_left]
 cases hs:Bn ts i m with
 |none=>rw [hs] at h;simpa using h
 |some n=>
  rw [hs] at h
  simp only at h ⊢
  split
  ·simp;exact h
  ·split
   ·omega
   ·simp;exact h
theorem V6 (ts:List Tok) (hl:ts.length≤180000000) (htx:∀t,t∈ts→(AA t.text).length≤4000000000):AS C1 17 [.c (.p (rT ts))] fun y=>y=.c (.p (rT (Xt ts))):=by
 have hcl:=JA ts ts.length
 have hrs:Om (CS ts ts.length):=Zq _ _
 unfold Xt
 generalize hcols:CS ts ts.length=cols at hcl hrs
 refine Pf (by rfl) (by rfl) oY (by rfl) ?_
 simp only [Try.f17,List.length_cons,List.length_nil,List.replicate,List.cons_append,List.nil_append]
 simp -implicitDefEqProofs only [↓yP,yT]
 refine AB (RE ts (by omega)) (by rfl) fun y hy=>?_
 subst hy
 rw [hcols]
 simp -implicitDefEqProofs only [↓yP,yT,Nat.reduceAdd,Nat.reduceLeDiff]
 refine Wz 0 2 13 (by decide) rfl rfl ?_
 refine Ah (fun d e s=>∃(i:Nat) (out:List Tok),e=([.c (.p (rT ts)),Tp,Tp,.c (.ptr 0 0 0 0),yd (.int .i64 (i:Nat)),Tp,Tp,Tp,Tp,Tp,Tp,Tp,Tp,Tp,Tp,Tp,Tp,Tp,Tp,Tp,Tp,Tp,Tp,Tp,Tp,Tp,Tp,Tp,Tp,Tp,Tp,Tp,Tp,Tp,Tp,Tp,Tp,Tp,Tp,Tp,Tp,Tp,Tp,Tp,Tp,Tp,Tp,Tp,Tp,Tp,Tp,Tp,Tp,Tp,Tp])∧s=[.box (Xc ts cols 1 out.length),.row 13 (out.map Tok.pc)]∧i+d=ts.length∧out.length≤i∧out++Jo ts cols i=Jo ts cols 0)
  [true,false,false,true,true] ts.length [0,1] (by decide) (AC _) ⟨0,[],by (simp only [yE];try rfl),by simp only [Xc];(simp only [yE];try rfl),by omega,by simp,by simp⟩ ?_
 rintro d e s ⟨i,out,rfl,rfl,hd,hol,hout⟩
 unfold Xc
 by_cases hi:i<ts.length
 ·obtain ⟨t,ht⟩:=get_lt hi
  have t1:AN (ts.length:Nat) (i:Nat)=false:=AE (by omega)
  simp -implicitDefEqProofs only [↓yP,yT,t1]
  refine Ah (fun d' e s=>∃(m:Nat),e=([.c (.p (rT ts)),Tp,Tp,.c (.ptr 0 0 0 0),yd (.int .i64 ((i+m:Nat):Int)),yd (.int .i64 (i:Nat)),Tp,Tp,Tp,Tp,Tp,Tp,Tp,Tp,Tp,Tp,Tp,Tp,Tp,Tp,Tp,Tp,Tp,Tp,Tp,Tp,Tp,Tp,Tp,Tp,Tp,Tp,Tp,Tp,Tp,Tp,Tp,Tp,Tp,Tp,Tp,Tp,Tp,Tp,Tp,Tp,Tp,Tp,Tp,Tp,Tp,Tp,Tp,Tp,Tp])∧s=[.box (Xc ts cols 1 out.length),.row 13 (out.map Tok.pc)]∧i+m+d'=ts.length∧∀j,j<m→BK (Bv ts (i+j))=true)
   [true,false,false,true,true,true] (ts.length - i) [0,1] (by decide) (AC _) ⟨0,by (simp only [yE];try rfl),by simp only [Xc];(simp only [yE,reduceCtorEq];try rfl),by omega,fun j hj=>absurd hj (Nat.not_lt_zero j)⟩ ?_
  rintro d' e s ⟨m,rfl,rfl,hd',hq⟩
  unfold Xc
  by_cases hk:i+m<ts.length
  ·obtain ⟨u,hu⟩:=get_lt hk
   have t2:AN (ts.length:Nat) ((i+m:Nat):Int)=false:=AE (by omega)
   have w1:AG .i64 (((i+m:Nat):Int)+1)=((i+m+1:Nat):Int):=AK (by omega)
   simp -implicitDefEqProofs only [↓yP,yT,Nat.reduceAdd,reduceCtorEq,t2,AP hu,Tok.pc]
   refine AB (NX u) (by rfl) fun y hy=>?_
   subst hy
   cases hqu:BK u.kind with
   |true=>
    simp -implicitDefEqProofs only [↓yP,yT,w1]
    refine ⟨d' - 1,[0,1],by omega,by decide,AC _,m+1,by (simp only [yE];try rfl),by (simp only [yE,reduceCtorEq];try rfl),by omega,fun j hj=>?_⟩
    by_cases e:j=m
    ·subst e;rw [B6 hu];exact hqu
    ·exact hq j (by omega)
   |false=>
    cases m with
    |zero=>
     have hut:u=t:=by rw [Nat.add_zero] at hu;rw [ht] at hu;exact (Option.some.inj hu).symm
     subst hut
     have t3:AN ((i:Nat):Int) (i:Nat)=true:=AH (by omega)
     have w2:AG .i64 ((i:Int)+1)=((i+1:Nat):Int):=AK (by omega)
     have b1:(out.length+1)*128≤70368744177664:=EQ _ 1 (by omega) (by omega)
     rw [TZ ht hqu] at hout
     simp -implicitDefEqProofs only [↓yP,yT,t3]
     refine A8 (by rw [C5];kernel_rfl) ?_
     simp -implicitDefEqProofs only [↓yP,yT,Nat.reduceAdd,Nat.reduceMul,Nat.reduceLeDiff,reduceCtorEq,AP ht,Tok.pc,b1,w2]
     refine ⟨d - 1,[0,3],by omega,by decide,AC _,i+1,out++[u],by (simp only [yE,reduceCtorEq];try rfl),?_,by omega,by simp;omega,by rw [List.append_assoc];exact hout⟩
     simp only [List.map_append,List.length_append,List.map_cons,List.map_nil,List.length_cons,List.length_nil]
     (simp only [yE,reduceCtorEq];try rfl)
    |succ m=>
     have t3:AN ((i+(m+1):Nat):Int) (i:Nat)=false:=AE (by omega)
     have hrun:=OV (cols:=cols) (ts:=ts) (i:=i) (m:=m+1) (by omega) (by omega) hq (.inr (by rw [B6 hu];exact hqu))
     simp -implicitDefEqProofs only [↓yP,yT,t3]
     refine QI (QQ ts cols out i (i+(m+1)) (by omega) (by omega) (by omega) (by omega) hrs (by omega) htx) fun y=>?_
     unfold Xc
     simp -implicitDefEqProofs only [↓yP,yT]
     have hro:=HF ts cols i (m+1)
     refine ⟨ts.length - (i+(m+1)),[0,2],by omega,by decide,AC _,i+(m+1),out++BY ts cols i (i+(m+1)),by (simp only [yE,reduceCtorEq];try rfl),by (simp only [yE,reduceCtorEq];try rfl),by omega,by simp;omega,?_⟩
     rw [List.append_assoc,←hrun];exact hout
  ·have t2:AN (ts.length:Nat) ((i+m:Nat):Int)=true:=AH (by omega)
   have hm0:0<m:=by omega
   have t3:AN ((i+m:Nat):Int) (i:Nat)=false:=AE (by omega)
   have hrun:=OV (cols:=cols) (ts:=ts) (i:=i) (m:=m) (by omega) (by omega) hq (.inl (by omega))
   simp -implicitDefEqProofs only [↓yP,yT,t2,t3]
   refine QI (QQ ts cols out i (i+(m)) (by omega) (by omega) (by omega) (by omega) hrs (by omega) htx) fun y=>?_
   unfold Xc
   simp -implicitDefEqProofs only [↓yP,yT]
   have hro:=HF ts cols i (m)
   refine ⟨ts.length - (i+(m)),[0,2],by omega,by decide,AC _,i+(m),out++BY ts cols i (i+(m)),by (simp only [yE,reduceCtorEq];try rfl),by (simp only [yE,reduceCtorEq];try rfl),by omega,by simp;omega,?_⟩
   rw [List.append_assoc,←hrun];exact hout
 ·have t1:AN (ts.length:Nat) (i:Nat)=true:=AH (by omega)
  rw [Kn (by omega),List.append_nil] at hout
  subst hout
  simp -implicitDefEqProofs only [↓yP,yT,reduceCtorEq,t1]
end Go.Vx.Seat
end
section
open Go Go.Vx Go.Proofs
set_option maxRecDepth 10000
set_option maxHeartbeats 4000000
namespace Go.Vx.Seat
attribute [local irreducible] Rg Rt Ro Ri Rc Ds Dt Dw Dx Rw Rl Rd Av An kf
end Go.Vx.Seat
end
section
open Go Go.Vx Go.Proofs
set_option maxRecDepth 10000
set_option maxHeartbeats 8000000
namespace Go.Vx.Seat
attribute [local irreducible] Rg Rt Ro Ri Rc Ds Dt Dw Dx Rw Rl Rd Av An kf
theorem Io (ts:List Tok) (cols:List Int):∀(n i:Nat),ts.length - i≤n→(Jo ts cols i).length≤ts.length - i
 |0,i,h=>by rw [Kn (by omega)];simp
 |n+1,i,h=>by
  rw [Jo]
  split
  ·rename_i hi
   split
   ·have hq:=RL ts (ts.length - (i+1)) (i+1)
    generalize Mu ts (ts.length - (i+1)) (i+1)=k at hq
    have h1:=HF ts cols i (k - i)
    rw [show i+(k - i)=k by omega] at h1
    have h2:=Io ts cols n k (by omega)
    simp;omega
   ·have h2:=Io ts cols n (i+1) (by omega)
    simp;omega
  ·simp
theorem Sj:AS C1 8 [] fun y=>y=yd (.bool true):=RY (by rfl) (by rfl)
end Go.Vx.Seat
end
section
open Go Go.Vx Go.Proofs
set_option maxRecDepth 20000
set_option maxHeartbeats 4000000
namespace Go.Vx.Seat
attribute [local irreducible] Rg Rt Ro Ri Rc Ds Dt Dw Dx Rw Rl Rd Av An kf
theorem WU (ts:List Tok) (i:Nat):∀m,EV ts i m=((ts.drop i).take m).filter kp
 |0=>by simp [EV]
 |m+1=>by
  rw [EV,WU ts i m,List.take_add_one,List.filter_append,List.getElem?_drop]
  congr 1
  cases h:ts[i+m]? with
  |none=>simp
  |some t=>by_cases hk:kp t<;>simp [hk]
theorem PN (ts:List Tok):(Xt ts).length≤ts.length:=Io ts _ ts.length 0 (by omega)
end Go.Vx.Seat
end
section
open Go Go.Vx Go.Proofs
namespace Go.Vx.Seat
theorem Qz (l:List Tok):∃run rest,l=run++rest∧(∀t,t∈run→BK t.kind=true)∧(∀u r,rest=u::r→BK u.kind=false):=
 ⟨l.takeWhile qt,l.dropWhile qt,(List.takeWhile_append_dropWhile).symm,fun t ht=>by
  induction l with
  |nil=>simp at ht
  |cons a l ih=>
   by_cases ha:qt a
   ·rw [List.takeWhile_cons_of_pos ha] at ht
    rcases List.mem_cons.mp ht with rfl|ht
    ·exact ha
    ·exact ih ht
   ·rw [List.takeWhile_cons_of_neg ha] at ht;simp at ht,fun u r he=>by
  induction l with
  |nil=>cases he
  |cons a l ih=>
   by_cases ha:qt a
   ·rw [List.dropWhile_cons_of_pos ha] at he;exact ih he
   ·rw [List.dropWhile_cons_of_neg ha] at he;cases he;simpa [qt] using ha⟩
theorem nZ {t:Tok} (h:kp t=true):BK t.kind=true:=by
 simp only [kp,Bool.and_eq_true,BN,decide_eq_true_eq] at h
 rw [h.1];rfl
theorem iY (run:List Tok):∀t,t∈run.filter kp→BK t.kind=true:=fun t ht=>nZ (List.mem_filter.mp ht).2
theorem K6 {l:List Tok} (h:∀t,t∈l→BK t.kind=true):l.filter Im=[]:=by
 rw [List.filter_eq_nil_iff];intro t ht;simp [Im,h t ht]
theorem Py (run:List Tok):(run.filter kp).find? IR=none:=by
 rw [List.find?_eq_none]
 intro t ht
 have:=(List.mem_filter.mp ht).2
 simp only [kp,Bool.and_eq_true,BN,decide_eq_true_eq] at this
 simp [IR,BN,this.1]
theorem N8 (l:List Tok):l=[]∨∃p t,l=p++[t]:=by
 rcases List.eq_nil_or_concat l with h|⟨p,t,h⟩
 ·exact .inl h
 ·exact .inr ⟨p,t,by simpa using h⟩
theorem NO (ts:List Tok) (i:Nat):∀m,(match Bn ts i m with|none=>((ts.drop i).take m).find? IR=none|some n=>∃t,ts[n]?=some t∧((ts.drop i).take m).find? IR=some t)
 |0=>by simp [Bn]
 |m+1=>by
  have ih:=NO ts i m
  have hd:(ts.drop i).take (m+1)=(ts.drop i).take m++(ts[i+m]?).toList:=by rw [List.take_add_one,List.getElem?_drop]
  rw [Bn,hd,List.find?_append]
  cases hs:Bn ts i m with
  |some n=>
   rw [hs] at ih
   obtain ⟨t,h1,h2⟩:=ih
   simp only
   exact ⟨t,h1,by rw [h2];rfl⟩
  |none=>
   rw [hs] at ih
   simp only at ih ⊢
   rw [ih]
   cases ht:ts[i+m]? with
   |none=>simp
   |some t=>
    cases hk:AJ t.kind 13 with
    |true=>simp [IR,hk,ht]
    |false=>simp [IR,hk]
theorem Wp (ts:List Tok):∀i,i≤ts.length→Ht ts i=I4 (ts.take i)
 |0,_=>rfl
 |i+1,h=>by
  obtain ⟨t,ht⟩:=get_lt (l:=ts) (i:=i) (by omega)
  rw [Ht,I4,List.take_add_one,ht]
  simp
theorem JF {ts:List Tok} {j:Nat} (hj:j<ts.length):(CS ts ts.length).contains ((j:Nat):Int)=Bs ts j:=by
 rw [Bool.eq_iff_iff,List.contains_iff_mem,CS,List.mem_map]
 constructor
 ·rintro ⟨a,ha,e⟩
  have:a=j:=by omega
  subst this
  exact (List.mem_filter.mp ha).2
 ·intro h
  exact ⟨j,List.mem_filter.mpr ⟨by simpa using hj,h⟩,rfl⟩
theorem bX (ts:List Tok):∀i,i≤ts.length→LS ts (CS ts ts.length) i=Xw (ts.take i) (ts.drop i)
 |0,_=>rfl
 |i+1,h=>by
  obtain ⟨t,ht⟩:=get_lt (l:=ts) (i:=i) (by omega)
  have hd:(ts.take (i+1)).dropLast=ts.take i:=by rw [List.take_add_one,ht];simp
  have hg:(ts.take (i+1)).getLast?=some t:=by rw [List.take_add_one,ht];simp
  rw [LS,fE,ht,Xw,hg]
  simp only
  rw [JF (by omega),S7 ht,hd]
theorem ZC (ts:List Tok) (k:Nat):K3 ts (CS ts ts.length) k=XF (ts.take k) (ts.drop k):=by
 cases hk:ts[k]? with
 |none=>rw [K3,hk,List.drop_eq_nil_of_le (by simpa using hk)];rfl
 |some t=>rw [K3,hk,M4 hk];simp only [XF];rw [JF (List.getElem?_eq_some_iff.mp hk).1,S7 hk]
theorem aB (ts:List Tok) {i m:Nat} (h:i+m≤ts.length):BY ts (CS ts ts.length) i (i+m)=JB (ts.take i) ((ts.drop i).take m) (ts.drop (i+m)):=by
 have h1:=NO ts i m
 have hta:ts.take i++(ts.drop i).take m=ts.take (i+m):=by rw [List.take_add]
 have htb:(ts.drop i).take m++ts.drop (i+m)=ts.drop i:=by rw [←List.drop_drop,List.take_append_drop]
 rw [BY,JB,Nat.add_sub_cancel_left,WU]
 cases hs:Bn ts i m with
 |none=>rw [hs] at h1;rw [h1]
 |some n=>
  rw [hs] at h1
  obtain ⟨t,h2,h3⟩:=h1
  have hf:Ix ts n=t.start:=by rw [Ix,h2]
  rw [h3]
  simp only [hf,Wp ts i (by omega),bX ts i (by omega),ZC ts (i+m),hta,htb]
theorem Or (ts:List Tok):∀(n i:Nat),ts.length - i≤n→Jo ts (CS ts ts.length) i=HI (ts.take i) (ts.drop i)
 |0,i,h=>by rw [Kn (by omega),List.drop_eq_nil_of_le (by omega),Fi]
 |n+1,i,h=>by
  by_cases hi:i<ts.length
  ·obtain ⟨t,ht⟩:=get_lt hi
   have htk:ts.take (i+1)=ts.take i++[t]:=by rw [List.take_add_one,ht];rfl
   cases hq:BK t.kind with
   |false=>rw [TZ ht hq,M4 ht,Iw _ _ hq,Or ts n (i+1) (by omega),htk]
   |true=>
    obtain ⟨run,rest,e,h1,h2⟩:=Qz (ts.drop i)
    have hrn:run≠[]:=by
     intro hr;rw [hr,List.nil_append] at e
     have:=h2 t (ts.drop (i+1)) (by rw [←e,M4 ht])
     rw [hq] at this;cases this
    have hm:0<run.length:=List.length_pos_iff.mpr hrn
    have hlen:i+run.length+rest.length=ts.length:=by
     have:=congrArg List.length e
     simp at this;omega
    have hrun:(ts.drop i).take run.length=run:=by rw [e];simp
    have hrest:ts.drop (i+run.length)=rest:=by rw [←List.drop_drop,e];simp
    have hkq:∀j,j<run.length→BK (Bv ts (i+j))=true:=fun j hj=>by
     obtain ⟨u,hu⟩:=get_lt hj
     have h3:(ts.drop i)[j]?=some u:=by rw [e,List.getElem?_append_left hj];exact hu
     rw [List.getElem?_drop] at h3
     rw [B6 h3];exact h1 u (List.mem_of_getElem? hu)
    have hend:i+run.length=ts.length∨BK (Bv ts (i+run.length))=false:=by
     cases hre:rest with
     |nil=>rw [hre] at hlen;exact .inl (by simpa using hlen)
     |cons u r=>
      right
      have h3:ts[i+run.length]?=some u:=by
       have:(ts.drop (i+run.length))[0]?=some u:=by rw [hrest,hre];rfl
       rw [List.getElem?_drop] at this;simpa using this
      rw [B6 h3];exact h2 u r hre
    rw [OV hm (by omega) hkq hend,Or ts n _ (by omega),aB ts (by omega),hrun,hrest,e,Kk _ hrn h1 h2]
    congr 2
    rw [List.take_add,hrun]
  ·rw [Kn (by omega),List.drop_eq_nil_of_le (by omega),Fi]
theorem cG (ts:List Tok):Xt ts=HI [] ts:=by rw [Xt,Or ts ts.length 0 (by omega)];rfl
end Go.Vx.Seat
end
