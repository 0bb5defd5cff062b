/- A region in the order of the text. -/
import Derived.Test.YtmbonddknackiaaVxKeep
namespace Go.Vx
open Go.RowKit
structure ER (φ:Cy) (e:BF) (a:Act):Prop where
 len:e.length=a.tmps.size
 val:∀t,VR φ (e.getD t undef) (a.tmps.getD t undef)
 defers:a.defers=[]
theorem ER.mono {φ φ':Cy} {e:BF} {a:Act} (h:ER φ e a) (hφ:IF φ φ'):ER φ' e a:=⟨h.len,fun t=>(h.val t).mono hφ,h.defers⟩
theorem ER.ev {φ:Cy} {e:BF} {a:Act} (h:ER φ e a) {x:Operand} (hx:Cl x=true):VR φ (ev e x) (a.eval x):=by
 cases x with
 |tmp t=>show VR φ (Gi e undef t) _;rw [F0];exact h.val t
 |const v=>exact D6 hx
 |global g=>simp [Cl] at hx
 |func f=>exact D6 (by simp [Vx.ev,Hx,dry])
theorem Iu {e:BF} {d:Nat} {v:Value} (hd:d<e.length):(e.set d v).getD d undef=v:=by
 simp [hd]
theorem LE {e:BF} {d t:Nat} {v:Value} (h:d≠t):(e.set d v).getD t undef=e.getD t undef:=by
 simp [List.getD,List.getElem?_set_ne h]
theorem ER.put {φ:Cy} {e:BF} {a:Act} (h:ER φ e a) (dst:Option Tmp) {v v':Value} (hv:VR φ v v'):ER φ (Fz e dst v) (a.put dst v'):=by
 cases dst with
 |none=>exact h
 |some d=>
  refine ⟨by simp [Fz,Act.put,h.len],fun t=>?_,h.defers⟩
  show VR φ ((e.set d v).getD t undef) ((a.tmps.setIfInBounds d v').getD t undef)
  by_cases hd:d<e.length
  ·have hd':d<a.tmps.size:=by rw [←h.len];exact hd
   by_cases ht:d=t
   ·subst ht
    rw [Iu hd]
    simpa [hd'] using hv
   ·rw [LE ht]
    have:=h.val t
    simpa [Array.getElem?_setIfInBounds_ne ht] using this
  ·have hd':¬d<a.tmps.size:=by rw [←h.len];exact hd
   have e1:e.set d v=e:=List.set_eq_of_length_le (Nat.le_of_not_lt hd)
   have e2:a.tmps.setIfInBounds d v'=a.tmps:=by
    apply Array.ext'
    simp [List.set_eq_of_length_le (show a.tmps.toList.length≤d by simpa using Nat.le_of_not_lt hd')]
   rw [e1,e2];exact h.val t
theorem VR.bool_inv {φ:Cy} {u:Value} {b:Bool} (h:VR φ u (.bool b)):u=.bool b:=by
 cases u with
 |tuple xs=>obtain ⟨ys,h1,_⟩:=h;cases h1
 |agg xs=>obtain ⟨ys,h1,_⟩:=h;cases h1
 |pointer a=>cases a with
  |none=>exact h.2.symm
  |some a=>obtain ⟨l,_,h1⟩:=h;cases h1
 |slice a n c=>cases a with
  |none=>exact h.2.symm
  |some a=>obtain ⟨l,ca,cc,_,h1,_⟩:=h;cases h1
 |_=>exact h.2.symm
theorem Sd {φ:Cy} {ops:Array Oper} {e:BF} {tmps:Array Value} (hlen:e.length=tmps.size) {o:Oper}
  (hv:∀g want d,o.guard=some (g,want)→(ops[g]?).bind (·.dst)=some d→VR φ (e.getD d undef) (tmps.getD d undef)):
  wants ops.toList e o=Region.wanted o (yielded ops tmps):=by
 unfold wants Region.wanted yielded
 cases hg:o.guard with
 |none=>rfl
 |some gw=>
  obtain ⟨g,want⟩:=gw
  simp only
  rw [Cf,Array.getElem?_toList]
  cases hp:ops[g]? with
  |none=>simp
  |some p=>
   cases hd:p.dst with
   |none=>simp [hd]
   |some d=>
    have hvr:=hv g want d hg (by simp [hp,hd])
    simp only [Option.bind_some,hd]
    by_cases hl:d<e.length
    ·have hl':d<tmps.size:=by rw [←hlen];exact hl
     simp only [List.getD,Array.getD,List.getElem?_eq_getElem hl,Option.getD_some,hl',dif_pos] at hvr
     rw [Cf,List.getElem?_eq_getElem hl,Array.getElem?_eq_getElem hl']
     cases hb:tmps[d] with
     |bool b=>
      have hb2:tmps.getInternal d hl'=.bool b:=hb
      rw [hb2] at hvr
      rw [hvr.bool_inv]
      cases b<;>cases want<;>rfl
     |_=>
      cases he:e[d] with
      |bool b=>
       rw [he] at hvr
       have hb3:tmps[d]=.bool b:=hvr.bool
       rw [hb3] at hb
       cases hb
      |_=>simp
    ·have hl':¬d<tmps.size:=by rw [←hlen];exact hl
     rw [Cf,List.getElem?_eq_none (Nat.le_of_not_lt hl),Array.getElem?_eq_none (Nat.le_of_not_lt hl')]
     simp
theorem TP {P:Program} {eqs:List TypeId} {lo:Nat} {e:BF} {h:H} {op:Op} {r:Out×H} (hok:IQ op=true) (hx:KJ P eqs lo (ev e) op h=some r):∀x∈op.operands.toList,Cl x=true:=by
 unfold IQ at hok
 simp only [Bool.or_eq_true,List.all_eq_true] at hok
 rcases hok with h1|h1
 ·exfalso
  split at h1
  ·simp [KJ,G0,ev,undef,De] at hx
  ·cases h1
 ·exact h1
theorem Zg {P:Program} {op:Op} (hok:IQ op=true) (hm:DH P op=true):∀x∈op.operands.toList,Cl x=true:=by
 unfold IQ at hok
 simp only [Bool.or_eq_true,List.all_eq_true] at hok
 rcases hok with h1|h1
 ·exfalso
  split at h1
  ·simp [DH] at hm
  ·cases h1
 ·exact h1
section
variable {C:Cx} {base:Nat} {callf:Nat→FuncId→List Value→H→Option (Value×H)}
def La (P:Program) (f:FuncId) (args:Array Value) (w:World) (R:Value→World→Prop):Prop:=
 ((callFunc f args).run P w=.ok (.enter f args) w∧Calls P f args w (fun e w'=>∃v,e=.returned v∧R v w'))∨
 ∃v w',(callFunc f args).run P w=.ok (.value v) w'∧R v w'
structure Bd (C:Cx) (base:Nat) (w:World):Prop where
 le:base≤w.heap.size
 low:C.low base w
def Pq (C:Cx):Prop:=∀base w w',C.low base w→Below base w w'→C.low base w'
theorem Bd.step {C:Cx} {base:Nat} {w w':World} (h:Bd C base w) (hl:Pq C) (hb:Below base w w'):Bd C base w':=⟨Nat.le_trans h.le hb.size,hl _ _ _ h.low hb⟩
def FK (C:Cx) (base:Nat) (callf:Nat→FuncId→List Value→H→Option (Value×H)):Prop:=
 ∀lo f args h v h',callf lo f args h=some (v,h')→∀(φ:Cy) (w:World) (args':Array Value),HR base φ h w→Bd C base w→All2 (VR φ) args args'.toList→
  (∀i,h.n≤i→i<h'.n→φ i=none)→La C.P f args' w fun v' w'=>∃φ',VR φ' v v'∧Step base lo φ φ' h h' w w'
theorem K9 (hE:LX C.P C.eqs) (hz:Ca C.P) (hc:FK C base callf) {draw:Bool} {lo:Nat} {ops:Array Oper} {i:Nat} {o:Oper} {e:BF} {h h':H} {v:Value}
  {φ:Cy} {w:World} {a:Act} {K:Act→World→Prop} {Q:Exit→Act→World→Prop} (hi:ops[i]?=some o)
  (hx:Dy C callf draw lo ops.toList o e h=some (v,h')) (hok:IQ o.op=true) (hrc:∀x∈o.op.operands.toList,Cl x=true→VR φ (ev e x) (a.eval x))
  (hw:wants ops.toList e o=Region.wanted o (yielded ops a.tmps)) (hh:HR base φ h w) (hb:Bd C base w) (hn:∀i,h.n≤i→i<h'.n→φ i=none)
  (hK:∀v' w' φ',VR φ' v v'→Step base (if draw&&EO o.op then max lo h.n else lo) φ φ' h h' w w'→K (a.put o.dst v') w'):wpOp C.P ops Q i K a w:=by
 unfold wpOp
 simp only [hi]
 unfold Dy at hx
 rw [hw] at hx
 split at hx
 ·rename_i hwt
  rw [if_pos hwt]
  left
  unfold Oper.wp
  split at hx
  ·rename_i u h1 h2
   cases hx
   have hr:=fun x hx=>hrc x hx (TP hok h2 x hx)
   obtain ⟨v',w',φ',h3,h4,h5⟩:=kA hE hz hh hb.le h2 hr hn
   have hstep:Step base (if draw&&EO o.op then max lo h.n else lo) φ φ' h h' w w':=by
    have hnc:EO o.op=false:=by
     cases ho:o.op<;>try rfl
     rename_i c
     obtain ⟨callee,as,ts⟩:=c
     cases callee with
     |value f=>
      exfalso
      rw [ho] at h2
      simp only [KJ,FD] at h2
      unfold F9 at h2
      split at h2
      ·split at h2<;>simp at h2
      ·cases h2
     |_=>rfl
    rw [hnc]
    simpa using h5
   rcases h3 with h3|⟨h3,rfl⟩
   ·rw [h3];exact hK v' w' φ' h4 hstep
   ·rw [h3];exact hK undef w' φ' h4 hstep
  ·rename_i f args h1 h2
   have hr:=fun x hx=>hrc x hx (TP hok h2 x hx)
   obtain ⟨rfl,args',ha,hrun⟩:=aL (P:=C.P) (w:=w) h2 hr
   have hd:=hc _ _ _ _ _ _ hx φ w args' hh hb ha hn
   rw [hrun]
   have hic:EO o.op=true:=by
    obtain ⟨_,_,_,_,_,h3,_⟩:=Kq h2
    rw [h3];rfl
   have hlo:(if draw&&EO o.op then max lo h1.n else lo)=(if draw then max lo h1.n else lo):=by rw [hic];simp
   rcases hd with ⟨hd1,hd2⟩|⟨v',w',hd1,φ',h4,h5⟩
   ·rw [hd1]
    refine Calls.mono hd2 fun en w' ⟨v',hen,φ',h4,h5⟩=>?_
    subst hen
    exact hK v' w' φ' h4 (by rw [hlo];exact h5)
   ·rw [hd1]
    exact hK v' w' φ' h4 (by rw [hlo];exact h5)
  ·cases hx
 ·rename_i hwt
  cases hx
  rw [if_neg hwt]
  exact hK undef w φ VR.undef (Step.refl hh)
theorem ER.wants {φ:Cy} {ops:Array Oper} {e:BF} {a:Act} (h:ER φ e a) (o:Oper):wants ops.toList e o=Region.wanted o (yielded ops a.tmps):=
 Sd h.len fun _ _ d _ _=>h.val d
theorem Vp (hl:Pq C) (hE:LX C.P C.eqs) (hz:Ca C.P) (hc:FK C base callf) (hk:CC callf) {lo:Nat} {ops:Array Oper} {Q:Exit→Act→World→Prop}
  (hop:∀o∈ops.toList,IQ o.op=true):
  ∀(rest:List Oper) (k:Nat) (e e':BF) (h h':H) (φ:Cy) (w:World) (a:Act),ops.toList.drop k=rest→Lt C callf false lo ops.toList rest e h=some (e',h')→
   ER φ e a→HR base φ h w→Bd C base w→(∀i,h.n≤i→i<h'.n→φ i=none)→
   (∀φ' w' a',ER φ' e' a'→Step base lo φ φ' h h' w w'→Q .normal a' w')→wpOps C.P ops Q (List.range' k rest.length) a w
 |[],k,e,e',h,h',φ,w,a,_,hx,he,hh,_,_,hQ=>by
  rw [Hc] at hx
  cases hx
  exact hQ φ w a he (Step.refl hh)
 |o::rest,k,e,e',h,h',φ,w,a,hd,hx,he,hh,hb,hn,hQ=>by
  rw [Dj] at hx
  split at hx
  ·rename_i v h1 hs
   have hk1:k<ops.toList.length:=by
    apply Classical.byContradiction;intro hc;rw [List.drop_eq_nil_of_le (by omega)] at hd;cases hd
   have hok:ops.toList[k]?=some o:=by
    have:(ops.toList.drop k)[0]?=some o:=by rw [hd];rfl
    simpa using this
   have hi:ops[k]?=some o:=by simpa using hok
   have hrest:ops.toList.drop (k+1)=rest:=by
    have:=congrArg (List.drop 1) hd
    simpa [List.drop_drop,Nat.add_comm] using this
   have hkeep:=L8 hk _ _ _ _ _ hx
   have hkeep1:=KL hk hs
   rw [List.length_cons,List.range'_succ,wpOps_cons]
   refine K9 hE hz hc hi hs (hop o (List.mem_of_getElem? hok)) (fun x _ hx=>he.ev hx) (he.wants o) hh hb (fun i h1 h2=>hn i h1 (Nat.lt_of_lt_of_le h2 hkeep.n)) ?_
   intro v' w' φ' hv hst
   rw [show (if (false&&EO o.op)=true then max lo h.n else lo)=lo by simp] at hst
   refine Vp hl hE hz hc hk hop rest (k+1) _ _ _ _ φ' w' _ hrest hx ((he.mono hst.ext).put o.dst hv) hst.heap (hb.step hl hst.below) (fun i i1 i2=>?_) ?_
   ·have:=hn i (Nat.le_trans hst.n i1) i2
    cases hφ:φ' i with
    |none=>rfl
    |some l=>
     rcases hst.dom i (by rw [hφ];simp) with hd|hd
     ·exact absurd this hd
     ·omega
   ·intro φ2 w2 a2 he2 hst2
    exact hQ φ2 w2 a2 he2 (hst.trans hst2 hn)
  ·cases hx
end
end Go.Vx
