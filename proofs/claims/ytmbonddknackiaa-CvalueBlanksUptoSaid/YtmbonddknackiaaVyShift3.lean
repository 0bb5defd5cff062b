/- A run moved: code as a whole; what is made of values without an address does not depend on the heap. -/
import Derived.Test.YtmbonddknackiaaVyShift2
import Derived.Test.YtmbonddknackiaaVyFn
set_option linter.unusedVariables false
namespace Go.Vx
section
variable {k:Nat} {g h h':H} {u v:Value}
theorem ShV.undef:ShV k undef undef:=.tup L2.nil
theorem QZ {e e':BF} (he:L2 (ShV k) e e') (t:Nat):ShV k (Gi e undef t) (Gi e' undef t):=by
 rw [F0,F0,List.getD_eq_getElem?_getD,List.getD_eq_getElem?_getD]
 cases h1:e[t]? with
 |none=>
  have hl:e'[t]?=none:=List.getElem?_eq_none (by rw [←he.1];exact List.getElem?_eq_none_iff.mp h1)
  rw [hl];exact .undef
 |some v=>
  obtain ⟨v',h2,h3⟩:=he.get h1
  rw [h2];exact h3
theorem gJ {e e':BF} (he:L2 (ShV k) e e') {o:Operand} (ho:Cl o=true):ShV k (ev e o) (ev e' o):=by
 cases o with
 |tmp t=>exact QZ he t
 |const v=>exact .of_dryV ho
 |global _=>cases ho
 |func f=>exact .of_dry rfl
theorem Ud {e e':BF} (he:L2 (ShV k) e e') {op:Op} (ho:IQ op=true):∀x∈op.operands.toList,ShV k (ev e x) (ev e' x):=by
 intro x hx
 unfold IQ at ho
 rw [Bool.or_eq_true] at ho
 rcases ho with ho|ho
 ·split at ho
  ·rename_i t0 g0
   have:x=.global g0:=by simpa [Op.operands] using hx
   subst this;exact .undef
  ·cases ho
 ·exact gJ he (List.all_eq_true.mp ho x hx)
theorem cH {ρ ρ':Operand→Value} {l:List Operand} (hρ:∀o,o∈l→ShV k (ρ o) (ρ' o)):L2 (ShV k) (l.map ρ) (l.map ρ'):=⟨by simp,fun i a b h1 h2=>by
 rw [List.getElem?_map] at h1 h2
 cases hp:l[i]? with
 |none=>rw [hp] at h1;cases h1
 |some p=>rw [hp] at h1 h2;cases h1;cases h2;exact hρ p (List.mem_of_getElem? hp)⟩
theorem YE {P:Program} {eqs:List TypeId} {lo lo':Nat} {ρ ρ':Operand→Value} {op:Op} (hz:Ca P) (hlo:lo'≤lo+k) (hh:ShH k g h h') (hr:∀x∈op.operands.toList,ShV k (ρ x) (ρ' x)):
  j6 k g (KJ P eqs lo ρ op h) (KJ P eqs lo' ρ' op h'):=by
 intro x h1 he
 cases op<;>simp only [KJ] at he ⊢<;>try (cases he;done)
 case move o=>cases he;exact ⟨_,_,rfl,.val (hr o (by simp [Op.operands])),hh⟩
 case assign o=>cases he;exact ⟨_,_,rfl,.val (hr o (by simp [Op.operands])),hh⟩
 case pick c a b=>exact EG hh (cK (hr c (by simp [Op.operands])) (hr a (by simp [Op.operands])) (hr b (by simp [Op.operands]))) x h1 he
 case alloc t=>
  unfold Gp at he ⊢
  split at he
  ·rename_i z hzz
   cases he
   exact ⟨_,_,rfl,.val (ShV.newP hh 0),hh.push (ZP hz hzz)⟩
  ·cases he
 case box t o=>
  have ho:=hr o (by simp [Op.operands])
  unfold Mc at he ⊢
  split at he
  ·cases he
  ·rename_i ht
   cases he
   obtain ⟨e1,e2⟩:=ho.cl ht
   rw [e1]
   exact ⟨_,_,rfl,.val (ShV.newP hh 0),hh.push e2⟩
 case build t parts=>exact EG hh (bM hz fun p hp=>hr p.2 (by simp [Op.operands];exact ⟨p.1,by simpa using hp⟩)) x h1 he
 case buildSlice t len parts=>
  have hρ:∀p,p∈parts.toList→ShV k (ρ p.2) (ρ' p.2):=fun p hp=>hr p.2 (by simp [Op.operands];exact ⟨p.1,by simpa using hp⟩)
  unfold CQ at he ⊢
  split at he
  ·split at he
   ·rename_i z hzz
    split at he
    ·rename_i hc
     split at he
     ·rename_i cs hcs
      cases he
      obtain ⟨cs',k1,k2⟩:=M9 (OI hρ) (TB hz hzz len) hcs
      rw [if_pos hc,k1]
      exact ⟨_,_,rfl,.val (ShV.new hh 0 _ _),hh.push k2⟩
     ·cases he
    ·cases he
   ·cases he
  ·cases he
 case load t a=>exact EG hh (Vo hh (hr a (by simp [Op.operands]))) x h1 he
 case store t a b=>
  unfold JL at he ⊢
  split at he
  ·rename_i h2 hs
   cases he
   obtain ⟨h2',k1,k2⟩:=aM hh hlo (hr a (by simp [Op.operands])) (hr b (by simp [Op.operands])) hs
   rw [k1]
   exact ⟨_,_,rfl,.val .undef,k2⟩
  ·cases he
 case nilCheck o=>exact EG hh (iX (hr o (by simp [Op.operands]))) x h1 he
 case binOp op t a b p=>exact EG hh (jQ (hr a (by simp [Op.operands])) (hr b (by simp [Op.operands]))) x h1 he
 case unOp op t a=>exact EG hh (kU (hr a (by simp [Op.operands]))) x h1 he
 case convert s d a=>exact WI (VB hh hlo (hr a (by simp [Op.operands]))) x h1 he
 case slice t a l m mx=>
  refine EG hh ?_ x h1 he
  intro y hy
  unfold NA at hy ⊢
  have hsome:∀(q:Option Operand),(∀o,q=some o→o∈(Op.slice t a l m mx).operands.toList)→∀y,q.map ρ=some y→∃y',q.map ρ'=some y'∧ShV k y y':=fun q hq y hy=>by
   cases q with
   |none=>cases hy
   |some o=>cases hy;exact ⟨_,rfl,hr o (hq o rfl)⟩
  have hnone:∀(q:Option Operand),q.map ρ=none→q.map ρ'=none:=fun q hq=>by cases q with|none=>rfl|some o=>cases hq
  split at hy
  ·rename_i hm
   cases mx with
   |some _=>cases hm
   |none=>
    exact YM (hr a (by simp [Op.operands])) (hsome l fun o ho=>by simp [Op.operands,ho]) (hnone l) (hsome m fun o ho=>by simp [Op.operands,ho]) (hnone m) y hy
  ·cases hy
 case fieldAddr s a f=>exact EG hh (RB (hr a (by simp [Op.operands]))) x h1 he
 case field t a f=>exact EG hh (X2 (hr a (by simp [Op.operands]))) x h1 he
 case indexAddr t a i=>exact EG hh (Qn (hr a (by simp [Op.operands])) (hr i (by simp [Op.operands]))) x h1 he
 case index t a i=>exact EG hh (Zd (hr a (by simp [Op.operands])) (hr i (by simp [Op.operands]))) x h1 he
 case extract a i=>exact EG hh (U4 (hr a (by simp [Op.operands]))) x h1 he
 case makeSlice t l c=>
  have hl:=hr l (by simp [Op.operands])
  have hc:=hr c (by simp [Op.operands])
  unfold Ge at he
  split at he
  ·rename_i e l0 c0 e1 e2 e3
   rw [e2] at hl
   rw [e3] at hc
   have q1:=hl.dryE rfl
   have q2:=hc.dryE rfl
   split at he
   ·rename_i z hzz
    split at he
    ·rename_i hcc
     cases he
     refine ⟨_,_,?_,.val (ShV.new hh 0 _ _),hh.push (TB hz hzz _)⟩
     unfold Ge
     simp only [e1,q1,q2,hzz]
     rw [if_pos hcc]
    ·cases he
   ·cases he
  ·cases he
 case call c=>
  have hop:∀o,o∈c.args.toList→ShV k (ρ o) (ρ' o):=fun o ho=>hr o (by simp [Op.operands,Call.operands];cases c.callee<;>simp_all)
  unfold FD at he ⊢
  split at he
  ·rename_i f hf
   have hfo:ShV k (ρ f) (ρ' f):=hr f (by simp [Op.operands,Call.operands,hf])
   unfold F9 at he
   split at he
   ·rename_i f0 a b hfv
    rw [hfv] at hfo
    split at he
    ·rename_i hc
     cases he
     have:=hfo.dryE (by simp only [dry];exact hc)
     unfold F9
     rw [this]
     simp only
     rw [if_pos hc]
     exact ⟨_,_,rfl,.call (cH hop),hh⟩
    ·cases he
   ·cases he
  ·split at he
   ·split at he
    ·rename_i o r ha
     exact EG hh (iQ (hop o (by rw [ha];simp))) x h1 he
    ·cases he
   ·cases he
  ·split at he
   ·split at he
    ·rename_i s o ha
     exact WI (Pd hh hlo (hop s (by rw [ha];simp)) (hop o (by rw [ha];simp))) x h1 he
    ·cases he
   ·cases he
  ·cases he
end
end Go.Vx
