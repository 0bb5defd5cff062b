/- One operation: what the interpreter computes is what the model computes. -/
import Derived.Test.YtmbonddknackiaaVxStep
import Derived.Laws.Entries
import Derived.Laws.Strings
namespace Go.Vx
open Go.RowKit
section
variable {φ:Cy}
theorem VR.of_dry {u v:Value} (h:VR φ u v) (hd:dry u=true):v=u:=by
 cases u with
 |tuple xs=>simp [dry] at hd
 |agg xs=>simp [dry] at hd
 |pointer a=>cases a with
  |none=>exact h.2
  |some a=>simp [dry] at hd
 |slice a n c=>cases a with
  |none=>exact h.2
  |some a=>simp [dry] at hd
 |_=>exact h.2
theorem VR.int {k:IntKind} {a:Int} {v:Value} (h:VR φ (.int k a) v):v=.int k a:=h.of_dry rfl
theorem VR.str {s:ByteArray} {v:Value} (h:VR φ (.string s) v):v=.string s:=h.of_dry rfl
theorem VR.bool {b:Bool} {v:Value} (h:VR φ (.bool b) v):v=.bool b:=h.of_dry rfl
theorem VR.of_dryV {u v:Value} (h:VR φ u v) (hd:Hx u=true):v=u:=by
 cases u with
 |tuple xs=>simp [Hx,dry] at hd
 |agg xs=>
  obtain ⟨ys,rfl,h1,h2⟩:=h
  simp only [Hx,List.all_eq_true] at hd
  have:xs.toList=ys.toList:=by
   apply List.ext_getElem?
   intro i
   cases hx:xs.toList[i]? with
   |none=>
    rw [List.getElem?_eq_none_iff] at hx
    rw [List.getElem?_eq_none (by omega)]
   |some v=>
    obtain ⟨u,hu,hc⟩:=h2 i v hx
    have:=VR.of_dry hc.vr (hd v (List.mem_of_getElem? hx))
    rw [hu,this]
  rw [Array.toList_inj.1 this]
 |_=>exact VR.of_dry h hd
end
theorem CD (s:ByteArray):(AA s).length=s.size:=rfl
theorem NM (l:List UInt8) (s:ByteArray) (h:AA s=l):AI l=s:=by subst h;rfl
theorem toList_eq (s:ByteArray):s.toList=AA s:=by rw [ByteArray.toList_eq];rfl
theorem VN (x y:ByteArray):(x==y)=(AA x==AA y):=by
 have:(x==y)=(x.data==y.data):=rfl
 rw [this,Bool.eq_iff_iff]
 simp [AA]
theorem LC:∀x y:List UInt8,Op.bytesLess x y=Bz x y
 |_,[]=>by simp [Op.bytesLess,Bz]
 |[],_::_=>by simp [Op.bytesLess,Bz]
 |a::x,b::y=>by simp [Op.bytesLess,Bz,LC x y]
theorem QT (x y:ByteArray):AA (x++y)=AA x++AA y:=by simp [AA,ByteArray.data_append]
def LX (P:Program) (eqs:List TypeId):Prop:=∀t,t∈eqs→∀(xs ys:Array Value) (b:Bool),HU P t xs.toList ys.toList=some b→
 ∀(xo yo:Operand) (w:World),(eqGuard .eql t xo yo (.agg xs) (.agg ys)).run P w=.ok () w∧(eqGuard .neq t xo yo (.agg xs) (.agg ys)).run P w=.ok () w∧
  (Op.equal t (.agg xs) (.agg ys)).run P w=.ok b w
section
variable {P:Program} {φ:Cy} {w:World}
theorem bR {op:BinOp} {k:IntKind} {a b:Int} {v:Value} {t:TypeId} {xo yo:Operand} (h:D3 op k a b=some v):
  (do eqGuard op t xo yo (.int k a) (.int k b);binOp op t (.int k a) (.int k b):Sem Value).run P w=.ok v w∧dry v=true:=by
 cases op<;>simp only [D3] at h<;>first
  |(cases h;done)
  |(cases h;refine ⟨?_,rfl⟩;simp [eqGuard,binOp,Op.intArith,Op.intBits,Op.intCmp,D0];done)
  |(cases h;refine ⟨?_,rfl⟩;simp only [eqGuard,binOp,Op.intCmp,BN,HG];simp [bne,BEq.beq];done)
  |(cases h;refine ⟨?_,rfl⟩;simp only [eqGuard,binOp,Op.intCmp,HG];simp [←decide_not,Int.not_le];done)
  |(split at h<;>cases h;rename_i hb;refine ⟨?_,rfl⟩;simp [eqGuard,binOp,Op.intDiv,hb];done)
theorem Oz {op:BinOp} {k k':IntKind} {a b:Int} {v:Value} {t:TypeId} {xo yo:Operand} (ho:op=.shl∨op=.shr) (h:D8 op k a b=some v):
  (do eqGuard op t xo yo (.int k a) (.int k' b);binOp op t (.int k a) (.int k' b):Sem Value).run P w=.ok v w∧dry v=true:=by
 unfold D8 at h
 split at h
 ·cases h
 ·rename_i hb
  rcases ho with rfl|rfl<;>(cases h;refine ⟨?_,rfl⟩;simp [eqGuard,binOp,Op.shift,hb])
theorem Yh {op : BinOp} {a b : ByteArray} {v : Value} {t : TypeId} {xo yo : Operand} (h : Cr op a b = some v) :
    (do eqGuard op t xo yo (.string a) (.string b); binOp op t (.string a) (.string b) : Sem Value).run P w = .ok v w ∧ dry v = true := by
  cases op <;> simp only [Cr] at h <;> first
    | (cases h; done)
    | (cases h; refine ⟨?_, rfl⟩; simp [eqGuard, binOp, Op.stringOp, toList_eq, LC]; done)
    | (split at h
       · rename_i hl
         cases h
         refine ⟨?_, rfl⟩
         have : ¬ ((a.size + b.size : Nat) : Int) > IntKind.i64.max := by
           simp only [CD] at hl
           have : IntKind.i64.max = 9223372036854775807 := by decide
           omega
         simp only [eqGuard, binOp, Op.stringOp, Sem.run_bind]
         rw [NM _ (a ++ b) (QT a b)]
         rw [if_neg this]
         rfl
       · cases h)
theorem Ih {t:TypeId} (hu:P.underlying t=some .bool) (a b:Bool):(Op.equal t (.bool a) (.bool b)).run P w=.ok (a==b) w:=by
 have:∀d,(Op.equalIn (d+1) t (.bool a) (.bool b)).run P w=.ok (a==b) w:=fun d=>by
  simp only [Op.equalIn,Sem.run_bind,run_underlying hu,Result.andThen,Sem.run_pure]
 exact this 9999
theorem O0 (t:TypeId) (a b:Bool):binOp .eql t (.bool a) (.bool b)=(do pure (.bool (←Op.equal t (.bool a) (.bool b))):Sem Value):=by simp only [binOp]
theorem Nc (t:TypeId) (a b:Bool):binOp .neq t (.bool a) (.bool b)=(do pure (.bool (!(←Op.equal t (.bool a) (.bool b)))):Sem Value):=by simp only [binOp]
theorem PF (t:TypeId) (a b:Array Value):binOp .eql t (.agg a) (.agg b)=(do pure (.bool (←Op.equal t (.agg a) (.agg b))):Sem Value):=by simp only [binOp]
theorem PI (t:TypeId) (a b:Array Value):binOp .neq t (.agg a) (.agg b)=(do pure (.bool (!(←Op.equal t (.agg a) (.agg b)))):Sem Value):=by simp only [binOp]
theorem MM:∀{zs xs:List Value},CO zs xs=true→∀v∈xs,dry v=true
 |zs,[],_=>by simp
 |[],x::xs,h=>by simp [CO] at h
 |z::zs,x::xs,h=>by
  have hr:dry x=true∧CO zs xs=true:=by
   cases z<;>cases x<;>simp_all [CO,dry]
  intro v hv
  cases hv with
  |head=>exact hr.1
  |tail _ hm=>exact MM hr.2 v hm
theorem Ze {eqs:List TypeId} (he:LX P eqs) {op:BinOp} {t:TypeId} {x y x' y' v:Value} {xo yo:Operand} (h:EH P eqs op t x y=some v)
  (hx:VR φ x x') (hy:VR φ y y'):(do eqGuard op t xo yo x' y';binOp op t x' y':Sem Value).run P w=.ok v w∧dry v=true:=by
 have agg:∀xs ys b,(eqs.contains t)=true→HU P t xs.toList ys.toList=some b→x=.agg xs→y=.agg ys→
   x'=.agg xs∧y'=.agg ys∧(eqGuard .eql t xo yo (.agg xs) (.agg ys)).run P w=.ok () w∧(eqGuard .neq t xo yo (.agg xs) (.agg ys)).run P w=.ok () w∧
   (Op.equal t (.agg xs) (.agg ys)).run P w=.ok b w:=fun xs ys b hc ha ex ey=>by
  have hl:=ha
  unfold HU at hl
  split at hl
  ·split at hl
   ·rename_i z _ hlk
    simp only [Bool.and_eq_true] at hlk
    subst ex;subst ey
    refine ⟨hx.of_dryV ?_,hy.of_dryV ?_,he t (by simpa using hc) xs ys b ha xo yo w⟩
    ·simp only [Hx,List.all_eq_true];exact MM hlk.1
    ·simp only [Hx,List.all_eq_true];exact MM hlk.2
   ·cases hl
  ·cases hl
 unfold EH at h
 split at h
 ·split at h
  ·cases hx.int;cases hy.int
   unfold LZ at h
   split at h
   ·exact Oz (.inl rfl) h
   ·exact Oz (.inr rfl) h
   ·split at h
    ·rename_i hk;subst hk;exact bR h
    ·cases h
  ·cases h
 ·split at h
  ·cases hx.str;cases hy.str;exact Yh h
  ·cases h
 ·split at h
  ·cases hx.bool;cases hy.bool
   unfold Kf at h
   split at h
   ·rename_i hu
    split at h
    ·cases h
     refine ⟨?_,rfl⟩
     rw [O0]
     simp only [eqGuard,Sem.run_bind,Ih hu,Result.andThen,Sem.run_pure]
     simp
    ·cases h
     refine ⟨?_,rfl⟩
     rw [Nc]
     simp only [eqGuard,Sem.run_bind,Ih hu,Result.andThen,Sem.run_pure]
     simp
    ·cases h
   ·cases h
  ·cases h
 ·rename_i xs
  split at h
  ·rename_i ys
   unfold Og at h
   split at h
   ·rename_i hc
    split at h
    ·rename_i b ha
     obtain ⟨rfl,rfl,g1,g2,g3⟩:=agg xs ys b hc ha rfl rfl
     split at h
     ·cases h
      refine ⟨?_,rfl⟩
      rw [PF]
      simp only [Sem.run_bind,g1,g3,Result.andThen,Sem.run_pure]
     ·cases h
      refine ⟨?_,rfl⟩
      rw [PI]
      simp only [Sem.run_bind,g2,g3,Result.andThen,Sem.run_pure]
     ·cases h
    ·cases h
   ·cases h
  ·cases h
 ·cases h
theorem eW {op:UnOp} {x x' v:Value} (h:VT op x=some v) (hx:VR φ x x'):(Op.unary op x').run P w=.ok v w∧dry v=true:=by
 unfold VT at h
 split at h
 ·cases h;cases hx.bool;exact ⟨by simp [Op.unary],rfl⟩
 ·cases h;cases hx.int;exact ⟨by simp [Op.unary,Op.intArith],rfl⟩
 ·cases h
end
end Go.Vx
