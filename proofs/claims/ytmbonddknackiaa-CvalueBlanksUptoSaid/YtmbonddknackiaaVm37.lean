/- Texts joined: VxEq VzIns VzCont VzTell VxAlive VyTy21 VyPack VyC1 VyL1 VyL2 VzR1 VyL3 VyL4 VyL5. -/
import Derived.Test.YtmbonddknackiaaVxTold
import Derived.KernelRfl
import Derived.Test.YtmbonddknackiaaProg
import Derived.Test.YtmbonddknackiaaVxAppend
import Derived.Shelf.Spec.SlicesInsertGrow
import Derived.WalkKit
import Derived.ProofKit
import Derived.Lib.Overlaps
import Derived.Shelf.Lay
import Derived.Shelf.Strings.Search3
import Derived.Test.YtmbonddknackiaaVyRun
import Derived.Test.YtmbonddknackiaaVyOwn
import Derived.Test.YtmbonddknackiaaVyLay1
import Derived.OpenShut
import Derived.Shelf.Vars
set_option linter.unusedSimpArgs false
set_option linter.unusedVariables false
section
namespace Go.Vx.Seat
open Go.Proofs
theorem X7 (d:Nat) (a b:Int) (w:World):(Op.equalIn (d+1) 3 (.int .i64 a) (.int .i64 b)).run Try.prog w=.ok (a==b) w:=by
 simp [Op.equalIn,run_underlying Try.underlying3]
theorem bK (d:Nat) (a b:ByteArray) (w:World):(Op.equalIn (d+1) 9 (.string a) (.string b)).run Try.prog w=.ok (a==b) w:=by
 simp [Op.equalIn,run_underlying Try.underlying9]
theorem VM (d:Nat) (a b:Bool) (w:World):(Op.equalIn (d+1) 4 (.bool a) (.bool b)).run Try.prog w=.ok (a==b) w:=by
 simp [Op.equalIn,run_underlying Try.underlying4]
theorem j4 (b c:Bool) (w:World):(if b=false then Result.ok false w else Result.ok c w)=Result.ok (b&&c) w:=by cases b<;>rfl
theorem lS:Try.prog.stoodInHeld 35=false:=by kernel_rfl
theorem lB:Try.prog.stoodInHeld 38=false:=by kernel_rfl
theorem o7:Bw Try.prog 3=some false:=by kernel_rfl
theorem qG:Bw Try.prog 9=some false:=by kernel_rfl
theorem qI:Bw Try.prog 4=some false:=by kernel_rfl
theorem agN:Bw Try.prog 35=some true:=by kernel_rfl
theorem agC:Bw Try.prog 36=some true:=by kernel_rfl
theorem szN:Ab Try.prog 35=3:=by kernel_rfl
theorem szC:Ab Try.prog 36=4:=by kernel_rfl
theorem sz3:Ab Try.prog 3=1:=by kernel_rfl
theorem GB {t:TypeId} (h:Bw Try.prog t=some false) (cs:Array Value) (off:Nat) (w:World):(part t cs off).run Try.prog w=match cs[off]? with|some v=>.ok v w|none=>.halt (.stuck "part: no such cell") w:=by
 simp only [part,Sem.run_bind,GG h,Result.andThen]
 cases cs[off]?<;>simp
theorem TA {t n:TypeId} (h:Bw Try.prog t=some true) (hz:Ab Try.prog t=n) (cs:Array Value) (off:Nat) (w:World):(part t cs off).run Try.prog w=.ok (.agg (cs.extract off (off+n))) w:=by
 simp [part,GG h,GO (Ho h),hz]
theorem ZJ (d:Nat) (a b:Bool) (a1 b1 a2 b2:ByteArray) (w:World):(Op.equalIn (d+1+1) 35 (.agg #[.bool a,.string a1,.string a2]) (.agg #[.bool b,.string b1,.string b2])).run Try.prog w=.ok ((a==b)&&((a1==b1)&&(a2==b2))) w:=by
 rw [Op.equalIn]
 simp only [Sem.run_bind,run_underlying Try.underlying35,Result.andThen,run_program,lS]
 simp only [forIn]
 simp [GB qI,GB qG,VM,bK]
 simp only [j4]
 cases h1:a==b<;>cases h2:a1==b1<;>cases h3:a2==b2<;>simp_all
theorem YU (d:Nat) (a0 a1 a2 a3 b0 b1 b2 b3:Int) (w:World):(Op.equalIn (d+1+1) 36 (.agg #[.int .i64 a0,.int .i64 a1,.int .i64 a2,.int .i64 a3]) (.agg #[.int .i64 b0,.int .i64 b1,.int .i64 b2,.int .i64 b3])).run Try.prog w=
  .ok ((a0==b0)&&((a1==b1)&&((a2==b2)&&(a3==b3)))) w:=by
 rw [Op.equalIn]
 simp only [Sem.run_bind,run_underlying Try.underlying36,Result.andThen,GO (Ho o7),sz3]
 simp [Std.Legacy.Range.forIn_eq_forIn_range',Std.Legacy.Range.size,List.range'_succ,GB o7,X7]
 by_cases h1:a0=b0<;>by_cases h2:a1=b1<;>by_cases h3:a2=b2<;>by_cases h4:a3=b3<;>simp_all
theorem kD (d:Nat) (a0 a8 a9 a10 a11 a12 b0 b8 b9 b10 b11 b12:Int) (a1 a2 a4 a5 b1 b2 b4 b5:ByteArray) (p3 p6 p7 q3 q6 q7:Bool) (w:World):
  (Op.equalIn (d+1+1+1) 38 (.agg #[.int .i64 a0,.string a1,.string a2,.bool p3,.string a4,.string a5,.bool p6,.bool p7,.int .i64 a8,.int .i64 a9,.int .i64 a10,.int .i64 a11,.int .i64 a12])
   (.agg #[.int .i64 b0,.string b1,.string b2,.bool q3,.string b4,.string b5,.bool q6,.bool q7,.int .i64 b8,.int .i64 b9,.int .i64 b10,.int .i64 b11,.int .i64 b12])).run Try.prog w=
  .ok ((a0==b0)&&((a1==b1)&&((a2==b2)&&(((p3==q3)&&((a4==b4)&&(a5==b5)))&&((p6==q6)&&((p7==q7)&&(((a8==b8)&&((a9==b9)&&((a10==b10)&&(a11==b11))))&&(a12==b12)))))))) w:=by
 rw [Op.equalIn]
 simp only [Sem.run_bind,run_underlying Try.underlying38,Result.andThen,run_program,lB]
 simp only [forIn]
 simp [GB qI,GB qG,GB o7,TA agN szN,TA agC szC,VM,bK,X7,ZJ,YU]
 by_cases h0:¬a0=b0
 ·simp [h0]
 have h0:a0=b0:=Classical.not_not.1 h0
 cases h1:a1==b1
 ·simp
 cases h2:a2==b2
 ·simp
 by_cases h3:¬p3=q3
 ·simp [h3]
 have h3:p3=q3:=Classical.not_not.1 h3
 cases h4:a4==b4
 ·simp
 cases h5:a5==b5
 ·simp [h3]
 by_cases h6:¬p6=q6
 ·simp [h0,h3,h6]
 have h6:p6=q6:=Classical.not_not.1 h6
 by_cases h7:¬p7=q7
 ·simp [h0,h3,h6,h7]
 have h7:p7=q7:=Classical.not_not.1 h7
 by_cases h8:¬a8=b8
 ·simp [h0,h3,h6,h7,h8]
 have h8:a8=b8:=Classical.not_not.1 h8
 by_cases h9:¬a9=b9
 ·simp [h0,h3,h6,h7,h8,h9]
 have h9:a9=b9:=Classical.not_not.1 h9
 by_cases h10:¬a10=b10
 ·simp [h0,h3,h6,h7,h8,h9,h10]
 have h10:a10=b10:=Classical.not_not.1 h10
 by_cases h11:¬a11=b11
 ·simp [h0,h3,h6,h7,h8,h9,h10,h11]
 have h11:a11=b11:=Classical.not_not.1 h11
 by_cases h12:a12=b12<;>simp [h0,h3,h6,h7,h8,h9,h10,h11,h12]
theorem Dk {k:IntKind} {z:Int} {zs xs:List Value} (h:CO (.int k z::zs) xs=true):∃n xs',xs=.int k n::xs'∧CO zs xs'=true:=by
 cases xs with
 |nil=>simp [CO] at h
 |cons x xs=>
  cases x<;>simp [CO] at h
  obtain ⟨rfl,h⟩:=h
  exact ⟨_,xs,rfl,h⟩
theorem GF {z:ByteArray} {zs xs:List Value} (h:CO (.string z::zs) xs=true):∃n xs',xs=.string n::xs'∧CO zs xs'=true:=by
 cases xs with
 |nil=>simp [CO] at h
 |cons x xs=>cases x<;>simp [CO] at h;exact ⟨_,xs,rfl,h⟩
theorem Hy {z:Bool} {zs xs:List Value} (h:CO (.bool z::zs) xs=true):∃n xs',xs=.bool n::xs'∧CO zs xs'=true:=by
 cases xs with
 |nil=>simp [CO] at h
 |cons x xs=>cases x<;>simp [CO] at h;exact ⟨_,xs,rfl,h⟩
theorem L9 {xs:List Value} (h:CO [] xs=true):xs=[]:=by
 cases xs with
 |nil=>rfl
 |cons x xs=>simp [CO] at h
abbrev IL:ByteArray:=⟨#[]⟩
theorem mB:Cv Try.prog 38=some (.agg #[.int .i64 0,.string IL,.string IL,.bool false,.string IL,.string IL,.bool false,.bool false,.int .i64 0,.int .i64 0,.int .i64 0,.int .i64 0,.int .i64 0]):=by kernel_rfl
theorem mA:Cv Try.prog 35=some (.agg #[.bool false,.string IL,.string IL]):=by kernel_rfl
theorem lF:Cv Try.prog 36=some (.agg #[.int .i64 0,.int .i64 0,.int .i64 0,.int .i64 0]):=by kernel_rfl
theorem Yz {xs:List Value} (h:CO [.bool false,.string IL,.string IL] xs=true):∃a b c,xs=[.bool a,.string b,.string c]:=by
 obtain ⟨a,x1,rfl,g1⟩:=Hy h
 obtain ⟨b,x2,rfl,g2⟩:=GF g1
 obtain ⟨c,x3,rfl,g3⟩:=GF g2
 cases L9 g3
 exact ⟨a,b,c,rfl⟩
theorem ZW {xs:List Value} (h:CO [.int .i64 0,.int .i64 0,.int .i64 0,.int .i64 0] xs=true):∃a b c d,xs=[.int .i64 a,.int .i64 b,.int .i64 c,.int .i64 d]:=by
 obtain ⟨a,x1,rfl,g1⟩:=Dk h
 obtain ⟨b,x2,rfl,g2⟩:=Dk g1
 obtain ⟨c,x3,rfl,g3⟩:=Dk g2
 obtain ⟨d,x4,rfl,g4⟩:=Dk g3
 cases L9 g4
 exact ⟨a,b,c,d,rfl⟩
theorem Zo {xs:List Value} (h:CO [.int .i64 0,.string IL,.string IL,.bool false,.string IL,.string IL,.bool false,.bool false,.int .i64 0,.int .i64 0,.int .i64 0,.int .i64 0,.int .i64 0] xs=true):
  ∃a0 a1 a2 a3 a4 a5 a6 a7 a8 a9 a10 a11 a12,xs=[.int .i64 a0,.string a1,.string a2,.bool a3,.string a4,.string a5,.bool a6,.bool a7,.int .i64 a8,.int .i64 a9,.int .i64 a10,.int .i64 a11,.int .i64 a12]:=by
 obtain ⟨a0,x0,rfl,g1⟩:=Dk h
 obtain ⟨a1,x1,rfl,g2⟩:=GF g1
 obtain ⟨a2,x2,rfl,g3⟩:=GF g2
 obtain ⟨a3,x3,rfl,g4⟩:=Hy g3
 obtain ⟨a4,x4,rfl,g5⟩:=GF g4
 obtain ⟨a5,x5,rfl,g6⟩:=GF g5
 obtain ⟨a6,x6,rfl,g7⟩:=Hy g6
 obtain ⟨a7,x7,rfl,g8⟩:=Hy g7
 obtain ⟨a8,x8,rfl,g9⟩:=Dk g8
 obtain ⟨a9,x9,rfl,g10⟩:=Dk g9
 obtain ⟨a10,x10,rfl,g11⟩:=Dk g10
 obtain ⟨a11,x11,rfl,g12⟩:=Dk g11
 obtain ⟨a12,x12,rfl,g13⟩:=Dk g12
 cases L9 g13
 exact ⟨_,_,_,_,_,_,_,_,_,_,_,_,_,rfl⟩
theorem FM {t:TypeId} (h:Try.prog.eqGuardType Try.prog.depth t=false) (op:BinOp) (xo yo:Operand) (a b:Array Value) (w:World):(eqGuard op t xo yo (.agg a) (.agg b)).run Try.prog w=.ok () w:=by
 unfold eqGuard
 cases op<;>simp [h]
theorem Yv:Try.prog.eqGuardType Try.prog.depth 38=false:=by kernel_rfl
theorem Zx:Try.prog.eqGuardType Try.prog.depth 35=false:=by kernel_rfl
theorem Yp:Try.prog.eqGuardType Try.prog.depth 36=false:=by kernel_rfl
theorem Lk {xs:Array Value} {l:List Value} (h:xs.toList=l):xs=l.toArray:=by subst h;simp
theorem KV {t:TypeId} {x y:Value} {b:Bool} {w:World} (h:∀d,(Op.equalIn (d+1+1+1) t x y).run Try.prog w=.ok b w):(Op.equal t x y).run Try.prog w=.ok b w:=by
 unfold Op.equal
 have:Op.maxDepth=9997+1+1+1:=by unfold Op.maxDepth;omega
 rw [this]
 exact h 9997
theorem k9:LX Try.prog [38,35,36]:=by
 intro t ht xs ys b hab xo yo w
 simp only [List.mem_cons,List.not_mem_nil,or_false] at ht
 rcases ht with rfl|rfl|rfl
 ·refine ⟨FM Yv _ _ _ _ _ _,FM Yv _ _ _ _ _ _,?_⟩
  unfold HU at hab
  rw [mB] at hab
  simp only at hab
  split at hab
  ·rename_i hl
   simp only [Bool.and_eq_true] at hl
   obtain ⟨a0,a1,a2,a3,a4,a5,a6,a7,a8,a9,a10,a11,a12,hx⟩:=Zo hl.1
   obtain ⟨b0,b1,b2,b3,b4,b5,b6,b7,b8,b9,b10,b11,b12,hy⟩:=Zo hl.2
   rw [hx,hy] at hab
   simp only [EK,JG,if_true] at hab
   cases hab
   rw [Lk hx,Lk hy]
   refine KV fun d=>?_
   have:=kD d a0 a8 a9 a10 a11 a12 b0 b8 b9 b10 b11 b12 a1 a2 a4 a5 b1 b2 b4 b5 a3 a6 a7 b3 b6 b7 w
   rw [this]
   refine congrArg (fun q=>Result.ok q w) ?_
   simp only [VN,Bool.and_assoc,Bool.and_true]
   rfl
  ·cases hab
 ·refine ⟨FM Zx _ _ _ _ _ _,FM Zx _ _ _ _ _ _,?_⟩
  unfold HU at hab
  rw [mA] at hab
  simp only at hab
  split at hab
  ·rename_i hl
   simp only [Bool.and_eq_true] at hl
   obtain ⟨a0,a1,a2,hx⟩:=Yz hl.1
   obtain ⟨b0,b1,b2,hy⟩:=Yz hl.2
   rw [hx,hy] at hab
   simp only [EK,JG] at hab
   cases hab
   rw [Lk hx,Lk hy]
   refine KV fun d=>?_
   have:=ZJ (d+1) a0 b0 a1 b1 a2 b2 w
   rw [this]
   refine congrArg (fun q=>Result.ok q w) ?_
   simp only [VN,Bool.and_true]
  ·cases hab
 ·refine ⟨FM Yp _ _ _ _ _ _,FM Yp _ _ _ _ _ _,?_⟩
  unfold HU at hab
  rw [lF] at hab
  simp only at hab
  split at hab
  ·rename_i hl
   simp only [Bool.and_eq_true] at hl
   obtain ⟨a0,a1,a2,a3,hx⟩:=ZW hl.1
   obtain ⟨b0,b1,b2,b3,hy⟩:=ZW hl.2
   rw [hx,hy] at hab
   simp only [EK,JG,if_true] at hab
   cases hab
   rw [Lk hx,Lk hy]
   refine KV fun d=>?_
   have:=YU (d+1) a0 a1 a2 a3 b0 b1 b2 b3 w
   rw [this]
   refine congrArg (fun q=>Result.ok q w) ?_
   simp only [Bool.and_true]
   rfl
  ·cases hab
def aC (P:Program):Bool:=P.types.toList.all fun i=>match i.zero with|some z=>Dv z||Hx z|none=>true
theorem Uk {P:Program} (h:aC P=true):Ca P:=by
 intro t z hz
 obtain ⟨i,hi,hiz,ht⟩:=Ko hz
 unfold aC at h
 simp only [List.all_eq_true] at h
 have hm:i∈P.types.toList:=by
  rw [Array.getElem?_eq_some_iff] at hi
  obtain ⟨hlt,rfl⟩:=hi
  simp
 have:=h i hm
 rw [hiz] at this
 simp only [ht,Bool.false_or] at this
 exact this
theorem fT:Ca Try.prog:=Uk (by kernel_rfl)
theorem mixed:Try.prog.follows .mixedOrders=true:=by kernel_rfl
noncomputable def C0:Cx:={P:=Try.prog,eqs:=[38,35,36],told:=fun f=>if f=0 then some (fun _ _ _=>none) else none,top:=123,low:=fun base w=>0<base∧∃m:Int,w.cell? ⟨0,0,none⟩=some (.int .i64 m)}
def dP (P:Program):Nat→Bool
 |0=>true
 |f+1=>dP P f&&(f==0||(match P.funcs.toList[f]? with|some fn=>W2 P fn|none=>true))
theorem Ti {P:Program}:∀{n:Nat},dP P n=true→∀f fn,f<n→f≠0→P.funcs[f]?=some fn→W2 P fn=true
 |0,_,f,fn,hf,_,_=>by omega
 |n+1,h,f,fn,hf,hs,hfn=>by
  simp only [dP,Bool.and_eq_true] at h
  by_cases e:f=n
  ·subst e
   have:P.funcs.toList[f]?=some fn:=by simpa using hfn
   have h2:=h.2
   rw [this] at h2
   simpa [hs] using h2
  ·exact Ti h.1 f fn (by omega) hs hfn
theorem n9:dP Try.prog 123=true:=by kernel_rfl
theorem bG (f:FuncId):C0.told f=if f=0 then some (fun _ _ _=>none) else none:=rfl
theorem lV:Good C0:=by
 refine ⟨mixed,k9,fT,fun base w w2 ⟨h1,m,h2⟩ hb=>⟨h1,m,by rw [hb.cell h1];exact h2⟩,fun f fn hf ht hfn=>?_,fun f g h lo args h1 v h' hx=>?_,fun base f g h lo f' args h1 v h' hx=>?_⟩
 ·refine Ti n9 f fn hf (fun e=>?_) hfn
  rw [bG,if_pos e] at ht;cases ht
 ·rw [bG] at h
  split at h<;>cases h
  cases hx
 ·rw [bG] at h
  split at h<;>cases h
  simp at hx
end Go.Vx.Seat
end
section
open Go Go.Vx Go.Proofs Go.RowKit
namespace Go.Vx.Seat
set_option maxHeartbeats 4000000 in
set_option maxRecDepth 100000 in
theorem eY (vb voff vc:Nat) (w:World) {v':Value} {w1:World}
  (hr:∀ty,(Builtin.append_ #[22,22] ty #[.slice none 0 0,.slice (some ⟨vb,voff,none⟩) 1 vc]).run Try.prog w=.ok v' w1):
  Calls Try.prog 61 #[.slice none 0 0,.int .i64 0,.slice (some ⟨vb,voff,none⟩) 1 vc] w fun e w'=>e=.returned v'∧w'=w1:=by
 have mixed:Try.prog.follows .mixedOrders=true:=Go.Vx.Seat.mixed
 go_enter Try.func61,Try.ntmps61
 go_wp2_with (at_builtin;refine Lib.wpList_append_run _ rfl _ _ _ _ rfl _ _ rfl rfl _ _ (hr _) ?_)
 go_ret
 exact ⟨rfl,rfl⟩
set_option maxHeartbeats 4000000 in
set_option maxRecDepth 100000 in
theorem Yw (b off n cc vb voff vc g G:Nat) (w w1 w2 w3:World) (x2 x3:Value) (hn:0<n) (hcc:n≤cc) (hroom:cc<n+1) (hbig:n≤1000000000000) (hG:n+1≤G) (hG2:G≤9223372036854775807)
  (hA:∀ty,(Builtin.append_ #[22,3] ty #[.slice (some ⟨b,off,none⟩) 0 cc,.int .i64 ((n:Int)+1)]).run Try.prog w=.ok (.slice (some ⟨g,0,none⟩) (n+1) G) w1)
  (hB:∀ty,(Builtin.copy_ #[22,22] ty #[.slice (some ⟨g,0,none⟩) (n+1) G,.slice (some ⟨vb,voff,none⟩) 1 vc]).run Try.prog w1=.ok x2 w2)
  (hC:∀ty,(Builtin.copy_ #[22,22] ty #[.slice (some ⟨g,13,none⟩) n (G - 1),.slice (some ⟨b,off,none⟩) n cc]).run Try.prog w2.drew=.ok x3 w3):
  Calls Try.prog 61 #[.slice (some ⟨b,off,none⟩) n cc,.int .i64 0,.slice (some ⟨vb,voff,none⟩) 1 vc] w fun e w'=>e=.returned (.slice (some ⟨g,0,none⟩) (n+1) G)∧w'=w3:=by
 have mixed:Try.prog.follows .mixedOrders=true:=Go.Vx.Seat.mixed
 have z1:¬((n:Int)=0):=by omega
 have z2:¬(0:Int)=(n:Int):=by omega
 have z3:(cc:Int)<(n:Int)+1:=by omega
 have z4:IntKind.i64.wrap ((n:Int)+1)=(n:Int)+1:=by rw [IntKind.wrap_i64];omega
 have z5:¬(G=0):=by omega
 have z6:¬(G=1):=by omega
 have z7:¬(cc=0):=by omega
 have z8:IntKind.i64.wrap 1=1:=by rw [IntKind.wrap_i64];omega
 have z9:(1:Int)≤(n:Int)+1:=by omega
 have z10:Int.toNat 1=1:=rfl
 have z11:(0:Int)≤1:=by omega
 clear hroom hbig hG2
 go_enter Try.func61,Try.ntmps61
 go_wp2_with (first
  |(at_builtin;refine Lib.wpList_append_run _ rfl _ _ _ _ rfl _ _ rfl rfl _ _ (hA _) ?_)
  |(at_builtin;refine wpList_copy_runI _ rfl _ _ 22 22 rfl _ _ rfl rfl (hB _) ?_))
 go_region_law_o (refine step_copy_runI rfl _ _ 22 22 rfl (.slice (some ⟨g,13,none⟩) n (G - 1)) (.slice (some ⟨b,off,none⟩) n cc) (by simp [Act.eval,Act.put]) (by simp [Act.eval,Act.put]) (hC _) ?_)
 go_wp2
 go_ret
 exact ⟨rfl,rfl⟩
set_option maxHeartbeats 4000000 in
set_option maxRecDepth 100000 in
theorem W6 (b off n cc vb voff vc:Nat) (w w1 w2:World) (x1 x2:Value) (hn:0<n) (hroom:n+1≤cc) (hc63:cc≤9223372036854775807)
  (hov:∀lb cb,(callFunc 87 #[.slice (some ⟨vb,voff,none⟩) 1 vc,.slice (some ⟨b,off+13,none⟩) lb cb]).run Try.prog w=.ok (.value (.bool false)) w)
  (hB:∀ty,(Builtin.copy_ #[22,22] ty #[.slice (some ⟨b,off+13,none⟩) n (cc - 1),.slice (some ⟨b,off,none⟩) (n+1) cc]).run Try.prog w.drew=.ok x1 w1)
  (hC:∀ty,(Builtin.copy_ #[22,22] ty #[.slice (some ⟨b,off,none⟩) (n+1) cc,.slice (some ⟨vb,voff,none⟩) 1 vc]).run Try.prog w1=.ok x2 w2):
  Calls Try.prog 61 #[.slice (some ⟨b,off,none⟩) n cc,.int .i64 0,.slice (some ⟨vb,voff,none⟩) 1 vc] w fun e w'=>e=.returned (.slice (some ⟨b,off,none⟩) (n+1) cc)∧w'=w2:=by
 have mixed:Try.prog.follows .mixedOrders=true:=Go.Vx.Seat.mixed
 have z1:¬((n:Int)=0):=by omega
 have z2:¬(0:Int)=(n:Int):=by omega
 have z3:¬(cc:Int)<(n:Int)+1:=by omega
 have z4:IntKind.i64.wrap ((n:Int)+1)=(n:Int)+1:=by rw [IntKind.wrap_i64];omega
 have z6:¬(cc=1):=by omega
 have z7:¬(cc=0):=by omega
 have z8:IntKind.i64.wrap 1=1:=by rw [IntKind.wrap_i64];omega
 have z9:(1:Int)≤(n:Int)+1:=by omega
 have z10:Int.toNat 1=1:=rfl
 have z11:(0:Int)≤1:=by omega
 have z12:(0:Int)≤(n:Int)+1:=by omega
 have z13:(n:Int)+1≤(cc:Int):=by omega
 have z14:((n:Int)+1).toNat=n+1:=by omega
 clear hroom hc63
 go_enter Try.func61,Try.ntmps61
 go_wp2_with (simp only [hov])
 go_region_law_o (refine step_copy_runI rfl _ _ 22 22 rfl (.slice (some ⟨b,off+13,none⟩) n (cc - 1)) (.slice (some ⟨b,off,none⟩) (n+1) cc) (by simp [Act.eval,Act.put]) (by simp [Act.eval,Act.put]) (hB _) ?_)
 go_wp2_with (at_builtin;refine wpList_copy_runI _ rfl _ _ 22 22 rfl _ _ rfl rfl (hC _) ?_)
 go_ret
 exact ⟨rfl,rfl⟩
end Go.Vx.Seat
end
section
namespace Go.Proofs
open Go.Shelf
shelf_lay Lays.n144 Nm 144 at Try as Try.lays144
open Go.RowKit Go.Lib in
theorem Try.strings_Contains (s sub:ByteArray) (m:Int) (w:World) (hs:s.size<4294967281) (hm:w.cell? ⟨0,0,none⟩=some (.int .i64 m)):
  Calls Try.prog 35 #[.string s,.string sub] w fun e w'=>e=.returned (.bool (Lib.contains s.data.toList sub.data.toList))∧w'=w:=Any.strings_Contains Try.lays144 s sub m w hs hm
end Go.Proofs
end
section
open Go Go.Vx Go.Proofs Go.RowKit
namespace Go.Vx.Seat
theorem LG {P:Program} {t t' ty e:TypeId} {i:TypeInfo} (ht:P.underlying t=some (.slice e)) (hi:P.info? e=some i) {g o dLen dCap m k:Nat} {x:Value} {cs:List Value} {w w1:World} (hk:k=Nat.min m dLen)
  (hlen:(Builtin.lenOf x).run P w=.ok m w) (hf:(Builtin.firstCells i.size k x).run P w=.ok cs.toArray w) (hst:(storeCells ⟨g,o,none⟩ cs).run P w=.ok () w1):
  (Builtin.copy_ #[t,t'] ty #[.slice (some ⟨g,o,none⟩) dLen dCap,x]).run P w=.ok (goInt k) w1:=by
 simp [Builtin.copy_,run_underlying ht,hlen,sizeOf,typeInfo,hi,←hk,hf,hst]
theorem gA {φ:Cy} {a b c:Value} {args':Array Value} (ha:All2 (VR φ) [a,b,c] args'.toList):∃x y z,args'=#[x,y,z]∧VR φ a x∧VR φ b y∧VR φ c z:=by
 obtain ⟨l⟩:=args'
 match l,ha with
 |[x,y,z],ha=>
  obtain ⟨u0,e0,r0⟩:=ha.2 0 a rfl
  obtain ⟨u1,e1,r1⟩:=ha.2 1 b rfl
  obtain ⟨u2,e2,r2⟩:=ha.2 2 c rfl
  cases e0;cases e1;cases e2
  exact ⟨_,_,_,rfl,r0,r1,r2⟩
 |[],ha=>have:=ha.1;simp at this
 |[_],ha=>have:=ha.1;simp at this
 |[_,_],ha=>have:=ha.1;simp at this
 |_::_::_::_::_,ha=>have:=ha.1;simp at this
theorem lR {φ:Cy} {a b:Value} {args':Array Value} (ha:All2 (VR φ) [a,b] args'.toList):∃x y,args'=#[x,y]∧VR φ a x∧VR φ b y:=by
 obtain ⟨l⟩:=args'
 match l,ha with
 |[x,y],ha=>
  obtain ⟨u0,e0,r0⟩:=ha.2 0 a rfl
  obtain ⟨u1,e1,r1⟩:=ha.2 1 b rfl
  cases e0;cases e1
  exact ⟨_,_,rfl,r0,r1⟩
 |[],ha=>have:=ha.1;simp at this
 |[_],ha=>have:=ha.1;simp at this
 |_::_::_::_,ha=>have:=ha.1;simp at this
def Ig (_:Nat) (args:List Value) (h:H):Option (Value×H):=
 match args with
 |[.string s,.string t]=>if s.size<4294967281 then some (.bool (Lib.contains s.data.toList t.data.toList),h) else none
 |_=>none
theorem dL (args:Array Value) (w:World):(callFunc 35 args).run Try.prog w=.ok (.enter 35 args) w:=enters_of Try.func35 (by kernel_rfl) rfl args w
theorem Qx (args:Array Value) (w:World):(callFunc 61 args).run Try.prog w=.ok (.enter 61 args) w:=enters_of Try.func61 (by kernel_rfl) rfl args w
theorem dM (base:Nat):FK C0 base fun lo f args h=>if f=35 then Ig lo args h else none:=by
 intro lo f args h v h' hx φ w args' hh hb ha hn
 simp only at hx
 split at hx
 ·rename_i e;subst e
  unfold Ig at hx
  split at hx
  ·rename_i s t
   split at hx
   ·rename_i hs
    cases hx
    obtain ⟨x,y,rfl,rx,ry⟩:=lR ha
    cases rx.of_dryV (by rfl)
    cases ry.of_dryV (by rfl)
    obtain ⟨_,m,hm⟩:=hb.low
    refine .inl ⟨dL _ _,Calls.mono (Try.strings_Contains s t m w hs hm) fun e w' ⟨he,hw⟩=>?_⟩
    subst hw
    exact ⟨_,he,φ,D6 rfl,Step.refl hh⟩
   ·cases hx
  ·cases hx
 ·cases hx
noncomputable def KD (lo:Nat) (args:List Value) (h:H):Option (Value×H):=
 match args with
 |[.slice none 0 0,.int .i64 i,.slice (some ax) 1 sx]=>if i=0 then EZ Try.prog lo 22 22 (.slice none 0 0) (.slice (some ax) 1 sx) h else none
 |[.slice (some a) n s,.int .i64 i,.slice (some ax) 1 sx]=>
  match h.getK a.block,h.getK ax.block with
  |some b,some bx=>
   if i=0∧0<n∧n≤200000000∧s=13∧sx=13∧b.own=true∧lo≤a.block∧bx.own=true∧ax.block≠a.block∧a.off+n*13≤b.cells.length∧ax.off+13≤bx.cells.length then
    some (.slice (some ⟨h.n,0,none⟩) (n+1) 13,(h.put a.block none).push ⟨true,(bx.cells.drop ax.off).take 13++(b.cells.drop a.off).take (n*13)⟩)
   else none
  |_,_=>none
 |_=>none
def ztv:Value:=.agg #[.int .i64 0,.string ⟨#[]⟩,.string ⟨#[]⟩,.bool false,.string ⟨#[]⟩,.string ⟨#[]⟩,.bool false,.bool false,.int .i64 0,.int .i64 0,.int .i64 0,.int .i64 0,.int .i64 0]
theorem Zp:ztv.cells.size=13:=by simp [ztv,Value.cells]
theorem qC:Cv Try.prog 38=some ztv:=by kernel_rfl
theorem iD (base:Nat):FK C0 base fun lo f args h=>if f=61 then KD lo args h else none:=by
 intro lo f args h v h' hx φ w args' hh hb ha hn
 simp only at hx
 split at hx
 ·rename_i e;subst e
  unfold KD at hx
  split at hx
  ·rename_i i ax sx
   split at hx
   ·rename_i hi0;subst hi0
    obtain ⟨s',i',x',rfl,rs,ri,rx⟩:=gA ha
    cases ri.of_dryV (by rfl)
    obtain ⟨v',w',φ',hr,hv,st⟩:=Mj (ty:=0) hh hb.le hx rs rx hn
    obtain ⟨rfl,_⟩:=rs.slc_nil
    obtain ⟨l,ca,cc,hφ,rfl,h1,h2,h3,h4⟩:=rx.slc
    obtain rfl:=h4.resolve_right (by omega)
    refine .inl ⟨Qx _ _,Calls.mono (eY _ _ _ w (v':=v') (w1:=w') fun ty=>hr) fun e w1 ⟨he,hw⟩=>?_⟩
    subst hw
    exact ⟨_,he,φ',hv,st⟩
   ·cases hx
  ·rename_i a n s i ax sx
   simp only [H.getK_eq] at hx
   split at hx
   ·rename_i b bx hg hgx
    split at hx
    ·rename_i hc
     obtain ⟨hi0,hn0,hnb,hs,hsx,hown,hlo,hownx,hne,hfit,hfitx⟩:=hc
     subst hi0;subst hs;subst hsx
     cases hx
     obtain ⟨s',i',x',rfl,rs,ri,rx⟩:=gA ha
     cases ri.of_dryV (by rfl)
     obtain ⟨l,ca,cc,hφ,rfl,h1,h2,h3,h4,_,hmk⟩:=rs.slcB
     obtain rfl:=h4.resolve_right (by omega)
     obtain ⟨lx,cx,vc,hφx,rfl,k1,k2,k3,k4,_,hmkx⟩:=rx.slcB
     obtain rfl:=k4.resolve_right (by omega)
     have hnn:=hn h.n (Nat.le_refl _) (by simp)
     have hbr:=hh.live _ _ _ hφ hg
     have hbx:=hh.live _ _ _ hφx hgx
     have hsep:lx.blk≠l.blk:=hh.sep _ _ _ _ _ _ hne hφx hφ hgx hg hownx
     obtain ⟨olds,holds,hocell⟩:=hbr.cells
     obtain ⟨nws,hnws,hncell⟩:=hbx.cells
     obtain ⟨it,hit,hiz⟩:=Ej qC
     have his:it.size=13:=by have:Ab Try.prog 38=13:=(by kernel_rfl);rw [←this];simp [Ab,hit]
     have hib:it.bytes=128:=by have:A0 Try.prog 38=128:=(by kernel_rfl);rw [←this];simp [A0,hit]
     have hzs:(clist ztv).length=13:=rfl
     have hu22:Try.prog.underlying 22=some (.slice 38):=Try.underlying22
     have hOl:((olds.drop a.off).take (n*13)).length=n*13:=by simp [←holds.1];omega
     have hNl:((nws.drop ax.off).take 13).length=13:=by simp [←hnws.1];omega
     have hO:=(holds.drop a.off).take (n*13)
     have hN:=(hnws.drop ax.off).take 13
     have hall:=hN.append hO
     have one:∀{xs ys:List Value},All2 (CR φ) xs ys→∀u∈ys,u.oneCell'=true:=fun {xs ys} hxy u hu=>by
      obtain ⟨j,hj⟩:=List.getElem?_of_mem hu
      have hj2:j<xs.length:=by rw [hxy.1];apply Classical.byContradiction;intro hc;rw [List.getElem?_eq_none (by omega)] at hj;cases hj
      obtain ⟨u',hu',hcr⟩:=hxy.2 j _ (List.getElem?_eq_getElem hj2)
      rw [hj] at hu';cases hu';exact hcr.oneCell
     have fO:∀(w':World),w'.heap[l.blk]?=w.heap[l.blk]?→∀m c,n≤m→(Builtin.firstCells it.size n (.slice (some ⟨l.blk,l.off+a.off,none⟩) m c)).run Try.prog w'=.ok ((olds.drop a.off).take (n*13)).toArray w':=fun w' hw' m c hm=>by
      refine run_firstCells_some w' it.size n _ m c _ (by rw [hOl,his]) fun j v hv=>?_
      rw [Addr.add_lit]
      rw [List.getElem?_take] at hv
      split at hv
      ·rw [List.getElem?_drop] at hv
       have:=hocell _ _ hv
       rw [show l.off+a.off+j=l.off+(a.off+j) by omega]
       simpa [World.cell?,hw'] using this
      ·cases hv
     have fN:∀(w':World),w'.heap[lx.blk]?=w.heap[lx.blk]?→(Builtin.firstCells it.size 1 (.slice (some ⟨lx.blk,lx.off+ax.off,none⟩) 1 vc)).run Try.prog w'=.ok ((nws.drop ax.off).take 13).toArray w':=fun w' hw'=>by
      refine run_firstCells_some w' it.size 1 _ 1 vc _ (by rw [hNl,his]) fun j v hv=>?_
      rw [Addr.add_lit]
      rw [List.getElem?_take] at hv
      split at hv
      ·rw [List.getElem?_drop] at hv
       have:=hncell _ _ hv
       rw [show lx.off+ax.off+j=lx.off+(ax.off+j) by omega]
       simpa [World.cell?,hw'] using this
      ·cases hv
     by_cases hroom:n+1≤cc
     ·
      obtain ⟨c,el,fr,g1,g2,g3,g4,g5⟩:=hbr
      obtain ⟨cX,elX,frX,x1,x2,x3,x4,x5⟩:=hbx
      have hfr:∀j,j<l.room→¬(fr.1≤l.off+j∧l.off+j<fr.2):=fun j hj=>by rcases g5 hown with h|⟨_,h⟩<;>omega
      have hfrX:frX.1=frX.2:=by
       rcases x5 hownx with h|⟨h,_⟩
       ·exact h
       ·rw [hmkx (by decide)] at h;cases h
      have e1:(n+1)*13≤cc*13:=Nat.mul_le_mul_right _ hroom
      obtain ⟨w1,hst1,on1,c1,hc1,hs1,hp1⟩:=B3 (P:=Try.prog) l.blk (l.off+a.off+13) ((olds.drop a.off).take (n*13)) 0 w.drew c el fr g1 (by rw [hOl];omega)
       (fun j hj=>by rw [hOl] at hj;have:=hfr (a.off+13+j) (by omega);rw [show l.off+(a.off+13+j)=l.off+a.off+13+0+j by omega] at this;exact this) (one hO)
      obtain ⟨w2,hst2,on2,c2,hc2,hs2,hp2⟩:=B3 (P:=Try.prog) l.blk (l.off+a.off) ((nws.drop ax.off).take 13) 0 w1 c1 el fr hc1 (by rw [hNl];omega)
       (fun j hj=>by rw [hNl] at hj;have:=hfr (a.off+j) (by omega);rw [show l.off+(a.off+j)=l.off+a.off+0+j by omega] at this;exact this) (one hN)
      have hov:∀lb cb,(callFunc 87 #[.slice (some ⟨lx.blk,lx.off+ax.off,none⟩) 1 vc,.slice (some ⟨l.blk,l.off+a.off+13,none⟩) lb cb]).run Try.prog w=.ok (.value (.bool false)) w:=fun lb cb=>by
       rw [run_callFunc_extern Try.func87 (by kernel_rfl) (by kernel_rfl) (by kernel_rfl) (e:=Extern.SlicesOverlaps.overlaps #[22,22] #[4]) (by kernel_rfl),
        Lib.run_overlaps_apart w 22 4 38 hu22 13 (fun w=>by simp [sizeOf,typeInfo,hit,his]) ⟨lx.blk,lx.off+ax.off,none⟩ ⟨l.blk,l.off+a.off+13,none⟩ 1 vc lb cb hsep elX el cX.size c.size (by simp [World.shape?,x1]) (by simp [World.shape?,g1]) (by omega)
         (by simp [World.frozen?,x1];omega) (by simp [World.frozen?,x1];omega)]
       rfl
      refine .inl ⟨Qx _ _,Calls.mono (W6 l.blk (l.off+a.off) n cc lx.blk (lx.off+ax.off) vc w w1 w2 (goInt n) (goInt 1) hn0 hroom (by unfold maxLen at h2;omega) hov
       (fun ty=>LG hu22 hit (k:=n) (m:=n+1) (show n=min (n+1) n by omega) (by simp [Builtin.lenOf]) (fO w.drew rfl _ _ (by omega)) hst1)
       (fun ty=>LG hu22 hit (k:=1) (m:=1) (show 1=min 1 (n+1) by omega) (by simp [Builtin.lenOf]) (fN w1 (on1.rest _ hsep)) hst2)) fun e w' ⟨he,hw⟩=>?_⟩
      subst hw
      refine ⟨_,he,P7 φ h.n ⟨l.blk,l.off+a.off,l.room - a.off,l.mark⟩,?_,?_⟩
      ·exact ⟨_,_,_,B0 _ _ _,rfl,hroom,h2,by show 0+cc*13≤l.room - a.off;omega,.inl rfl,fun _=>rfl,hmk⟩
      ·refine Step.over hh hnn hφ hg hown hlo rfl (on2.size.trans on1.size) (on2.os.trans on1.os) (on2.tape.trans on1.tape) (on2.out.trans on1.out) (fun k hk=>(on2.rest k hk).trans (on1.rest k hk)) ?_
       refine ⟨c2,el,fr,hc2,by show l.off+a.off+(l.room - a.off)≤c2.size;omega,?_,?_,?_⟩
       ·show ((bx.cells.drop ax.off).take 13++(b.cells.drop a.off).take (n*13)).length≤l.room - a.off
        rw [hall.1,List.length_append,hOl,hNl];omega
       ·intro j v hv
        have hv':((bx.cells.drop ax.off).take 13++(b.cells.drop a.off).take (n*13))[j]?=some v:=hv
        obtain ⟨u,hu,hcr⟩:=hall.2 j v hv'
        have hj:j<13+n*13:=by
         apply Classical.byContradiction
         intro hc
         rw [List.getElem?_eq_none (by rw [List.length_append,hOl,hNl];omega)] at hu
         cases hu
        show ∃u,c2[l.off+a.off+j]?=some u∧CR φ v u
        refine ⟨u,?_,hcr⟩
        rw [hp2,hNl]
        rw [List.getElem?_append,hNl] at hu
        by_cases hj2:j<13
        ·rw [if_pos hj2] at hu
         rw [if_pos (by omega),show l.off+a.off+j - (l.off+a.off+0)=j by omega];exact hu
        ·rw [if_neg hj2] at hu
         rw [if_neg (by omega),hp1,hOl,if_pos (by omega),show l.off+a.off+j - (l.off+a.off+13+0)=j - 13 by omega];exact hu
       ·intro _;rw [hs2,hs1];exact g5 hown
     ·
      obtain ⟨G,hG⟩:∃G,G=grownCap w (n+1) cc 38:=⟨_,rfl⟩
      have hge:n+1≤G:=by rw [hG];exact grownCap_ge w (n+1) cc 38
      have hle:G≤maxLen:=by rw [hG];exact grownCap_le_maxLen w (n+1) cc 38 (by unfold maxLen;omega)
      have h0:(Builtin.firstCells it.size 0 (.slice (some ⟨l.blk,l.off+a.off,none⟩) 0 cc)).run Try.prog w.drew=.ok ([]:List Value).toArray w.drew:=by simp [Builtin.firstCells,loadCells,loadCellsFrom]
      have hA:=fun ty=>Lib.run_append_grow_zeros (P:=Try.prog) w 22 3 ty 38 it ztv .i64 .i64 hu22 Try.underlying3 hit hiz (some ⟨l.blk,l.off+a.off,none⟩) 0 cc [] h0 (n+1) (by omega) (by omega) (by omega) (by omega) (by rw [hib];omega) (by rw [hib,Nat.zero_add];exact growslice_fits (by omega) (by omega))
      rw [Nat.zero_add,←hG] at hA
      obtain ⟨ROW,hROW⟩:∃ROW:Array Value,ROW=([]:List Value).toArray++Builtin.zeroCells ztv.cells (n+1)++Builtin.zeroCells ztv.cells (G - (n+1)):=⟨_,rfl⟩
      have hRs:ROW.size=G*13:=by
       rw [hROW]
       simp only [Array.size_append,size_zeroCells,List.size_toArray,List.length_nil]
       rw [Zp,Nat.zero_add,←Nat.add_mul,show n+1+(G - (n+1))=G by omega]
      rw [←hROW] at hA
      have e2:(n+1)*13≤G*13:=Nat.mul_le_mul_right _ hge
      have hbw:l.blk<w.heap.size:=hh.bound _ _ hφ
      have hbx':lx.blk<w.heap.size:=hh.bound _ _ hφx
      have g1:(w.drew.alloc (.cells ROW 38)).heap[w.heap.size]?=some (.cells ROW 38 (0,0)):=by rw [show (w.drew.alloc (.cells ROW 38)).heap=w.heap.push (.cells ROW 38) from rfl];simp
      have gold:∀k,k<w.heap.size→(w.drew.alloc (.cells ROW 38)).heap[k]?=w.heap[k]?:=fun k hk=>Below.heap_alloc w.drew _ k hk
      obtain ⟨w2,hst2,on2,c2,hc2,hs2,hp2⟩:=B3 (P:=Try.prog) w.heap.size 0 ((nws.drop ax.off).take 13) 0 (w.drew.alloc (.cells ROW 38)) ROW 38 (0,0) g1 (by rw [hNl];omega) (fun j hj=>by simp) (one hN)
      obtain ⟨w3,hst3,on3,c3,hc3,hs3,hp3⟩:=B3 (P:=Try.prog) w.heap.size 13 ((olds.drop a.off).take (n*13)) 0 w2.drew c2 38 (0,0) hc2 (by rw [hOl,hs2];omega) (fun j hj=>by simp) (one hO)
      refine .inl ⟨Qx _ _,Calls.mono (Yw l.blk (l.off+a.off) n cc lx.blk (lx.off+ax.off) vc w.heap.size G w (w.drew.alloc (.cells ROW 38)) w2 w3 (goInt 1) (goInt n) hn0 h1 (by omega) (by omega) hge (by unfold maxLen at hle;omega)
       (fun ty=>by have:=hA ty;rw [show ((n+1:Nat):Int)=(n:Int)+1 by omega] at this;exact this)
       (fun ty=>LG hu22 hit (k:=1) (m:=1) (show 1=min 1 (n+1) by omega) (by simp [Builtin.lenOf]) (fN _ (gold _ hbx')) hst2)
       (fun ty=>LG hu22 hit (k:=n) (m:=n) (show n=min n n by omega) (by simp [Builtin.lenOf]) (fO w2.drew ((on2.rest _ (by omega)).trans (gold _ hbw)) _ _ (by omega)) hst3)) fun e w' ⟨he,hw⟩=>?_⟩
      subst hw
      have hcs:c3.size=G*13:=by rw [hs3,hs2,hRs]
      refine ⟨_,he,P7 φ h.n ⟨w.heap.size,0,c3.size,false⟩,VR.new_slc hge hle (by rw [hcs];exact Nat.le_refl _),?_⟩
      have hk:=Step.kill (lo:=lo) hh (H.get_lt hg)
      have hheap:w'.heap=w.heap.push (.cells c3 38 (0,0)):=by
       apply Array.ext_getElem?
       intro k
       rw [Array.getElem?_push]
       by_cases hk1:k=w.heap.size
       ·rw [if_pos hk1,hk1];exact hc3
       ·rw [if_neg hk1,on3.rest k hk1]
        show w2.heap[k]?=_
        rw [on2.rest k hk1]
        by_cases hk2:k<w.heap.size
        ·exact gold k hk2
        ·have hsz:(w.drew.alloc (.cells ROW 38)).heap.size=w.heap.size+1:=by rw [show (w.drew.alloc (.cells ROW 38)).heap=w.heap.push (.cells ROW 38) from rfl];simp
         rw [Array.getElem?_eq_none (xs:=(w.drew.alloc (.cells ROW 38)).heap) (by rw [hsz];omega),Array.getElem?_eq_none (by omega)]
      have hst:=Step.new (lo:=lo) (h:=h.put a.block none) (mk:=false) (xs:=(bx.cells.drop ax.off).take 13++(b.cells.drop a.off).take (n*13)) hk.heap hb.le hnn hheap (on3.os.trans on2.os) (on3.tape.trans on2.tape) (on3.out.trans on2.out)
       (fun j v hv=>by
        obtain ⟨u,hu,hcr⟩:=hall.2 j v hv
        have hj:j<13+n*13:=by
         apply Classical.byContradiction
         intro hc
         rw [List.getElem?_eq_none (by rw [List.length_append,hOl,hNl];omega)] at hu
         cases hu
        refine ⟨u,?_,hcr⟩
        rw [hp3,hOl]
        rw [List.getElem?_append,hNl] at hu
        by_cases hj2:j<13
        ·rw [if_pos hj2] at hu
         rw [if_neg (by omega),hp2,hNl,if_pos (by omega)];simpa using hu
        ·rw [if_neg hj2] at hu
         rw [if_pos (by omega),show j - (13+0)=j - 13 by omega];exact hu)
       (by rw [hall.1,List.length_append,hOl,hNl,hcs];omega) (.inl rfl)
      exact hk.trans hst (fun j hj1 hj2=>hn j hj1 (by simpa using hj2))
    ·cases hx
   ·cases hx
  ·cases hx
 ·cases hx
end Go.Vx.Seat
end
section
namespace Go.Vx.Seat
open Go.Proofs
def UZ:Option (Value×H)→Bool|some (.bool true,_)=>true|_=>false
theorem RX {r:Option (Value×H)} (h:UZ r=true):∃h',r=some (.bool true,h'):=by
 unfold UZ at h
 split at h
 ·exact ⟨_,rfl⟩
 ·cases h
theorem jS:UZ (dN C0 3000 0 8 [] ⟨0,[]⟩)=true:=by kernel_rfl
theorem Wu {lo:Nat} {args:List Value} {h h':H} {v:Value} (hx:Ig lo args h=some (v,h')):Keep lo h h':=by
 unfold Ig at hx
 split at hx
 ·split at hx
  ·cases hx;exact Keep.refl _ _
  ·cases hx
 ·cases hx
theorem Yf {lo:Nat} {args:List Value} {h h':H} {v:Value} (hx:KD lo args h=some (v,h')):Keep lo h h':=by
 unfold KD at hx
 split at hx
 ·split at hx
  ·obtain ⟨h1,h2,h3⟩:=Ku hx
   exact ⟨h1,fun i h4 h5=>h2 i h4 (fun a n c e=>by cases e),h3⟩
  ·cases hx
 ·rename_i a n s i ax sx
  simp only [H.getK_eq] at hx
  split at hx
  ·rename_i b bx hg hgx
   split at hx
   ·rename_i hc
    cases hx
    refine ⟨by simp,fun i hi hlo=>?_,fun i hi b' hb'=>?_⟩
    ·rw [H.get_push_ne _ _ (by simp;omega),H.get_put_ne _ (H.get_lt hg)]
     intro e
     have:=hc.2.2.2.2.2.2.1
     omega
    ·rw [H.get_push_ne _ _ (by simp;omega)] at hb'
     by_cases e:i=a.block
     ·subst e;rw [H.get_put_self _ hg] at hb';cases hb'
     ·rw [H.get_put_ne _ (H.get_lt hg) e] at hb';exact ⟨b',hb',rfl⟩
   ·cases hx
  ·cases hx
 ·cases hx
noncomputable def C1:Cx:=((C0.tell 8 (LO (.bool true))).tell 35 Ig).tell 61 KD
theorem Nh:Good C1:=by
 obtain ⟨h',h⟩:=RX jS
 have g8:Good (C0.tell 8 (LO (.bool true))):=Ue lV h rfl
 have g35:Good ((C0.tell 8 (LO (.bool true))).tell 35 Ig):=MJ g8 (fun lo args h v h' hx=>Wu hx) fun base=>(dM base).tell
 exact MJ g35 (fun lo args h v h' hx=>Yf hx) fun base=>((iD base).tell).tell
end Go.Vx.Seat
end
section
open Go Go.Vx Go.Proofs
namespace Go.Vx.Seat
theorem mS:Ab Try.prog 2=1∧
 A0 Try.prog 2=8∧
 Bw Try.prog 2=some false∧
 Ac Try.prog 2=true∧
 BJ Try.prog 2=false∧
 G4 Try.prog 2=some .i64∧
 Ab Try.prog 3=1∧
 A0 Try.prog 3=8∧
 Bw Try.prog 3=some false∧
 Ac Try.prog 3=true∧
 BJ Try.prog 3=false∧
 G4 Try.prog 3=some .i64∧
 Ab Try.prog 4=1∧
 A0 Try.prog 4=1∧
 Bw Try.prog 4=some false∧
 Ac Try.prog 4=false∧
 BJ Try.prog 4=false∧
 Ab Try.prog 5=1∧
 A0 Try.prog 5=1∧
 Bw Try.prog 5=some false∧
 Ac Try.prog 5=true∧
 BJ Try.prog 5=false∧
 G4 Try.prog 5=some .u8∧
 Ab Try.prog 9=1∧
 A0 Try.prog 9=16∧
 Bw Try.prog 9=some false∧
 Ac Try.prog 9=false∧
 BJ Try.prog 9=true∧
 Ab Try.prog 21=1∧
 A0 Try.prog 21=4∧
 Bw Try.prog 21=some false∧
 Ac Try.prog 21=true∧
 BJ Try.prog 21=false∧
 G4 Try.prog 21=some .i32∧
 Ab Try.prog 22=1∧
 A0 Try.prog 22=24∧
 Bw Try.prog 22=some false∧
 Ac Try.prog 22=false∧
 BJ Try.prog 22=false∧
 Bt Try.prog 22=some 38∧
 Ab Try.prog 25=1∧
 A0 Try.prog 25=24∧
 Bw Try.prog 25=some false∧
 Ac Try.prog 25=false∧
 BJ Try.prog 25=false∧
 Bt Try.prog 25=some 3∧
 Ab Try.prog 31=1∧
 A0 Try.prog 31=24∧
 Bw Try.prog 31=some false∧
 Ac Try.prog 31=false∧
 BJ Try.prog 31=false∧
 Bt Try.prog 31=some 5∧
 Ab Try.prog 34=3∧
 A0 Try.prog 34=40∧
 Bw Try.prog 34=some true∧
 Ac Try.prog 34=false∧
 BJ Try.prog 34=false∧
 Ab Try.prog 35=3∧
 A0 Try.prog 35=40∧
 Bw Try.prog 35=some true:=
 ⟨by kernel_rfl,by kernel_rfl,by kernel_rfl,by kernel_rfl,by kernel_rfl,by kernel_rfl,by kernel_rfl,by kernel_rfl,by kernel_rfl,by kernel_rfl,by kernel_rfl,by kernel_rfl,by kernel_rfl,by kernel_rfl,by kernel_rfl,by kernel_rfl,by kernel_rfl,by kernel_rfl,by kernel_rfl,by kernel_rfl,by kernel_rfl,by kernel_rfl,by kernel_rfl,by kernel_rfl,by kernel_rfl,by kernel_rfl,by kernel_rfl,by kernel_rfl,by kernel_rfl,by kernel_rfl,by kernel_rfl,by kernel_rfl,by kernel_rfl,by kernel_rfl,by kernel_rfl,by kernel_rfl,by kernel_rfl,by kernel_rfl,by kernel_rfl,by kernel_rfl,by kernel_rfl,by kernel_rfl,by kernel_rfl,by kernel_rfl,by kernel_rfl,by kernel_rfl,by kernel_rfl,by kernel_rfl,by kernel_rfl,by kernel_rfl,by kernel_rfl,by kernel_rfl,by kernel_rfl,by kernel_rfl,by kernel_rfl,by kernel_rfl,by kernel_rfl,by kernel_rfl,by kernel_rfl,by kernel_rfl⟩
theorem lQ:Ac Try.prog 35=false∧
 BJ Try.prog 35=false∧
 Ab Try.prog 36=4∧
 A0 Try.prog 36=32∧
 Bw Try.prog 36=some true∧
 Ac Try.prog 36=false∧
 BJ Try.prog 36=false∧
 Ab Try.prog 37=13∧
 A0 Try.prog 37=128∧
 Bw Try.prog 37=some true∧
 Ac Try.prog 37=false∧
 BJ Try.prog 37=false∧
 Ab Try.prog 38=13∧
 A0 Try.prog 38=128∧
 Bw Try.prog 38=some true∧
 Ac Try.prog 38=false∧
 BJ Try.prog 38=false∧
 Ab Try.prog 41=1∧
 A0 Try.prog 41=24∧
 Bw Try.prog 41=some false∧
 Ac Try.prog 41=false∧
 BJ Try.prog 41=false∧
 Bt Try.prog 41=some 9∧
 Ab Try.prog 42=1∧
 A0 Try.prog 42=8∧
 Bw Try.prog 42=some false∧
 Ac Try.prog 42=true∧
 BJ Try.prog 42=false∧
 G4 Try.prog 42=some .u64∧
 Ab Try.prog 46=1∧
 A0 Try.prog 46=24∧
 Bw Try.prog 46=some false∧
 Ac Try.prog 46=false∧
 BJ Try.prog 46=false∧
 Bt Try.prog 46=some 74∧
 Ab Try.prog 49=1∧
 A0 Try.prog 49=24∧
 Bw Try.prog 49=some false∧
 Ac Try.prog 49=false∧
 BJ Try.prog 49=false∧
 Bt Try.prog 49=some 52∧
 Ab Try.prog 51=3∧
 A0 Try.prog 51=16∧
 Bw Try.prog 51=some true∧
 Ac Try.prog 51=false∧
 BJ Try.prog 51=false∧
 Ab Try.prog 52=3∧
 A0 Try.prog 52=16∧
 Bw Try.prog 52=some true∧
 Ac Try.prog 52=false∧
 BJ Try.prog 52=false∧
 Ab Try.prog 54=1∧
 A0 Try.prog 54=24∧
 Bw Try.prog 54=some false∧
 Ac Try.prog 54=false∧
 BJ Try.prog 54=false∧
 Bt Try.prog 54=some 25∧
 Ab Try.prog 61=1∧
 A0 Try.prog 61=8∧
 Bw Try.prog 61=some false:=
 ⟨by kernel_rfl,by kernel_rfl,by kernel_rfl,by kernel_rfl,by kernel_rfl,by kernel_rfl,by kernel_rfl,by kernel_rfl,by kernel_rfl,by kernel_rfl,by kernel_rfl,by kernel_rfl,by kernel_rfl,by kernel_rfl,by kernel_rfl,by kernel_rfl,by kernel_rfl,by kernel_rfl,by kernel_rfl,by kernel_rfl,by kernel_rfl,by kernel_rfl,by kernel_rfl,by kernel_rfl,by kernel_rfl,by kernel_rfl,by kernel_rfl,by kernel_rfl,by kernel_rfl,by kernel_rfl,by kernel_rfl,by kernel_rfl,by kernel_rfl,by kernel_rfl,by kernel_rfl,by kernel_rfl,by kernel_rfl,by kernel_rfl,by kernel_rfl,by kernel_rfl,by kernel_rfl,by kernel_rfl,by kernel_rfl,by kernel_rfl,by kernel_rfl,by kernel_rfl,by kernel_rfl,by kernel_rfl,by kernel_rfl,by kernel_rfl,by kernel_rfl,by kernel_rfl,by kernel_rfl,by kernel_rfl,by kernel_rfl,by kernel_rfl,by kernel_rfl,by kernel_rfl,by kernel_rfl,by kernel_rfl⟩
theorem mF:Ac Try.prog 61=false∧
 BJ Try.prog 61=false∧
 Ab Try.prog 62=3∧
 A0 Try.prog 62=72∧
 Bw Try.prog 62=some true∧
 Ac Try.prog 62=false∧
 BJ Try.prog 62=false∧
 Ab Try.prog 63=3∧
 A0 Try.prog 63=72∧
 Bw Try.prog 63=some true∧
 Ac Try.prog 63=false∧
 BJ Try.prog 63=false∧
 Ab Try.prog 73=2∧
 A0 Try.prog 73=16∧
 Bw Try.prog 73=some true∧
 Ac Try.prog 73=false∧
 BJ Try.prog 73=false∧
 Ab Try.prog 74=2∧
 A0 Try.prog 74=16∧
 Bw Try.prog 74=some true∧
 Ac Try.prog 74=false∧
 BJ Try.prog 74=false∧
 Ab Try.prog 116=1∧
 A0 Try.prog 116=4∧
 Bw Try.prog 116=some false∧
 Ac Try.prog 116=true∧
 BJ Try.prog 116=false∧
 G4 Try.prog 116=some .u32∧
 Ab Try.prog 130=1∧
 A0 Try.prog 130=8∧
 Bw Try.prog 130=some false∧
 Ac Try.prog 130=false∧
 BJ Try.prog 130=false∧
 Ab Try.prog 135=1∧
 A0 Try.prog 135=8∧
 Bw Try.prog 135=some false∧
 Ac Try.prog 135=false∧
 BJ Try.prog 135=false:=
 ⟨by kernel_rfl,by kernel_rfl,by kernel_rfl,by kernel_rfl,by kernel_rfl,by kernel_rfl,by kernel_rfl,by kernel_rfl,by kernel_rfl,by kernel_rfl,by kernel_rfl,by kernel_rfl,by kernel_rfl,by kernel_rfl,by kernel_rfl,by kernel_rfl,by kernel_rfl,by kernel_rfl,by kernel_rfl,by kernel_rfl,by kernel_rfl,by kernel_rfl,by kernel_rfl,by kernel_rfl,by kernel_rfl,by kernel_rfl,by kernel_rfl,by kernel_rfl,by kernel_rfl,by kernel_rfl,by kernel_rfl,by kernel_rfl,by kernel_rfl,by kernel_rfl,by kernel_rfl,by kernel_rfl,by kernel_rfl,by kernel_rfl⟩
theorem kX:Try.prog.underlying 2=some (.int .i64)∧
 Try.prog.underlying 3=some (.int .i64)∧
 Try.prog.underlying 4=some (.bool)∧
 Try.prog.underlying 5=some (.int .u8)∧
 Try.prog.underlying 9=some (.string)∧
 Try.prog.underlying 21=some (.int .i32)∧
 Try.prog.underlying 22=some (.slice 38)∧
 Try.prog.underlying 25=some (.slice 3)∧
 Try.prog.underlying 31=some (.slice 5)∧
 Try.prog.underlying 36=some (.array 4 3)∧
 Try.prog.underlying 41=some (.slice 9)∧
 Try.prog.underlying 42=some (.int .u64)∧
 Try.prog.underlying 46=some (.slice 74)∧
 Try.prog.underlying 49=some (.slice 52)∧
 Try.prog.underlying 54=some (.slice 25)∧
 Try.prog.underlying 61=some (.pointer 63)∧
 Try.prog.underlying 116=some (.int .u32)∧
 Try.prog.underlying 130=some (.pointer 5)∧
 Try.prog.underlying 135=some (.unsafePointer):=
 ⟨by kernel_rfl,by kernel_rfl,by kernel_rfl,by kernel_rfl,by kernel_rfl,by kernel_rfl,by kernel_rfl,by kernel_rfl,by kernel_rfl,by kernel_rfl,by kernel_rfl,by kernel_rfl,by kernel_rfl,by kernel_rfl,by kernel_rfl,by kernel_rfl,by kernel_rfl,by kernel_rfl,by kernel_rfl⟩
theorem mM:A5 Try.prog 34 0=some (0,4)∧
 A5 Try.prog 34 1=some (1,9)∧
 A5 Try.prog 34 2=some (2,9)∧
 C3 Try.prog 34=some [(0,1),(1,1),(2,1)]∧
 A5 Try.prog 35 0=some (0,4)∧
 A5 Try.prog 35 1=some (1,9)∧
 A5 Try.prog 35 2=some (2,9)∧
 C3 Try.prog 35=some [(0,1),(1,1),(2,1)]∧
 J4 Try.prog 36=some (4,3)∧
 C3 Try.prog 36=none∧
 A5 Try.prog 37 0=some (0,3)∧
 A5 Try.prog 37 1=some (1,9)∧
 A5 Try.prog 37 2=some (2,9)∧
 A5 Try.prog 37 3=some (3,35)∧
 A5 Try.prog 37 4=some (6,4)∧
 A5 Try.prog 37 5=some (7,4)∧
 A5 Try.prog 37 6=some (8,36)∧
 A5 Try.prog 37 7=some (12,3)∧
 C3 Try.prog 37=some [(0,1),(1,1),(2,1),(3,3),(6,1),(7,1),(8,4),(12,1)]∧
 A5 Try.prog 38 0=some (0,3)∧
 A5 Try.prog 38 1=some (1,9)∧
 A5 Try.prog 38 2=some (2,9)∧
 A5 Try.prog 38 3=some (3,35)∧
 A5 Try.prog 38 4=some (6,4)∧
 A5 Try.prog 38 5=some (7,4)∧
 A5 Try.prog 38 6=some (8,36)∧
 A5 Try.prog 38 7=some (12,3)∧
 C3 Try.prog 38=some [(0,1),(1,1),(2,1),(3,3),(6,1),(7,1),(8,4),(12,1)]∧
 A5 Try.prog 51 0=some (0,3)∧
 A5 Try.prog 51 1=some (1,4)∧
 A5 Try.prog 51 2=some (2,4)∧
 C3 Try.prog 51=some [(0,1),(1,1),(2,1)]∧
 A5 Try.prog 52 0=some (0,3)∧
 A5 Try.prog 52 1=some (1,4)∧
 A5 Try.prog 52 2=some (2,4)∧
 C3 Try.prog 52=some [(0,1),(1,1),(2,1)]∧
 A5 Try.prog 62 0=some (0,22)∧
 A5 Try.prog 62 1=some (1,25)∧
 A5 Try.prog 62 2=some (2,22)∧
 C3 Try.prog 62=some [(0,1),(1,1),(2,1)]∧
 A5 Try.prog 63 0=some (0,22)∧
 A5 Try.prog 63 1=some (1,25)∧
 A5 Try.prog 63 2=some (2,22)∧
 C3 Try.prog 63=some [(0,1),(1,1),(2,1)]∧
 A5 Try.prog 73 0=some (0,3)∧
 A5 Try.prog 73 1=some (1,3)∧
 C3 Try.prog 73=some [(0,1),(1,1)]∧
 A5 Try.prog 74 0=some (0,3)∧
 A5 Try.prog 74 1=some (1,3)∧
 C3 Try.prog 74=some [(0,1),(1,1)]:=
 ⟨by kernel_rfl,by kernel_rfl,by kernel_rfl,by kernel_rfl,by kernel_rfl,by kernel_rfl,by kernel_rfl,by kernel_rfl,by kernel_rfl,by kernel_rfl,by kernel_rfl,by kernel_rfl,by kernel_rfl,by kernel_rfl,by kernel_rfl,by kernel_rfl,by kernel_rfl,by kernel_rfl,by kernel_rfl,by kernel_rfl,by kernel_rfl,by kernel_rfl,by kernel_rfl,by kernel_rfl,by kernel_rfl,by kernel_rfl,by kernel_rfl,by kernel_rfl,by kernel_rfl,by kernel_rfl,by kernel_rfl,by kernel_rfl,by kernel_rfl,by kernel_rfl,by kernel_rfl,by kernel_rfl,by kernel_rfl,by kernel_rfl,by kernel_rfl,by kernel_rfl,by kernel_rfl,by kernel_rfl,by kernel_rfl,by kernel_rfl,by kernel_rfl,by kernel_rfl,by kernel_rfl,by kernel_rfl,by kernel_rfl,by kernel_rfl⟩
theorem mT:CF Try.prog 2=some [.int .i64 0]∧
 CF Try.prog 3=some [.int .i64 0]∧
 CF Try.prog 4=some [.bool false]∧
 CF Try.prog 5=some [.int .u8 0]∧
 CF Try.prog 9=some [.string ⟨#[]⟩]∧
 CF Try.prog 21=some [.int .i32 0]∧
 CF Try.prog 22=some [.slice none 0 0]∧
 CF Try.prog 25=some [.slice none 0 0]∧
 CF Try.prog 31=some [.slice none 0 0]∧
 CF Try.prog 34=some [.bool false,.string ⟨#[]⟩,.string ⟨#[]⟩]∧
 CF Try.prog 35=some [.bool false,.string ⟨#[]⟩,.string ⟨#[]⟩]∧
 CF Try.prog 36=some [.int .i64 0,.int .i64 0,.int .i64 0,.int .i64 0]∧
 CF Try.prog 37=some [.int .i64 0,.string ⟨#[]⟩,.string ⟨#[]⟩,.bool false,.string ⟨#[]⟩,.string ⟨#[]⟩,.bool false,.bool false,.int .i64 0,.int .i64 0,.int .i64 0,.int .i64 0,.int .i64 0]∧
 CF Try.prog 38=some [.int .i64 0,.string ⟨#[]⟩,.string ⟨#[]⟩,.bool false,.string ⟨#[]⟩,.string ⟨#[]⟩,.bool false,.bool false,.int .i64 0,.int .i64 0,.int .i64 0,.int .i64 0,.int .i64 0]∧
 CF Try.prog 41=some [.slice none 0 0]∧
 CF Try.prog 42=some [.int .u64 0]∧
 CF Try.prog 46=some [.slice none 0 0]∧
 CF Try.prog 49=some [.slice none 0 0]∧
 CF Try.prog 51=some [.int .i64 0,.bool false,.bool false]∧
 CF Try.prog 52=some [.int .i64 0,.bool false,.bool false]∧
 CF Try.prog 54=some [.slice none 0 0]∧
 CF Try.prog 61=some [.pointer none]∧
 CF Try.prog 62=some [.slice none 0 0,.slice none 0 0,.slice none 0 0]∧
 CF Try.prog 63=some [.slice none 0 0,.slice none 0 0,.slice none 0 0]∧
 CF Try.prog 73=some [.int .i64 0,.int .i64 0]∧
 CF Try.prog 74=some [.int .i64 0,.int .i64 0]∧
 CF Try.prog 116=some [.int .u32 0]∧
 CF Try.prog 130=some [.pointer none]∧
 CF Try.prog 135=some [.pointer none]:=
 ⟨by kernel_rfl,by kernel_rfl,by kernel_rfl,by kernel_rfl,by kernel_rfl,by kernel_rfl,by kernel_rfl,by kernel_rfl,by kernel_rfl,by kernel_rfl,by kernel_rfl,by kernel_rfl,by kernel_rfl,by kernel_rfl,by kernel_rfl,by kernel_rfl,by kernel_rfl,by kernel_rfl,by kernel_rfl,by kernel_rfl,by kernel_rfl,by kernel_rfl,by kernel_rfl,by kernel_rfl,by kernel_rfl,by kernel_rfl,by kernel_rfl,by kernel_rfl,by kernel_rfl⟩
theorem k8:Ab Try.prog 2=1:=by kernel_rfl
theorem l4:Ab Try.prog 2=1:=by kernel_rfl
end Go.Vx.Seat
end
section
open Go Go.Vx Go.Proofs
namespace Go.Vx.Seat
abbrev Tp:YV:=.c .top
theorem C5:C1.P=Try.prog:=rfl
theorem yP:type_of% (And.intro (And.intro (And.intro (And.intro (@Wl) (And.intro (@Y2) (@WP))) (And.intro (@ZV) (And.intro (@TO) (@Vn)))) (And.intro (And.intro (@Pi) (And.intro (@Rz) (@Vg))) (And.intro (@Mz) (And.intro (@Ki) (@aY))))) (And.intro (And.intro (And.intro (@YZ) (And.intro (@MZ) (@NV))) (And.intro (@Ys) (And.intro (@Od) (@Mn)))) (And.intro (And.intro (@JJ) (And.intro (@Nt) (@PJ))) (And.intro (@Nw) (And.intro (@Sp) (@P9)))))):=And.intro (And.intro (And.intro (And.intro (@Wl) (And.intro (@Y2) (@WP))) (And.intro (@ZV) (And.intro (@TO) (@Vn)))) (And.intro (And.intro (@Pi) (And.intro (@Rz) (@Vg))) (And.intro (@Mz) (And.intro (@Ki) (@aY))))) (And.intro (And.intro (And.intro (@YZ) (And.intro (@MZ) (@NV))) (And.intro (@Ys) (And.intro (@Od) (@Mn)))) (And.intro (And.intro (@JJ) (And.intro (@Nt) (@PJ))) (And.intro (@Nw) (And.intro (@Sp) (@P9)))))
theorem yT:type_of% (And.intro (And.intro (And.intro (And.intro (And.intro (And.intro (And.intro (And.intro (@Y9) (@Vu)) (And.intro (@WF) (@Yj))) (And.intro (And.intro (@WQ) (@WR)) (And.intro (@gS) (And.intro (@Mz) (@Ki))))) (And.intro (And.intro (And.intro (@Wi) (@St)) (And.intro (@Xz) (@We))) (And.intro (And.intro (@S8) (@Pt)) (And.intro (@Sm) (And.intro (@Tl) (@VV)))))) (And.intro (And.intro (And.intro (And.intro (@RV) (@PO)) (And.intro (@Pv) (@Z8))) (And.intro (And.intro (@RU) (@Vb)) (And.intro (@Vm) (And.intro (@SZ) (@WK))))) (And.intro (And.intro (And.intro (@WN) (@Y0)) (And.intro (@TI) (And.intro (@PR) (@Sy)))) (And.intro (And.intro (@R8) (@PU)) (And.intro (@V9) (And.intro (@TD) (@R7))))))) (And.intro (And.intro (And.intro (And.intro (And.intro (@Tg) (@KZ)) (And.intro (@LN) (@Pg))) (And.intro (And.intro (@QJ) (@List.set_cons_zero.{0})) (And.intro (@List.set_cons_succ.{0}) (And.intro (@List.map_cons.{0,0}) (@List.map_nil.{0,0}))))) (And.intro (And.intro (And.intro (@List.length_cons.{0}) (@List.length_nil.{0})) (And.intro (@List.cons_append.{0}) (@List.nil_append.{0}))) (And.intro (And.intro (@List.append_nil.{0}) (@Nat.zero_add)) (And.intro (@Nat.add_zero) (And.intro (@List.drop_zero.{0}) (@List.drop_succ_cons.{0})))))) (And.intro (And.intro (And.intro (And.intro (@List.take_succ_cons.{0}) (@List.take_zero.{0})) (And.intro (@f9) (@gL))) (And.intro (And.intro (@fW) (@gD)) (And.intro (@Bool.not_true) (And.intro (@Bool.not_false) (@if_true.{1}))))) (And.intro (And.intro (And.intro (@if_false.{1}) (@Bool.false_eq_true)) (And.intro (@N9) (And.intro (@MU) (@List.isEmpty_nil.{0})))) (And.intro (And.intro (@Bool.and_self) (@C5)) (And.intro (@mS) (And.intro (@lQ) (@mF)))))))) (And.intro (And.intro (And.intro (And.intro (And.intro (And.intro (@k8) (@kX)) (And.intro (@mM) (@l4))) (And.intro (And.intro (@mT) (@fX)) (And.intro (@gH) (And.intro (@Rm) (@Option.some.injEq.{0}))))) (And.intro (And.intro (And.intro (@exists_eq_left'.{1}) (@Bool.or_false)) (And.intro (@Bool.or_true) (@true_and))) (And.intro (And.intro (@and_true) (@ne_eq.{1})) (And.intro (@not_false_eq_true) (And.intro (@and_self) (@Nat.one_ne_zero)))))) (And.intro (And.intro (And.intro (And.intro (@YK) (@or_true)) (And.intro (@false_or) (@KQ.eq_1))) (And.intro (And.intro (@KQ.eq_2) (@KQ.eq_3)) (And.intro (@KQ.eq_4) (And.intro (@KQ.eq_5) (@Ir.eq_1))))) (And.intro (And.intro (And.intro (@Ir.eq_2) (@Ir.eq_3)) (And.intro (@Ir.eq_5) (And.intro (@NK.eq_1) (@NK.eq_2)))) (And.intro (And.intro (@Nat.le_refl) (@List.length_map.{0,0})) (And.intro (@Ch) (And.intro (@imp_self) (@implies_true.{1}))))))) (And.intro (And.intro (And.intro (And.intro (And.intro (@implies_true.{0}) (@not_true_eq_false)) (And.intro (@List.replicate_succ.{0}) (@List.replicate_zero.{0}))) (And.intro (And.intro (@Nat.zero_le) (@Nat.zero_lt_succ)) (And.intro (@List.contains_cons.{0}) (And.intro (@List.contains_nil.{0}) (@Bool.false_or))))) (And.intro (And.intro (And.intro (@Bool.true_or) (@List.any_cons.{0})) (And.intro (@List.any_nil.{0}) (@Option.isNone_some.{0}))) (And.intro (And.intro (@Option.isNone_none.{0}) (@WJ)) (And.intro (@WM) (And.intro (@IP.eq_1) (@IP.eq_2)))))) (And.intro (And.intro (And.intro (And.intro (@IP.eq_3) (@FH.eq_1)) (And.intro (@FH.eq_2) (@FH.eq_3))) (And.intro (And.intro (@FH.eq_4) (@FH.eq_5)) (And.intro (@H4) (And.intro (@Gy) (@FT))))) (And.intro (And.intro (And.intro (@Kv) (@Option.map_some.{0,0})) (And.intro (@Option.map_none.{0,0}) (And.intro (@Int.toNat_natCast) (@Int.toNat_zero)))) (And.intro (And.intro (@Nat.sub_zero) (@Int.le_refl)) (And.intro (@nn) (And.intro (@R6) (@List.set_set.{0}))))))))) (And.intro (And.intro (And.intro (And.intro (And.intro (And.intro (And.intro (@List.length_set.{0}) (@List.getElem?_cons_zero.{0})) (And.intro (@List.getElem?_cons_succ.{0}) (@DQ.eq_2))) (And.intro (And.intro (@DQ.eq_1) (@Je.eq_1)) (And.intro (@Je.eq_2) (And.intro (@Em.eq_1) (@Em.eq_2))))) (And.intro (And.intro (And.intro (@Em.eq_3) (@Em.eq_4)) (And.intro (@Em.eq_5) (@Em.eq_6))) (And.intro (And.intro (@Em.eq_7) (@Em.eq_8)) (And.intro (@Em.eq_9) (And.intro (@Em.eq_10) (@Em.eq_11)))))) (And.intro (And.intro (And.intro (And.intro (@Em.eq_12) (@Em.eq_13)) (And.intro (@Em.eq_14) (@Em.eq_15))) (And.intro (And.intro (@Em.eq_16) (@Em.eq_17)) (And.intro (@Em.eq_18) (And.intro (@Em.eq_19) (@Em.eq_20))))) (And.intro (And.intro (And.intro (@Em.eq_21) (@Em.eq_22)) (And.intro (@Em.eq_23) (And.intro (@Em.eq_24) (@N0.eq_1)))) (And.intro (And.intro (@ZM.eq_1) (@ycl.eq_1)) (And.intro (@ycl.eq_2) (And.intro (@ycl.eq_3) (@ycl.eq_4))))))) (And.intro (And.intro (And.intro (And.intro (And.intro (@NT.eq_1) (@Fu.eq_1)) (And.intro (@Fu.eq_2) (@Fu.eq_3))) (And.intro (And.intro (@Qc.eq_1) (@Qc.eq_2)) (And.intro (@Qc.eq_3) (And.intro (@bL.eq_1) (@lM.eq_1))))) (And.intro (And.intro (And.intro (@dvA.eq_1) (@dvA.eq_2)) (And.intro (@dvA.eq_3) (@dvs.eq_1))) (And.intro (And.intro (@dvs.eq_2) (@dvs.eq_3)) (And.intro (@dv.eq_1) (And.intro (@dv.eq_2) (@GW.eq_1)))))) (And.intro (And.intro (And.intro (And.intro (@KP.eq_1) (@KP.eq_2)) (And.intro (@Pb.eq_1) (@GN.eq_1))) (And.intro (And.intro (@Nr.eq_1) (@GX.eq_1)) (And.intro (@GX.eq_2) (And.intro (@Nb.eq_1) (@Nb.eq_2))))) (And.intro (And.intro (And.intro (@Nb.eq_3) (@Nb.eq_4)) (And.intro (@WY.eq_1) (And.intro (@EH.eq_1) (@EH.eq_2)))) (And.intro (And.intro (@EH.eq_3) (@EH.eq_4)) (And.intro (@EH.eq_5) (And.intro (@EH.eq_6) (@EH.eq_7)))))))) (And.intro (And.intro (And.intro (And.intro (And.intro (And.intro (@EH.eq_8) (@EH.eq_9)) (And.intro (@LZ.eq_1) (@LZ.eq_2))) (And.intro (And.intro (@LZ.eq_3) (@D3.eq_1)) (And.intro (@D3.eq_2) (And.intro (@D3.eq_3) (@D3.eq_4))))) (And.intro (And.intro (And.intro (@D3.eq_5) (@D3.eq_6)) (And.intro (@D3.eq_7) (@D3.eq_8))) (And.intro (And.intro (@D3.eq_9) (@D3.eq_10)) (And.intro (@D3.eq_11) (And.intro (@D3.eq_12) (@D3.eq_13)))))) (And.intro (And.intro (And.intro (And.intro (@D3.eq_14) (@D3.eq_15)) (And.intro (@VT.eq_1) (@VT.eq_2))) (And.intro (And.intro (@VT.eq_3) (@Kf.eq_1)) (And.intro (@Kf.eq_2) (And.intro (@Kf.eq_3) (@HE.eq_1))))) (And.intro (And.intro (And.intro (@J7.eq_1) (@J7.eq_2)) (And.intro (@GS.eq_1) (And.intro (@GS.eq_2) (@GS.eq_3)))) (And.intro (And.intro (@GS.eq_4) (@H5.eq_1)) (And.intro (@Ol.eq_1) (And.intro (@Kp.eq_1) (@Kp.eq_2))))))) (And.intro (And.intro (And.intro (And.intro (And.intro (@TM.eq_1) (@TM.eq_2)) (And.intro (@ypc.eq_1) (@ypc.eq_2))) (And.intro (And.intro (@ypc.eq_3) (@pcs.eq_1)) (And.intro (@pcs.eq_2) (And.intro (@pcs.eq_3) (@CJ.eq_1))))) (And.intro (And.intro (And.intro (@CJ.eq_1) (@FU.eq_1)) (And.intro (@FU.eq_2) (@FU.eq_3))) (And.intro (And.intro (@ES.eq_1) (@ES.eq_2)) (And.intro (@ES.eq_3) (And.intro (@Sq.eq_1) (@FY.eq_1)))))) (And.intro (And.intro (And.intro (And.intro (@I1.eq_1) (@low.eq_1)) (And.intro (@low.eq_2) (@low.eq_3))) (And.intro (And.intro (@IT.eq_1) (@IT.eq_2)) (And.intro (@IT.eq_3) (And.intro (@Sh.eq_1) (@Sh.eq_2))))) (And.intro (And.intro (And.intro (@Q0.eq_1) (@Q0.eq_2)) (And.intro (@Q0.eq_3) (And.intro (@Sg.eq_1) (@Sg.eq_2)))) (And.intro (And.intro (@GH.eq_1) (@GH.eq_2)) (And.intro (@Rx.eq_1) (And.intro (@Rx.eq_2) (@pds.eq_1)))))))))):=And.intro (And.intro (And.intro (And.intro (And.intro (And.intro (And.intro (And.intro (@Y9) (@Vu)) (And.intro (@WF) (@Yj))) (And.intro (And.intro (@WQ) (@WR)) (And.intro (@gS) (And.intro (@Mz) (@Ki))))) (And.intro (And.intro (And.intro (@Wi) (@St)) (And.intro (@Xz) (@We))) (And.intro (And.intro (@S8) (@Pt)) (And.intro (@Sm) (And.intro (@Tl) (@VV)))))) (And.intro (And.intro (And.intro (And.intro (@RV) (@PO)) (And.intro (@Pv) (@Z8))) (And.intro (And.intro (@RU) (@Vb)) (And.intro (@Vm) (And.intro (@SZ) (@WK))))) (And.intro (And.intro (And.intro (@WN) (@Y0)) (And.intro (@TI) (And.intro (@PR) (@Sy)))) (And.intro (And.intro (@R8) (@PU)) (And.intro (@V9) (And.intro (@TD) (@R7))))))) (And.intro (And.intro (And.intro (And.intro (And.intro (@Tg) (@KZ)) (And.intro (@LN) (@Pg))) (And.intro (And.intro (@QJ) (@List.set_cons_zero.{0})) (And.intro (@List.set_cons_succ.{0}) (And.intro (@List.map_cons.{0,0}) (@List.map_nil.{0,0}))))) (And.intro (And.intro (And.intro (@List.length_cons.{0}) (@List.length_nil.{0})) (And.intro (@List.cons_append.{0}) (@List.nil_append.{0}))) (And.intro (And.intro (@List.append_nil.{0}) (@Nat.zero_add)) (And.intro (@Nat.add_zero) (And.intro (@List.drop_zero.{0}) (@List.drop_succ_cons.{0})))))) (And.intro (And.intro (And.intro (And.intro (@List.take_succ_cons.{0}) (@List.take_zero.{0})) (And.intro (@f9) (@gL))) (And.intro (And.intro (@fW) (@gD)) (And.intro (@Bool.not_true) (And.intro (@Bool.not_false) (@if_true.{1}))))) (And.intro (And.intro (And.intro (@if_false.{1}) (@Bool.false_eq_true)) (And.intro (@N9) (And.intro (@MU) (@List.isEmpty_nil.{0})))) (And.intro (And.intro (@Bool.and_self) (@C5)) (And.intro (@mS) (And.intro (@lQ) (@mF)))))))) (And.intro (And.intro (And.intro (And.intro (And.intro (And.intro (@k8) (@kX)) (And.intro (@mM) (@l4))) (And.intro (And.intro (@mT) (@fX)) (And.intro (@gH) (And.intro (@Rm) (@Option.some.injEq.{0}))))) (And.intro (And.intro (And.intro (@exists_eq_left'.{1}) (@Bool.or_false)) (And.intro (@Bool.or_true) (@true_and))) (And.intro (And.intro (@and_true) (@ne_eq.{1})) (And.intro (@not_false_eq_true) (And.intro (@and_self) (@Nat.one_ne_zero)))))) (And.intro (And.intro (And.intro (And.intro (@YK) (@or_true)) (And.intro (@false_or) (@KQ.eq_1))) (And.intro (And.intro (@KQ.eq_2) (@KQ.eq_3)) (And.intro (@KQ.eq_4) (And.intro (@KQ.eq_5) (@Ir.eq_1))))) (And.intro (And.intro (And.intro (@Ir.eq_2) (@Ir.eq_3)) (And.intro (@Ir.eq_5) (And.intro (@NK.eq_1) (@NK.eq_2)))) (And.intro (And.intro (@Nat.le_refl) (@List.length_map.{0,0})) (And.intro (@Ch) (And.intro (@imp_self) (@implies_true.{1}))))))) (And.intro (And.intro (And.intro (And.intro (And.intro (@implies_true.{0}) (@not_true_eq_false)) (And.intro (@List.replicate_succ.{0}) (@List.replicate_zero.{0}))) (And.intro (And.intro (@Nat.zero_le) (@Nat.zero_lt_succ)) (And.intro (@List.contains_cons.{0}) (And.intro (@List.contains_nil.{0}) (@Bool.false_or))))) (And.intro (And.intro (And.intro (@Bool.true_or) (@List.any_cons.{0})) (And.intro (@List.any_nil.{0}) (@Option.isNone_some.{0}))) (And.intro (And.intro (@Option.isNone_none.{0}) (@WJ)) (And.intro (@WM) (And.intro (@IP.eq_1) (@IP.eq_2)))))) (And.intro (And.intro (And.intro (And.intro (@IP.eq_3) (@FH.eq_1)) (And.intro (@FH.eq_2) (@FH.eq_3))) (And.intro (And.intro (@FH.eq_4) (@FH.eq_5)) (And.intro (@H4) (And.intro (@Gy) (@FT))))) (And.intro (And.intro (And.intro (@Kv) (@Option.map_some.{0,0})) (And.intro (@Option.map_none.{0,0}) (And.intro (@Int.toNat_natCast) (@Int.toNat_zero)))) (And.intro (And.intro (@Nat.sub_zero) (@Int.le_refl)) (And.intro (@nn) (And.intro (@R6) (@List.set_set.{0}))))))))) (And.intro (And.intro (And.intro (And.intro (And.intro (And.intro (And.intro (@List.length_set.{0}) (@List.getElem?_cons_zero.{0})) (And.intro (@List.getElem?_cons_succ.{0}) (@DQ.eq_2))) (And.intro (And.intro (@DQ.eq_1) (@Je.eq_1)) (And.intro (@Je.eq_2) (And.intro (@Em.eq_1) (@Em.eq_2))))) (And.intro (And.intro (And.intro (@Em.eq_3) (@Em.eq_4)) (And.intro (@Em.eq_5) (@Em.eq_6))) (And.intro (And.intro (@Em.eq_7) (@Em.eq_8)) (And.intro (@Em.eq_9) (And.intro (@Em.eq_10) (@Em.eq_11)))))) (And.intro (And.intro (And.intro (And.intro (@Em.eq_12) (@Em.eq_13)) (And.intro (@Em.eq_14) (@Em.eq_15))) (And.intro (And.intro (@Em.eq_16) (@Em.eq_17)) (And.intro (@Em.eq_18) (And.intro (@Em.eq_19) (@Em.eq_20))))) (And.intro (And.intro (And.intro (@Em.eq_21) (@Em.eq_22)) (And.intro (@Em.eq_23) (And.intro (@Em.eq_24) (@N0.eq_1)))) (And.intro (And.intro (@ZM.eq_1) (@ycl.eq_1)) (And.intro (@ycl.eq_2) (And.intro (@ycl.eq_3) (@ycl.eq_4))))))) (And.intro (And.intro (And.intro (And.intro (And.intro (@NT.eq_1) (@Fu.eq_1)) (And.intro (@Fu.eq_2) (@Fu.eq_3))) (And.intro (And.intro (@Qc.eq_1) (@Qc.eq_2)) (And.intro (@Qc.eq_3) (And.intro (@bL.eq_1) (@lM.eq_1))))) (And.intro (And.intro (And.intro (@dvA.eq_1) (@dvA.eq_2)) (And.intro (@dvA.eq_3) (@dvs.eq_1))) (And.intro (And.intro (@dvs.eq_2) (@dvs.eq_3)) (And.intro (@dv.eq_1) (And.intro (@dv.eq_2) (@GW.eq_1)))))) (And.intro (And.intro (And.intro (And.intro (@KP.eq_1) (@KP.eq_2)) (And.intro (@Pb.eq_1) (@GN.eq_1))) (And.intro (And.intro (@Nr.eq_1) (@GX.eq_1)) (And.intro (@GX.eq_2) (And.intro (@Nb.eq_1) (@Nb.eq_2))))) (And.intro (And.intro (And.intro (@Nb.eq_3) (@Nb.eq_4)) (And.intro (@WY.eq_1) (And.intro (@EH.eq_1) (@EH.eq_2)))) (And.intro (And.intro (@EH.eq_3) (@EH.eq_4)) (And.intro (@EH.eq_5) (And.intro (@EH.eq_6) (@EH.eq_7)))))))) (And.intro (And.intro (And.intro (And.intro (And.intro (And.intro (@EH.eq_8) (@EH.eq_9)) (And.intro (@LZ.eq_1) (@LZ.eq_2))) (And.intro (And.intro (@LZ.eq_3) (@D3.eq_1)) (And.intro (@D3.eq_2) (And.intro (@D3.eq_3) (@D3.eq_4))))) (And.intro (And.intro (And.intro (@D3.eq_5) (@D3.eq_6)) (And.intro (@D3.eq_7) (@D3.eq_8))) (And.intro (And.intro (@D3.eq_9) (@D3.eq_10)) (And.intro (@D3.eq_11) (And.intro (@D3.eq_12) (@D3.eq_13)))))) (And.intro (And.intro (And.intro (And.intro (@D3.eq_14) (@D3.eq_15)) (And.intro (@VT.eq_1) (@VT.eq_2))) (And.intro (And.intro (@VT.eq_3) (@Kf.eq_1)) (And.intro (@Kf.eq_2) (And.intro (@Kf.eq_3) (@HE.eq_1))))) (And.intro (And.intro (And.intro (@J7.eq_1) (@J7.eq_2)) (And.intro (@GS.eq_1) (And.intro (@GS.eq_2) (@GS.eq_3)))) (And.intro (And.intro (@GS.eq_4) (@H5.eq_1)) (And.intro (@Ol.eq_1) (And.intro (@Kp.eq_1) (@Kp.eq_2))))))) (And.intro (And.intro (And.intro (And.intro (And.intro (@TM.eq_1) (@TM.eq_2)) (And.intro (@ypc.eq_1) (@ypc.eq_2))) (And.intro (And.intro (@ypc.eq_3) (@pcs.eq_1)) (And.intro (@pcs.eq_2) (And.intro (@pcs.eq_3) (@CJ.eq_1))))) (And.intro (And.intro (And.intro (@CJ.eq_1) (@FU.eq_1)) (And.intro (@FU.eq_2) (@FU.eq_3))) (And.intro (And.intro (@ES.eq_1) (@ES.eq_2)) (And.intro (@ES.eq_3) (And.intro (@Sq.eq_1) (@FY.eq_1)))))) (And.intro (And.intro (And.intro (And.intro (@I1.eq_1) (@low.eq_1)) (And.intro (@low.eq_2) (@low.eq_3))) (And.intro (And.intro (@IT.eq_1) (@IT.eq_2)) (And.intro (@IT.eq_3) (And.intro (@Sh.eq_1) (@Sh.eq_2))))) (And.intro (And.intro (And.intro (@Q0.eq_1) (@Q0.eq_2)) (And.intro (@Q0.eq_3) (And.intro (@Sg.eq_1) (@Sg.eq_2)))) (And.intro (And.intro (@GH.eq_1) (@GH.eq_2)) (And.intro (@Rx.eq_1) (And.intro (@Rx.eq_2) (@pds.eq_1)))))))))
theorem yE:type_of% (And.intro (And.intro (And.intro (And.intro (And.intro (@Jq.eq_1) (@Jq.eq_2)) (And.intro (@Jq.eq_3) (And.intro (@Jq.eq_4) (@IP.eq_1)))) (And.intro (And.intro (@IP.eq_2) (And.intro (@IP.eq_3) (@FH.eq_1))) (And.intro (@FH.eq_2) (And.intro (@FH.eq_3) (@FH.eq_4))))) (And.intro (And.intro (And.intro (@FH.eq_5) (@SS.eq_1)) (And.intro (@SS.eq_2) (And.intro (@SS.eq_3) (@KO.eq_1)))) (And.intro (And.intro (@TY.eq_1) (And.intro (@TY.eq_2) (@TY.eq_3))) (And.intro (@H4) (And.intro (@Gy) (@KZ)))))) (And.intro (And.intro (And.intro (And.intro (@LN) (@ES.eq_1)) (And.intro (@ES.eq_2) (And.intro (@if_true.{1}) (@if_false.{1})))) (And.intro (And.intro (@List.map_cons.{0,0}) (And.intro (@List.map_nil.{0,0}) (@Nat.zero_add))) (And.intro (@Nat.add_zero) (And.intro (@Nat.le_refl) (@and_self))))) (And.intro (And.intro (And.intro (@and_true) (And.intro (@true_and) (@List.drop_zero.{0}))) (And.intro (@Ch) (And.intro (@FT) (@Kv)))) (And.intro (And.intro (@List.length_map.{0,0}) (And.intro (@List.length_append.{0}) (@List.length_cons.{0}))) (And.intro (@List.length_nil.{0}) (And.intro (@Nat.one_ne_zero) (@List.set_set.{0}))))))):=And.intro (And.intro (And.intro (And.intro (And.intro (@Jq.eq_1) (@Jq.eq_2)) (And.intro (@Jq.eq_3) (And.intro (@Jq.eq_4) (@IP.eq_1)))) (And.intro (And.intro (@IP.eq_2) (And.intro (@IP.eq_3) (@FH.eq_1))) (And.intro (@FH.eq_2) (And.intro (@FH.eq_3) (@FH.eq_4))))) (And.intro (And.intro (And.intro (@FH.eq_5) (@SS.eq_1)) (And.intro (@SS.eq_2) (And.intro (@SS.eq_3) (@KO.eq_1)))) (And.intro (And.intro (@TY.eq_1) (And.intro (@TY.eq_2) (@TY.eq_3))) (And.intro (@H4) (And.intro (@Gy) (@KZ)))))) (And.intro (And.intro (And.intro (And.intro (@LN) (@ES.eq_1)) (And.intro (@ES.eq_2) (And.intro (@if_true.{1}) (@if_false.{1})))) (And.intro (And.intro (@List.map_cons.{0,0}) (And.intro (@List.map_nil.{0,0}) (@Nat.zero_add))) (And.intro (@Nat.add_zero) (And.intro (@Nat.le_refl) (@and_self))))) (And.intro (And.intro (And.intro (@and_true) (And.intro (@true_and) (@List.drop_zero.{0}))) (And.intro (@Ch) (And.intro (@FT) (@Kv)))) (And.intro (And.intro (@List.length_map.{0,0}) (And.intro (@List.length_append.{0}) (@List.length_cons.{0}))) (And.intro (@List.length_nil.{0}) (And.intro (@Nat.one_ne_zero) (@List.set_set.{0}))))))
end Go.Vx.Seat
end
section
open Go Go.Vx Go.Proofs
set_option maxRecDepth 10000
set_option maxHeartbeats 4000000
namespace Go.Vx.Seat
attribute [local irreducible] Rg Rt Ro Ri Rc Ds Dt Dw Dx Rw Rl Rd Av An kf
theorem oQ:By C1.P.funcs.toList 56=some Try.f56:=by kernel_rfl
theorem o9:By C1.P.funcs.toList 27=some Try.f27:=by kernel_rfl
theorem nQ:By C1.P.funcs.toList 28=some Try.f28:=by kernel_rfl
theorem CV (n:Int):AJ n n=true:=by rw [BN];simp
theorem AF {a b:Int} (h:a≠b):AJ a b=false:=by rw [BN];simp [h]
theorem AH {a b:Int} (h:a≤b):AN a b=true:=by rw [HG];simp [h]
theorem AE {a b:Int} (h:¬a≤b):AN a b=false:=by rw [HG];simp [h]
theorem A1 {i:Nat} (h:i<9000000000000000000):AG .i64 ((i:Nat):Int)=(i:Nat):=by rw [D0,IntKind.wrap_i64];omega
theorem AK {i:Nat} (h:i<9000000000000000000):AG .i64 (((i:Nat):Int)+1)=((i+1:Nat):Int):=by rw [D0,IntKind.wrap_i64];omega
theorem Au {x:Int} (h1: -9000000000000000000≤x) (h2:x≤9000000000000000000):AG .i64 x=x:=by rw [D0,IntKind.wrap_i64];omega
theorem Bq {i:Nat} (h0:0<i) (h:i<9000000000000000000):AG .i64 (((i:Nat):Int) - 1)=((i - 1:Nat):Int):=by rw [D0,IntKind.wrap_i64];omega
def ei (n:Int):List PC:=[.d (.int .i64 n)]
abbrev rI (l:List Int):PC:=.row 1 (l.map ei)
def e2 (l:List Int):List PC:=[rI l]
structure Tok where
 kind:Int
 text:ByteArray
 unit:ByteArray
 neg:Bool
 digits:ByteArray
 exp:ByteArray
 flag:Bool
 sign:Bool
 c0:Int
 c1:Int
 c2:Int
 c3:Int
 start:Int
def Tok.pc (t:Tok):List PC:=
 [.d (.int .i64 t.kind),.d (.string t.text),.d (.string t.unit),.d (.bool t.neg),.d (.string t.digits),.d (.string t.exp),.d (.bool t.flag),.d (.bool t.sign),.d (.int .i64 t.c0),.d (.int .i64 t.c1),.d (.int .i64 t.c2),.d (.int .i64 t.c3),.d (.int .i64 t.start)]
def Tok.cs (t:Tok):List Ce:=t.pc.map .p
abbrev Tok.yv (t:Tok):YV:=.agg t.cs
abbrev rT (l:List Tok):PC:=.row 13 (l.map Tok.pc)
instance:Inhabited Tok:=⟨⟨0,⟨#[]⟩,⟨#[]⟩,false,⟨#[]⟩,⟨#[]⟩,false,false,0,0,0,0,0⟩⟩
theorem AP {α β:Type} {f:α→β} {l:List α} {i:Nat} {a:α} (h:l[i]?=some a):(l.map f)[i]?=some (f a):=by simp [h]
theorem get_lt {α:Type} {l:List α} {i:Nat} (h:i<l.length):∃a,l[i]?=some a:=⟨l[i],List.getElem?_eq_getElem h⟩
def BP (k:Int):Int:=if k=2∨k=21 then 22 else if k=23 then 24 else if k=19 then 20 else 0
theorem Gs (k:Int):AS C1 56 [yd (.int .i64 k)] fun y=>y=yd (.int .i64 (BP k)):=by
 refine Pf (by rfl) (by rfl) oQ (by rfl) ?_
 simp only [Try.f56,List.length_cons,List.length_nil,List.replicate,List.cons_append,List.nil_append]
 simp -implicitDefEqProofs only [↓yP,yT]
 unfold BP
 by_cases h1:k=2
 ·subst h1
  simp [BN,↓yP,yT,reduceCtorEq]
 by_cases h2:k=21
 ·subst h2
  simp [BN,↓yP,yT,reduceCtorEq]
 by_cases h3:k=23
 ·subst h3
  simp [BN,↓yP,yT,reduceCtorEq]
 by_cases h4:k=19
 ·subst h4
  simp [BN,↓yP,yT,reduceCtorEq]
 simp [BN,h1,h2,h3,h4,↓yP,yT,reduceCtorEq]
def BK (k:Int):Bool:=decide (k=13)||decide (k=25)
def Fk (k:Int):Bool:=decide (k=19)||decide (k=20)||decide (k=17)
theorem NX (t:Tok):AS C1 27 [t.yv] fun y=>y=yd (.bool (BK t.kind)):=by
 refine Pf (by rfl) (by rfl) o9 (by rfl) ?_
 simp only [Try.f27,List.length_cons,List.length_nil,List.replicate,List.cons_append,List.nil_append]
 simp only [Tok.yv,Tok.cs,Tok.pc,List.map_cons,List.map_nil]
 unfold BK
 by_cases h1:t.kind=13
 ·simp -implicitDefEqProofs only [↓yP,yT,reduceCtorEq,h1,CV]
  simp
 ·simp -implicitDefEqProofs only [↓yP,yT,reduceCtorEq,AF h1]
  simp [h1,BN]
theorem Nv (t:Tok):AS C1 28 [t.yv] fun y=>y=yd (.bool (Fk t.kind)):=by
 refine Pf (by rfl) (by rfl) nQ (by rfl) ?_
 simp only [Try.f28,List.length_cons,List.length_nil,List.replicate,List.cons_append,List.nil_append]
 simp only [Tok.yv,Tok.cs,Tok.pc,List.map_cons,List.map_nil]
 unfold Fk
 by_cases h1:t.kind=19
 ·simp -implicitDefEqProofs only [↓yP,yT,reduceCtorEq,h1,CV]
  simp
 by_cases h2:t.kind=20
 ·have e1:AJ t.kind 19=false:=AF h1
  have e2:AJ t.kind 20=true:=by rw [h2];rfl
  simp -implicitDefEqProofs only [↓yP,yT,reduceCtorEq,e1,e2]
  simp [h2]
 ·simp -implicitDefEqProofs only [↓yP,yT,reduceCtorEq,AF h1,AF h2]
  simp [h1,h2,BN]
end Go.Vx.Seat
end
section
open Go Go.Vx Go.Proofs
set_option maxRecDepth 10000
set_option maxHeartbeats 4000000
namespace Go.Vx.Seat
attribute [local irreducible] Rg Rt Ro Ri Rc Ds Dt Dw Dx Rw Rl Rd Av An kf
theorem oX:By C1.P.funcs.toList 76=some Try.f76:=by kernel_rfl
theorem nC:By C1.P.funcs.toList 72=some Try.f72:=by kernel_rfl
theorem mK:By C1.P.funcs.toList 101=some Try.f101:=by kernel_rfl
theorem n8:By C1.P.funcs.toList 78=some Try.f78:=by kernel_rfl
theorem nB:By C1.P.funcs.toList 75=some Try.f75:=by kernel_rfl
theorem nI:By C1.P.funcs.toList 92=some Try.f92:=by kernel_rfl
theorem p8:By C1.P.funcs.toList 79=some Try.f79:=by kernel_rfl
theorem lN:By C1.P.funcs.toList 102=some Try.f102:=by kernel_rfl
theorem oE:By C1.P.funcs.toList 82=some Try.f82:=by kernel_rfl
theorem p9:By C1.P.funcs.toList 81=some Try.f81:=by kernel_rfl
structure Rn where
 r:Int
 a:Int
def Rn.pc (x:Rn):List PC:=[.d (.int .i64 x.r),.d (.int .i64 x.a)]
abbrev rR (l:List Rn):PC:=.row 2 (l.map Rn.pc)
instance:Inhabited Rn:=⟨⟨0,0⟩⟩
def DV (l:List Rn) (i:Int):Int:=if i<0 then -1 else match l[i.toNat]? with|some x=>x.r|none=> -1
theorem CU {l:List Rn} {i:Nat} {x:Rn} (h:l[i]?=some x):DV l (i:Nat)=x.r:=by
 rw [DV,if_neg (by omega),Int.toNat_natCast,h]
theorem DZ {l:List Rn} {i:Int} (h:(l.length:Int)≤i):DV l i= -1:=by
 rw [DV,if_neg (by omega),List.getElem?_eq_none (by omega)]
theorem BQ {a b:Int} (h:AN a b=false):b<a:=by rw [HG] at h;simpa using h
theorem Bl {a b:Int} (h:AN a b=true):a≤b:=by rw [HG] at h;simpa using h
theorem A7 {a b:Int} (h:AJ a b=false):a≠b:=by rw [BN] at h;simpa using h
theorem AQ {a b:Int} (h:AJ a b=true):a=b:=by rw [BN] at h;simpa using h
theorem BC (l:List Rn) (i:Int):AS C1 76 [.c (.p (rR l)),yd (.int .i64 i)] fun y=>y=yd (.int .i64 (DV l i)):=by
 refine Pf (by rfl) (by rfl) oX (by rfl) ?_
 simp only [Try.f76,List.length_cons,List.length_nil,List.replicate,List.cons_append,List.nil_append]
 cases h1:AN 0 i with
 |false=>
  have:=BQ h1
  simp -implicitDefEqProofs only [↓yP,yT,reduceCtorEq,h1,DV,this]
 |true=>
  have h1':=Bl h1
  cases h2:AN (l.length:Nat) i with
  |true=>
   simp -implicitDefEqProofs only [↓yP,yT,reduceCtorEq,h1,h2]
   rw [DZ (Bl h2)]
  |false=>
   have h2':=BQ h2
   obtain ⟨n,rfl⟩:=Int.eq_ofNat_of_zero_le h1'
   obtain ⟨x,hx⟩:=get_lt (l:=l) (i:=n) (by omega)
   simp -implicitDefEqProofs only [↓yP,yT,Nat.reduceAdd,reduceCtorEq,h1,h2,AP hx,Rn.pc,CU hx]
def AL (r:Int):Bool:=AN 48 r&&AN r 57
theorem Be (r:Int):AS C1 72 [yd (.int .i64 r)] fun y=>y=yd (.bool (AL r)):=by
 refine Pf (by rfl) (by rfl) nC (by rfl) ?_
 simp only [Try.f72,List.length_cons,List.length_nil,List.replicate,List.cons_append,List.nil_append]
 cases h1:AN 48 r<;>cases h2:AN r 57<;>simp -implicitDefEqProofs only [↓yP,yT,reduceCtorEq,AL,h1,h2]<;>rfl
def Bm (r:Int):Bool:=(AN 97 r&&AN r 122)||(AN 65 r&&AN r 90)||AJ r 95||AN 128 r
theorem KH (r:Int):AS C1 101 [yd (.int .i64 r)] fun y=>y=yd (.bool (Bm r)):=by
 refine Pf (by rfl) (by rfl) mK (by rfl) ?_
 simp only [Try.f101,List.length_cons,List.length_nil,List.replicate,List.cons_append,List.nil_append]
 cases h1:AN 97 r<;>cases h2:AN r 122<;>cases h3:AN 65 r<;>cases h4:AN r 90<;>cases h5:AJ r 95<;>cases h6:AN 128 r<;>simp -implicitDefEqProofs only [↓yP,yT,reduceCtorEq,Bm,h1,h2,h3,h4,h5,h6]<;>rfl
def DB (r:Int):Bool:=Bm r||AL r||AJ r 45
theorem Dd (r:Int):AS C1 78 [yd (.int .i64 r)] fun y=>y=yd (.bool (DB r)):=by
 refine Pf (by rfl) (by rfl) n8 (by rfl) ?_
 simp only [Try.f78,List.length_cons,List.length_nil,List.replicate,List.cons_append,List.nil_append]
 simp -implicitDefEqProofs only [↓yP,yT]
 refine AB (KH r) (by rfl) fun y hy=>?_
 subst hy
 cases h1:Bm r with
 |true=>cases h3:AJ r 45<;>simp -implicitDefEqProofs only [↓yP,yT,reduceCtorEq,DB,h1,h3]
 |false=>
  simp -implicitDefEqProofs only [yT]
  refine AB (Be r) (by rfl) fun y hy=>?_
  subst hy
  cases h2:AL r<;>cases h3:AJ r 45<;>simp -implicitDefEqProofs only [↓yP,yT,reduceCtorEq,DB,h1,h2,h3]
def Ad (r:Int):Bool:=AJ r 32||AJ r 9||AJ r 10
theorem CY (r:Int):AS C1 75 [yd (.int .i64 r)] fun y=>y=yd (.bool (Ad r)):=by
 refine Pf (by rfl) (by rfl) nB (by rfl) ?_
 simp only [Try.f75,List.length_cons,List.length_nil,List.replicate,List.cons_append,List.nil_append]
 cases h1:AJ r 32<;>cases h2:AJ r 9<;>cases h3:AJ r 10<;>simp -implicitDefEqProofs only [↓yP,yT,reduceCtorEq,Ad,h1,h2,h3]
def DI (r:Int):Int:=if AL r=true then AG .i64 (r - 48) else if (AN 97 r&&AN r 102)=true then AG .i64 (AG .i64 (r - 97)+10) else if (AN 65 r&&AN r 70)=true then AG .i64 (AG .i64 (r - 65)+10) else -1
theorem HZ (r:Int):AS C1 92 [yd (.int .i64 r)] fun y=>y=yd (.int .i64 (DI r)):=by
 refine Pf (by rfl) (by rfl) nI (by rfl) ?_
 simp only [Try.f92,List.length_cons,List.length_nil,List.replicate,List.cons_append,List.nil_append]
 simp -implicitDefEqProofs only [↓yP,yT]
 refine AB (Be r) (by rfl) fun y hy=>?_
 subst hy
 cases h1:AL r with
 |true=>simp -implicitDefEqProofs only [↓yP,yT,reduceCtorEq,DI,h1]
 |false=>cases h2:AN 97 r<;>cases h3:AN r 102<;>cases h4:AN 65 r<;>cases h5:AN r 70<;>simp -implicitDefEqProofs only [↓yP,yT,reduceCtorEq,DI,h1,h2,h3,h4,h5]<;>rfl
theorem YS:DI (-1)= -1:=by simp [DI,AL,HG]
def Np (l:List Rn) (i:Nat):Bool:=AJ (DV l (i:Nat)) 92&& !AJ (DV l ((i+1:Nat):Int)) 10
theorem Eh (l:List Rn) (i:Nat) (hi:i≤1000000000):AS C1 79 [.c (.p (rR l)),yd (.int .i64 (i:Nat))] fun y=>y=yd (.bool (Np l i)):=by
 have w1:AG .i64 ((i:Int)+1)=((i+1:Nat):Int):=AK (by omega)
 refine Pf (by rfl) (by rfl) p8 (by rfl) ?_
 simp only [Try.f79,List.length_cons,List.length_nil,List.replicate,List.cons_append,List.nil_append]
 simp -implicitDefEqProofs only [↓yP,yT]
 refine AB (BC l i) (by rfl) fun y hy=>?_
 subst hy
 cases h1:AJ (DV l (i:Nat)) 92 with
 |false=>simp -implicitDefEqProofs only [↓yP,yT,reduceCtorEq,Bool.false_and,Np,h1]
 |true=>
  simp -implicitDefEqProofs only [yT,h1,w1]
  refine AB (BC l _) (by rfl) fun y hy=>?_
  subst hy
  cases h2:AJ (DV l ((i+1:Nat):Int)) 10<;>simp -implicitDefEqProofs only [↓yP,yT,reduceCtorEq,Bool.and_false,Np,h1,h2]
theorem YP (n a b:Int):AS C1 102 [yd (.int .i64 n),yd (.int .i64 a),yd (.int .i64 b)] fun y=>y=yd (.int .i64 (if n<a then a else if b<n then b else n)):=by
 refine Pf (by rfl) (by rfl) lN (by rfl) ?_
 simp only [Try.f102,List.length_cons,List.length_nil,List.replicate,List.cons_append,List.nil_append]
 cases h1:AN a n with
 |false=>
  have:=BQ h1
  simp -implicitDefEqProofs only [↓yP,yT,reduceCtorEq,h1,this]
 |true=>
  have h1':¬n<a:=by have:=Bl h1;omega
  cases h2:AN n b with
  |false=>
   have:=BQ h2
   simp -implicitDefEqProofs only [↓yP,yT,reduceCtorEq,h1,h2,h1',this]
  |true=>
   have h2':¬b<n:=by have:=Bl h2;omega
   simp -implicitDefEqProofs only [↓yP,yT,reduceCtorEq,h1,h2,h1',h2']
def Cm (l:List Rn) (i:Nat):Bool:=
 let j:=if AJ (DV l (i:Nat)) 43||AJ (DV l (i:Nat)) 45 then i+1 else i
 AL (DV l (j:Nat))||(AJ (DV l (j:Nat)) 46&&AL (DV l ((j+1:Nat):Int)))
theorem Kr (l:List Rn) (i:Nat) (hi:i≤800000000):AS C1 82 [.c (.p (rR l)),yd (.int .i64 (i:Nat))] fun y=>y=yd (.bool (Cm l i)):=by
 have w1:AG .i64 ((i:Int)+1)=((i+1:Nat):Int):=AK (by omega)
 have w2:AG .i64 (((i+1:Nat):Int)+1)=((i+1+1:Nat):Int):=AK (by omega)
 refine Pf (by rfl) (by rfl) oE (by rfl) ?_
 simp only [Try.f82,List.length_cons,List.length_nil,List.replicate,List.cons_append,List.nil_append]
 simp -implicitDefEqProofs only [↓yP,yT]
 refine AB (BC l i) (by rfl) fun y hy=>?_
 subst hy
 cases h1:AJ (DV l (i:Nat)) 43<;>cases h2:AJ (DV l (i:Nat)) 45
 ·simp -implicitDefEqProofs only [↓yP,yT,h1,h2]
  refine AB (Be _) (by rfl) fun y hy=>?_
  subst hy
  cases h3:AL (DV l (i:Nat)) with
  |true=>simp -implicitDefEqProofs only [↓yP,yT,reduceCtorEq,Cm,h1,h2,h3]
  |false=>
   cases h4:AJ (DV l (i:Nat)) 46 with
   |false=>simp -implicitDefEqProofs only [↓yP,yT,reduceCtorEq,Bool.false_and,Cm,h1,h2,h3,h4]
   |true=>
    simp -implicitDefEqProofs only [yT,h4,w1]
    refine AB (BC l _) (by rfl) fun y hy=>?_
    subst hy
    simp -implicitDefEqProofs only [yT]
    refine AB (Be _) (by rfl) fun y hy=>?_
    subst hy
    simp -implicitDefEqProofs only [↓yP,yT,reduceCtorEq,Bool.true_and,Cm,h1,h2,h3,h4]
 all_goals
  simp -implicitDefEqProofs only [↓yP,yT,h1,h2,w1]
  refine AB (BC l _) (by rfl) fun y hy=>?_
  subst hy
  simp -implicitDefEqProofs only [↓yP,yT]
  refine AB (Be _) (by rfl) fun y hy=>?_
  subst hy
  cases h3:AL (DV l ((i+1:Nat):Int)) with
  |true=>simp -implicitDefEqProofs only [↓yP,yT,reduceCtorEq,Cm,h1,h2,h3]
  |false=>
   cases h4:AJ (DV l ((i+1:Nat):Int)) 46 with
   |false=>simp -implicitDefEqProofs only [↓yP,yT,reduceCtorEq,Bool.false_and,Cm,h1,h2,h3,h4]
   |true=>
    simp -implicitDefEqProofs only [yT,h4,w2]
    refine AB (BC l _) (by rfl) fun y hy=>?_
    subst hy
    simp -implicitDefEqProofs only [yT]
    refine AB (Be _) (by rfl) fun y hy=>?_
    subst hy
    simp -implicitDefEqProofs only [↓yP,yT,reduceCtorEq,Bool.true_and,Cm,h1,h2,h3,h4]
def ED (l:List Rn) (i:Nat):Bool:=
 decide (i<l.length)&&(if AJ (DV l (i:Nat)) 45 then Bm (DV l ((i+1:Nat):Int))||AJ (DV l ((i+1:Nat):Int)) 45||Np l (i+1) else Bm (DV l (i:Nat))||Np l i)
theorem Dz (l:List Rn) (i:Nat) (hi:i≤800000000):AS C1 81 [.c (.p (rR l)),yd (.int .i64 (i:Nat))] fun y=>y=yd (.bool (ED l i)):=by
 have w1:AG .i64 ((i:Int)+1)=((i+1:Nat):Int):=AK (by omega)
 refine Pf (by rfl) (by rfl) p9 (by rfl) ?_
 simp only [Try.f81,List.length_cons,List.length_nil,List.replicate,List.cons_append,List.nil_append]
 have t0:AN 0 (i:Nat)=true:=AH (by omega)
 by_cases hl:i<l.length
 ·have t1:AN (l.length:Nat) (i:Nat)=false:=AE (by omega)
  obtain ⟨x,hx⟩:=get_lt hl
  have hat:=CU hx
  cases h1:AJ x.r 45 with
  |true=>
   simp -implicitDefEqProofs only [↓yP,yT,Nat.reduceAdd,reduceCtorEq,t0,t1,AP hx,Rn.pc,h1,w1]
   refine AB (BC l _) (by rfl) fun y hy=>?_
   subst hy
   simp -implicitDefEqProofs only [↓yP,yT]
   refine AB (KH _) (by rfl) fun y hy=>?_
   subst hy
   cases h2:Bm (DV l ((i+1:Nat):Int))<;>cases h3:AJ (DV l ((i+1:Nat):Int)) 45
   ·simp -implicitDefEqProofs only [yT,h3,w1]
    refine AB (Eh l _ (by omega)) (by rfl) fun y hy=>?_
    subst hy
    simp -implicitDefEqProofs only [↓yP,yT,reduceCtorEq,Bool.true_and,ED,hat,h1,h2,h3,hl,decide_true]
   all_goals simp -implicitDefEqProofs only [↓yP,yT,reduceCtorEq,h3,ED,hat,h1,h2,hl,decide_true]
  |false=>
   simp -implicitDefEqProofs only [↓yP,yT,Nat.reduceAdd,reduceCtorEq,t0,t1,AP hx,Rn.pc,h1]
   refine AB (KH _) (by rfl) fun y hy=>?_
   subst hy
   cases h2:Bm x.r with
   |true=>simp -implicitDefEqProofs only [↓yP,yT,reduceCtorEq,ED,hat,h1,h2,hl,decide_true]
   |false=>
    simp -implicitDefEqProofs only [yT]
    refine AB (Eh l _ (by omega)) (by rfl) fun y hy=>?_
    subst hy
    simp -implicitDefEqProofs only [↓yP,yT,reduceCtorEq,Bool.true_and,ED,hat,h1,h2,hl,decide_true]
 ·have t1:AN (l.length:Nat) (i:Nat)=true:=AH (by omega)
  simp -implicitDefEqProofs only [↓yP,yT,reduceCtorEq,Bool.false_and,t0,t1,ED,hl,decide_false]
end Go.Vx.Seat
end
section
open Go Go.Vx Go.Proofs
set_option maxRecDepth 10000
set_option maxHeartbeats 4000000
namespace Go.Vx.Seat
attribute [local irreducible] Rg Rt Ro Ri Rc Ds Dt Dw Dx Rw Rl Rd Av An kf
theorem oR:By C1.P.funcs.toList 50=some Try.f50:=by kernel_rfl
theorem oZ:By C1.P.funcs.toList 99=some Try.f99:=by kernel_rfl
theorem nK:By C1.P.funcs.toList 74=some Try.f74:=by kernel_rfl
theorem lO:By C1.P.funcs.toList 100=some Try.f100:=by kernel_rfl
theorem oN:By C1.P.funcs.toList 80=some Try.f80:=by kernel_rfl
theorem lI:By C1.P.funcs.toList 85=some Try.f85:=by kernel_rfl
theorem oU:By C1.P.funcs.toList 55=some Try.f55:=by kernel_rfl
theorem oP:By C1.P.funcs.toList 24=some Try.f24:=by kernel_rfl
def eb (n:Int):List PC:=[.d (.int .u8 n)]
abbrev rB (l:List Int):PC:=.row 1 (l.map eb)
def Ck (a b:Int):Int:=IntKind.wrap .i64 (BitVec.ofInt IntKind.i64.bits a&&&BitVec.ofInt IntKind.i64.bits b).toNat
def JP (a b:Int):Int:=IntKind.wrap .i64 (BitVec.ofInt IntKind.i64.bits a|||BitVec.ofInt IntKind.i64.bits b).toNat
def FF (a n:Int):Int:=a.fdiv (2 ^ (min n.toNat IntKind.i64.bits))
theorem aQ (a:Int) (n:Nat):D8 .shr .i64 a (n:Nat)=some (.int .i64 (FF a (n:Nat))):=by
 rw [D8,if_neg (by omega)];rfl
theorem Zc (a:Int):D8 .shr .i64 a 6=some (.int .i64 (FF a 6)):=aQ a 6
theorem S0 (a:Int):D8 .shr .i64 a 12=some (.int .i64 (FF a 12)):=aQ a 12
theorem gE (a:Int):D8 .shr .i64 a 18=some (.int .i64 (FF a 18)):=aQ a 18
def TT (r:Int):Int:=if (AN 0 r&&AN r 1114111&& !(AN 55296 r&& !AN 57344 r))=true then r else 65533
def Lw (r:Int):List Int:=
 if AN 128 r=false then [AG .u8 r]
 else if AN 2048 r=false then [AG .u8 (JP 192 (FF r 6)),AG .u8 (JP 128 (Ck r 63))]
 else if AN 65536 r=false then [AG .u8 (JP 224 (FF r 12)),AG .u8 (JP 128 (Ck (FF r 6) 63)),AG .u8 (JP 128 (Ck r 63))]
 else [AG .u8 (JP 240 (FF r 18)),AG .u8 (JP 128 (Ck (FF r 12) 63)),AG .u8 (JP 128 (Ck (FF r 6) 63)),AG .u8 (JP 128 (Ck r 63))]
def Ao (r:Int):List Int:=Lw (TT r)
theorem Bj (r:Int):1≤(Ao r).length∧(Ao r).length≤4:=by
 unfold Ao Lw
 split
 ·simp
 ·split
  ·simp
  ·split<;>simp
theorem B8 (r:Int) (els:List Int) (hl:els.length≤200000000000):YC C1 false 50 [.c (.own 0 1 0 (els.map eb).length),yd (.int .i64 r)] [.row 1 (els.map eb)] (Ya 1 ((els++Ao r).map eb)):=by
 refine oW [] (by rfl) (by rfl) oR (by rfl) ?_
 simp only [Try.f50,List.length_cons,List.length_nil,List.replicate,List.cons_append,List.nil_append]
 have b1:(els.length+1)*1≤70368744177664:=by omega
 have b2:(els.length+2)*1≤70368744177664:=by omega
 have b3:(els.length+3)*1≤70368744177664:=by omega
 have b4:(els.length+4)*1≤70368744177664:=by omega
 have g1:AN 128 65533=true:=rfl
 have g2:AN 2048 65533=true:=rfl
 have g3:AN 65536 65533=false:=rfl
 cases h1:AN 0 r with
 |false=>
  cases h2:AN r 1114111<;>cases h3:AN 55296 r<;>cases h4:AN 57344 r
  all_goals
   have hp:Ao r=[AG .u8 (JP 224 (FF 65533 12)),AG .u8 (JP 128 (Ck (FF 65533 6) 63)),AG .u8 (JP 128 (Ck 65533 63))]:=by
    simp only [Ao,TT,h1,h2,h3,h4,Bool.and_true,Bool.and_false,Bool.not_true,Bool.not_false,Bool.false_eq_true,if_true,if_false,Lw,g1,g2,g3,reduceCtorEq]
   simp -implicitDefEqProofs only [↓yP,yT,Nat.reduceAdd,Nat.reduceMul,Nat.reduceLeDiff,reduceCtorEq,Nat.reduceLT,Zc,S0,g1,g2,g3,h1,b3]
   refine ⟨[0,2],by decide,GP _,.inr ⟨?_,?_⟩⟩
   ·simp only [List.length_map,List.length_append,hp];rfl
   ·simp only [yE,List.map_append,hp];rfl
 |true=>
  cases h2:AN r 1114111 with
  |false=>
   cases h3:AN 55296 r<;>cases h4:AN 57344 r
   all_goals
    have hp:Ao r=[AG .u8 (JP 224 (FF 65533 12)),AG .u8 (JP 128 (Ck (FF 65533 6) 63)),AG .u8 (JP 128 (Ck 65533 63))]:=by
     simp only [Ao,TT,h1,h2,h3,h4,Bool.and_true,Bool.and_false,Bool.not_true,Bool.not_false,Bool.false_eq_true,if_true,if_false,Lw,g1,g2,g3,reduceCtorEq]
    simp -implicitDefEqProofs only [↓yP,yT,Nat.reduceAdd,Nat.reduceMul,Nat.reduceLeDiff,reduceCtorEq,Nat.reduceLT,Zc,S0,g1,g2,g3,h1,h2,b3]
    refine ⟨[0,2],by decide,GP _,.inr ⟨?_,?_⟩⟩
    ·simp only [List.length_map,List.length_append,hp];rfl
    ·simp only [yE,List.map_append,hp];rfl
  |true=>
   cases h3:AN 55296 r with
   |false=>
    cases h4:AN 57344 r
    all_goals
     cases h5:AN 128 r<;>cases h6:AN 2048 r<;>cases h7:AN 65536 r
     all_goals
      have hp:Ao r=Lw r:=by
       simp only [Ao,TT,h1,h2,h3,h4,Bool.and_true,Bool.and_false,Bool.not_true,Bool.not_false,if_true]
      simp -implicitDefEqProofs only [↓yP,yT,Nat.reduceAdd,Nat.reduceMul,Nat.reduceLeDiff,reduceCtorEq,Nat.reduceLT,Zc,S0,gE,h1,h2,h3,h5,h6,h7,b1,b2,b3,b4]
      refine ⟨[0,2],by decide,GP _,.inr ⟨?_,?_⟩⟩
      ·simp only [List.length_map,List.length_append,hp,Lw,h5,h6,h7,if_true,if_false,reduceCtorEq];rfl
      ·simp only [yE,reduceCtorEq,List.map_append,hp,Lw,h5,h6,h7];rfl
   |true=>
    cases h4:AN 57344 r with
    |false=>
     have hp:Ao r=[AG .u8 (JP 224 (FF 65533 12)),AG .u8 (JP 128 (Ck (FF 65533 6) 63)),AG .u8 (JP 128 (Ck 65533 63))]:=by
      simp only [Ao,TT,h1,h2,h3,h4,Bool.and_true,Bool.and_false,Bool.not_true,Bool.not_false,Bool.false_eq_true,if_true,if_false,Lw,g1,g2,g3,reduceCtorEq]
     simp -implicitDefEqProofs only [↓yP,yT,Nat.reduceAdd,Nat.reduceMul,Nat.reduceLeDiff,reduceCtorEq,Nat.reduceLT,Zc,S0,g1,g2,g3,h1,h2,h3,h4,b3]
     refine ⟨[0,2],by decide,GP _,.inr ⟨?_,?_⟩⟩
     ·simp only [List.length_map,List.length_append,hp];rfl
     ·simp only [yE,List.map_append,hp];rfl
    |true=>
     cases h5:AN 128 r<;>cases h6:AN 2048 r<;>cases h7:AN 65536 r
     all_goals
      have hp:Ao r=Lw r:=by
       simp only [Ao,TT,h1,h2,h3,h4,Bool.and_true,Bool.and_false,Bool.not_true,Bool.not_false,if_true]
      simp -implicitDefEqProofs only [↓yP,yT,Nat.reduceAdd,Nat.reduceMul,Nat.reduceLeDiff,reduceCtorEq,Nat.reduceLT,Zc,S0,gE,h1,h2,h3,h4,h5,h6,h7,b1,b2,b3,b4]
      refine ⟨[0,2],by decide,GP _,.inr ⟨?_,?_⟩⟩
      ·simp only [List.length_map,List.length_append,hp,Lw,h5,h6,h7,if_true,if_false,reduceCtorEq];rfl
      ·simp only [yE,reduceCtorEq,List.map_append,hp,Lw,h5,h6,h7];rfl
end Go.Vx.Seat
end
section
open Go Go.Vx Go.Proofs Go.RowKit
set_option maxRecDepth 100000
namespace Go.Vx.Seat
theorem ce5:Try.prog.cellsOf 5=1:=by kernel_rfl
section
variable {D:Type} {enc:TypeId×Value→D} {w:World} {base:Nat}
theorem dG {t e:TypeId} {r:Reach} {base:Nat} {v:Value} (ht:Try.prog.underlying t=some (.slice e)) (hv:Value.okWide Try.prog w r base t v):v=.slice none 0 0∨∃a n c,v=.slice (some a) n c∧∃(c:Array Value) (el:TypeId) (fr:Nat×Nat),w.heap[a.block]?=some (Obj.cells c el fr):=by
 unfold Value.okWide at hv
 rw [ht] at hv
 simp only at hv
 unfold Cell.okWide at hv
 rw [ht] at hv
 simp only at hv
 unfold Cell.ok at hv
 rw [ht] at hv
 cases v with
 |slice a n c=>
  cases a with
  |none=>
   left
   split at hv
   all_goals first|(simp_all;done)|rfl|exact hv.elim
  |some a=>
   right
   simp only at hv
   obtain ⟨_,_,hh⟩:=hv
   obtain ⟨_,_,row,cells,hs,_⟩:=hh
   refine ⟨a,n,c,rfl,?_⟩
   unfold World.shape? at hs
   split at hs
   ·rename_i c el fr hw;exact ⟨c,el,fr,hw⟩
   ·cases hs
 |_=>simp at hv
theorem TW {α β:Type} {f:α→β} {p:α→Prop}:∀{l:List β},(∀x,x∈l→∃a,p a∧x=f a)→∃ys:List α,(∀a,a∈ys→p a)∧l=ys.map f
 |[],_=>⟨[],by simp,rfl⟩
 |x::l,h=>by
  obtain ⟨a,h1,h2⟩:=h x (List.mem_cons_self ..)
  obtain ⟨ys,h3,h4⟩:=TW (l:=l) fun y hy=>h y (List.mem_cons_of_mem _ hy)
  refine ⟨a::ys,fun b hb=>?_,by rw [h2,h4];rfl⟩
  rcases List.mem_cons.mp hb with rfl|hb
  ·exact h1
  ·exact h3 b hb
theorem QB {φ:Cy} {u v:Value} {sz:Nat} {els:List (List PC)} {R:Nat→Prop} {h:H} (hp:PRep R h (.row sz els) u) (hc:CR φ u v):VR φ u v:=by
 rcases hp.lay with ⟨rfl,_⟩|⟨b,off,blk,rfl,_⟩<;>exact hc
theorem eN (m:Nat):Lays enc Try.prog w base m 5 fun ps=>∃n:Int,ps=eb n:=by
 intro cs x φ h hi hx _
 have hl:∃v,cs=[v]∧∃n,v=.int .u8 n:=by
  obtain ⟨n,h1,_⟩:=DataW.trod_int Try.underlying5 hx
  exact ⟨_,h1,n,rfl⟩
 obtain ⟨v,rfl,n,rfl⟩:=hl
 exact ⟨φ,h,_,_,hi,.refl _ _,Hv.dry rfl,n,rfl⟩
theorem fV {w:World} (h:w.ShapedOpen Try.prog):0<w.heap.size∧∃m:Int,w.cell? ⟨0,0,none⟩=some (.int .i64 m):=by
 obtain ⟨m,hm⟩:=cell_of_shapedOpen_int (P:=Try.prog) (w:=w) (g:=0) (t:=3) (zero:=#[.int .i64 0]) (k:=.i64) h (of_decide_eq_true (by kernel_rfl)) (by kernel_rfl) rfl (by kernel_rfl) (by kernel_rfl) Try.underlying3
 refine ⟨?_,m,hm⟩
 unfold World.cell? at hm
 apply Classical.byContradiction
 intro hc
 rw [Array.getElem?_eq_none (by simpa using hc)] at hm
 cases hm
end
end Go.Vx.Seat
end
section
open Go Go.Vx Go.Proofs
set_option maxRecDepth 10000
set_option maxHeartbeats 4000000
namespace Go.Vx.Seat
attribute [local irreducible] Rg Rt Ro Ri Rc Ds Dt Dw Dx Rw Rl Rd Av An kf
theorem ZY {l:List Rn} {k:Nat} (h:l.length≤k):DI (DV l (k:Nat))= -1:=by rw [DZ (by omega)];exact YS
theorem A6 (bs:List Int):L7 (bs.map eb)=some (bs.map fun n=>Value.int .u8 n):=by
 induction bs with
 |nil=>rfl
 |cons n bs ih=>simp only [List.map_cons,eb,L7,ih]
theorem Ar (bs:List Int):bytesOf (bs.map fun n=>Value.int .u8 n)=some (bs.map fun n=>UInt8.ofNat n.toNat):=by
 induction bs with
 |nil=>rfl
 |cons n bs ih=>simp only [List.map_cons,bytesOf,ih]
def AO (bs:List Int):ByteArray:=AI (bs.map fun n=>UInt8.ofNat n.toNat)
theorem AW (bs:List Int):(AA (AO bs)).length=bs.length:=by simp [AO,AA,AI]
end Go.Vx.Seat
end
section
open Go Go.Vx Go.Proofs
set_option maxRecDepth 10000
set_option maxHeartbeats 4000000
namespace Go.Vx.Seat
attribute [local irreducible] Rg Rt Ro Ri Rc Ds Dt Dw Dx Rw Rl Rd Av An kf
theorem El {l:List Rn} {i:Nat} {x:Rn} (h:l[i]?=some x):(l.map Rn.pc)[i]?=some [.d (.int .i64 x.r),.d (.int .i64 x.a)]:=AP h
end Go.Vx.Seat
end
section
open Go Go.Vx Go.Proofs
set_option maxRecDepth 10000
set_option maxHeartbeats 4000000
namespace Go.Vx.Seat
attribute [local irreducible] Rg Rt Ro Ri Rc Ds Dt Dw Dx Rw Rl Rd Av An kf
theorem oL:By C1.P.funcs.toList 73=some Try.f73:=by kernel_rfl
def CW (l:List Rn):Nat→List UInt8→Bool
 |_,[]=>true
 |i,c::cs=>AJ (DV l (i:Nat)) (c.toNat:Nat)&&CW l (i+1) cs
theorem G9 (c:UInt8):AG .i64 ((c.toNat:Nat):Int)=(c.toNat:Nat):=A1 (by have:=c.toNat_lt;omega)
theorem EI (l:List Rn) (i:Nat) (s:ByteArray) (hi:i≤800000000) (hs:(AA s).length≤100):AS C1 73 [.c (.p (rR l)),yd (.int .i64 (i:Nat)),yd (.string s)] fun y=>y=yd (.bool (CW l i (AA s))):=by
 refine Pf (by rfl) (by rfl) oL (by rfl) ?_
 simp only [Try.f73,List.length_cons,List.length_nil,List.replicate,List.cons_append,List.nil_append]
 simp -implicitDefEqProofs only [↓yP,yT]
 refine Ah (fun d e st=>∃k:Nat,e=[.c (.p (rR l)),yd (.int .i64 (i:Nat)),yd (.string s),Tp,Tp,Tp,Tp,yd (.int .i64 (k:Nat)),Tp,Tp,Tp,Tp,Tp,Tp,Tp,Tp,Tp,Tp,Tp,Tp,Tp,Tp,Tp,Tp]∧st=[]∧k+d=(AA s).length∧CW l (i+k) ((AA s).drop k)=CW l i (AA s)) [true,true,true,false,false,false,false,true] (AA s).length [] (by decide) (AC _) ⟨0,by (simp only [yE];try rfl),by (simp only [yE];try rfl),by omega,rfl⟩ ?_
 rintro d e st ⟨k,rfl,rfl,hd,hf⟩
 by_cases hk:k<(AA s).length
 ·obtain ⟨c,hc⟩:=get_lt hk
  have t1:AN ((AA s).length:Nat) (k:Nat)=false:=AE (by omega)
  have w1:AG .i64 ((k:Int)+1)=((k+1:Nat):Int):=AK (by omega)
  have w2:AG .i64 ((i:Int)+(k:Nat))=((i+k:Nat):Int):=A1 (i:=i+k) (by omega)
  have hdr:(AA s).drop k=c::(AA s).drop (k+1):=by
   rw [List.getElem?_eq_getElem hk] at hc
   cases hc
   exact List.drop_eq_getElem_cons hk
  rw [hdr,CW] at hf
  simp -implicitDefEqProofs only [↓yP,yT,AY.eq_1,t1]
  refine A8 (by rw [C5];kernel_rfl) ?_
  simp -implicitDefEqProofs only [↓yP,yT,w2]
  refine AB (BC l _) (by rfl) fun y hy=>?_
  subst hy
  cases h1:AJ (DV l ((i+k:Nat):Int)) ((c.toNat:Nat):Int) with
  |true=>
   rw [h1,Bool.true_and] at hf
   simp -implicitDefEqProofs only [↓yP,yT,AV.eq_1,hc,G9,h1,w1]
   refine ⟨d - 1,[],by omega,by decide,AC _,k+1,by (simp only [yE];try rfl),rfl,by omega,by rw [←hf];rfl⟩
  |false=>
   rw [h1,Bool.false_and] at hf
   simp -implicitDefEqProofs only [↓yP,yT,reduceCtorEq,AV.eq_1,hc,G9,h1,←hf]
 ·have t1:AN ((AA s).length:Nat) (k:Nat)=true:=AH (by omega)
  rw [List.drop_eq_nil_of_le (by omega),CW] at hf
  simp -implicitDefEqProofs only [↓yP,yT,reduceCtorEq,AY.eq_1,t1,←hf]
end Go.Vx.Seat
end
