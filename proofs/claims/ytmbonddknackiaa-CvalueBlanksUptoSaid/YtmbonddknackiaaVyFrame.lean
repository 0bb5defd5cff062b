/- Calls that are handed some of the run's own; results of a call's own; nil rows in results. -/
import Derived.Test.YtmbonddknackiaaVyRun
set_option linter.unusedVariables false
namespace Go.Vx
def Yq (k:Nat):Ce→Bool
 |.own id _ _ _|.ptr id _ _ _=>Nat.blt id k
 |_=>true
def mP (k:Nat):Ent→Bool
 |.box cs=>cs.all (Yq k)
 |_=>true
def o4 (k:Nat):YV→Bool
 |.c c=>Yq k c
 |.agg cs=>cs.all (Yq k)
 |.tup _=>false
section
variable {C:Cx} {lo k:Nat} {m m':Mp} {R R':Nat→Prop} {h h':H} {s s':BH}
theorem Ez {α:Type} {xs:List α} {i k:Nat} {x:α} (h:(xs.take k)[i]?=some x):i<k∧xs[i]?=some x:=by
 rw [List.getElem?_take] at h
 split at h
 ·exact ⟨by assumption,h⟩
 ·cases h
theorem SG {α:Type} {xs:List α} {i k:Nat} {x:α} (hi:i<k) (h:xs[i]?=some x):(xs.take k)[i]?=some x:=by
 rw [List.getElem?_take,if_pos hi];exact h
theorem CI.cut {c:Ce} {v:Value} (hc:CI m R h c v) (hr:Yq k c=true):CI (m.take k) R h c v:=by
 have key:∀id,Nat.blt id k=true→id<k:=fun id hb=>by simpa [Nat.blt_eq] using hb
 cases c with
 |p c=>exact hc
 |own id sz off len=>exact ⟨hc.1,hc.2.imp (fun x=>x) fun ⟨b,h1,h2⟩=>⟨b,SG (key id hr) h1,h2⟩⟩
 |ptr id sz i off=>obtain ⟨b,h1,h2⟩:=hc;exact ⟨b,SG (key id hr) h1,h2⟩
 |rp cs=>exact hc
 |top=>trivial
theorem L2.cut {cs:List Ce} {vs:List Value} (hl:L2 (CI m R h) cs vs) (hr:cs.all (Yq k)=true):L2 (CI (m.take k) R h) cs vs:=
 ⟨hl.1,fun i a b ha hb=>(hl.2 i a b ha hb).cut (List.all_eq_true.mp hr a (List.mem_of_getElem? ha))⟩
theorem Af.cut {x:YV} {v:Value} (hx:Af m R h x v) (hr:o4 k x=true):Af (m.take k) R h x v:=by
 cases x with
 |c c=>exact CI.cut (c:=c) hx hr
 |agg cs=>obtain ⟨vs,h1,h2⟩:=hx;exact ⟨vs,h1,h2.cut hr⟩
 |tup xs=>cases hr
theorem JH.cut {e:Ent} {mb:Option Nat} (he:JH lo m R h e mb) (hr:mP k e=true):JH lo (m.take k) R h e mb:=by
 cases e with
 |dead=>trivial
 |box cs=>obtain ⟨b,vs,h1,h2,h3,h4⟩:=he;exact ⟨b,vs,h1,h2,h3,h4.cut hr⟩
 |row sz els=>exact he
theorem Dl.cut {b:Nat} (hb:Dl (m.take k) (s.take k) b):∃(i:Nat) (e:Ent),i<k∧s[i]?=some e∧e≠.dead∧m[i]?=some (some b):=by
 obtain ⟨i,e,h1,h2,h3⟩:=hb
 exact ⟨i,e,(Ez h1).1,(Ez h1).2,h2,(Ez h3).2⟩
theorem SRep.cut (hs:SRep lo m R h s) (hr:(s.take k).all (mP k)=true):SRep lo (m.take k) R h (s.take k) where
 len:=by simp [hs.len]
 ent i e mb h1 h2:=(hs.ent i e mb (Ez h1).2 (Ez h2).2).cut (List.all_eq_true.mp hr e (List.mem_of_getElem? h1))
 inj i j e f b h1 h2 he hf h3 h4:=hs.inj i j e f b (Ez h1).2 (Ez h2).2 he hf (Ez h3).2 (Ez h4).2
 own b hb:=let ⟨i,e,_,h1,h2,h3⟩:=hb.cut;hs.own b ⟨i,e,h1,h2,h3⟩
 rd:=hs.rd
 lo:=hs.lo
def bB (C:Cx) (f:FuncId) (args:List YV) (Q:YV→Prop):Prop:=
 ∀(lo:Nat) (R:Nat→Prop) (h:H) (vals:List Value),lo≤h.n→(∀b,R b→b<h.n)→L2 (Af [] R h) args vals→
  G7 C lo f vals h fun v h'=>∃R' y,Q y∧Af [] R' h' y v∧h.n≤h'.n∧(∀b,b<h.n→h'.get b=h.get b)∧∀b,R' b→b<h'.n∧h.n≤b
theorem bB.pure {f:FuncId} {args:List YV} {Q:YV→Prop} (hc:bB C f args Q):AS C f args Q:=
 fun lo R h vals hl hR ha=>(hc lo R h vals hl hR ha).mono fun v h' ⟨R',y,k1,k2,k3,k4,k5⟩=>⟨R',y,k1,k2,k3,k4,fun b hb=>⟨(k5 b hb).1,fun hbn=>by have:=(k5 b hb).2;omega⟩⟩
def fL:Nat→Ce→Ce
 |0,c=>c
 |z+1,.p (.d (.slice none 0 0))=>.p (.row (z+1) [])
 |_,c=>c
def iH:List Nat→List Ce→List Ce
 |z::zs,c::cs=>fL z c::iH zs cs
 |_,cs=>cs
def cM (zs:List Nat):YV→YV
 |.agg cs=>.agg (iH zs cs)
 |.c c=>(match zs with|[z]=>.c (fL z c)|_=>.c c)
 |v=>v
theorem OF {z:Nat} {c:Ce} {v:Value} (hc:CI m R h c v):CI m R h (fL z c) v:=by
 unfold fL
 split
 ·exact hc
 ·generalize hu:Value.slice none 0 0=u at hc
  cases hc
  subst hu
  exact PRep.nil
 ·exact hc
theorem OO:∀{zs:List Nat} {cs:List Ce} {vs:List Value},L2 (CI m R h) cs vs→L2 (CI m R h) (iH zs cs) vs
 |[],cs,vs,hl=>hl
 |z::zs,[],vs,hl=>hl
 |z::zs,c::cs,[],hl=>absurd hl.1 (by simp)
 |z::zs,c::cs,v::vs,hl=>(OO hl.tail).cons (OF hl.head)
theorem VG {zs:List Nat} {x:YV} {v:Value} (hx:Af m R h x v):Af m R h (cM zs x) v:=by
 unfold cM
 split
 ·obtain ⟨vs,h1,h2⟩:=hx;exact ⟨vs,h1,OO h2⟩
 ·split
  ·exact OF hx
  ·exact hx
 ·exact hx
theorem oW (zs:List Nat) {f:FuncId} {args:List YV} {fn:Func} {c:Code} {K:YV→BH→Prop} (ht:C.told f=none) (hf:Nat.ble (f+1) C.top=true) (hfn:By C.P.funcs.toList f=some fn) (hb:fn.body=some c)
  (hy:Rw C s.length c [] (fun x e s'=>(x=.normal∨x=.ret)∧∃vs,DQ C.P e s' fn.results.toList=some vs∧∃ks,ks.Nodup∧H9 s.length ks∧K (cM zs (IP ks s' (Sw vs))) (KO ks s')) (args++List.replicate (fn.ntmps - args.length) (.c .top)) s):
  YC C false f args s K:=by
 have:=kZ (K:=fun y s'=>K (cM zs y) s') ht hf hfn hb hy
 exact fun lo m R h vals hs ha=>(this lo m R h vals hs ha).mono fun v h' ⟨m',R',s',y,k1,k2,k3,k4⟩=>⟨m',R',s',_,k1,k2,VG k3,k4⟩
section
variable {pin:Nat} {e:List YV} {fs:List Fr} {Q:FI} {draw:Bool} {gs:List (Option Nat)} {rest:List Oper} {rs ts:List Nat} {d:Option Nat} {f:FuncId} {args args0:List YV} {Q':YV→Prop}
theorem BV (hb:args.map (IV s)=args0) (hc:AS C f args0 Q') (hp:args0.all Ow=true) (hk:∀y,Q' y→iZ y=true∧Rg C pin draw gs rest fs Q (yput e d y) s):Av C pin draw gs d rest fs Q e f args s:=
 XZ (by rw [hb];exact hc) (by rw [hb];exact hp) hk
end
end
end Go.Vx
