/- A function that is told: run once, from an empty heap. -/
import Derived.Test.YtmbonddknackiaaVxWp
namespace Go.Vx
open Go.RowKit
def LO (v:Value):Nat→List Value→H→Option (Value×H):=fun _ as h=>match as with
 |[]=>some (v,h)
 |_::_=>none
theorem La.mono {P:Program} {f:FuncId} {args:Array Value} {w:World} {R R':Value→World→Prop} (h:La P f args w R) (hr:∀v w',R v w'→R' v w'):La P f args w R':=by
 rcases h with ⟨h1,h2⟩|⟨v,w',h1,h2⟩
 ·exact .inl ⟨h1,Calls.mono h2 fun e w' ⟨v,he,hv⟩=>⟨v,he,hr v w' hv⟩⟩
 ·exact .inr ⟨v,w',h1,hr v w' h2⟩
theorem Step.drop {base lo:Nat} {φ φ':Cy} {h h':H} {w w':World} (st:Step base 0 (fun _=>none) φ' ⟨0,[]⟩ h' w w') (hh:HR base φ h w):Step base lo φ φ h h w w':=by
 have hold:∀b,b<w.heap.size→w'.heap[b]?=w.heap[b]?:=fun b hb=>st.frame b hb fun ⟨i,l,bl,h1,_⟩=>by cases h1
 exact ⟨fun _ _ h=>h,fun _ h=>.inl h,Nat.le_refl _,
  ⟨fun i l hi=>Nat.lt_of_lt_of_le (hh.bound i l hi) st.below.size,fun i l b hi hg=>(hh.live i l b hi hg).same (hold _ (hh.bound i l hi)),hh.base,hh.sep⟩,
  st.below,fun b hb _=>hold b hb,fun i l h1 h2=>(by rw [h1] at h2;cases h2),fun _ _ b' hb=>⟨b',hb,rfl⟩⟩
def Cx.tell (C:Cx) (f:FuncId) (g:Nat→List Value→H→Option (Value×H)):Cx:={C with told:=fun f'=>if f'=f then some g else C.told f'}
theorem FK.tell {C:Cx} {f:FuncId} {g:Nat→List Value→H→Option (Value×H)} {base:Nat} {callf:Nat→FuncId→List Value→H→Option (Value×H)} (h:FK C base callf):FK (C.tell f g) base callf:=
 fun lo f args h0 v h' hx φ w args' hh hb ha hn=>h lo f args h0 v h' hx φ w args' hh ⟨hb.le,hb.low⟩ ha hn
theorem MJ {C:Cx} (G:Good C) {f:FuncId} {g:Nat→List Value→H→Option (Value×H)} (hk:∀lo args h v h',g lo args h=some (v,h')→Keep lo h h')
  (hg:∀base,FK C base fun lo f' args h=>if f'=f then g lo args h else none):Good (C.tell f g):=by
 refine ⟨G.mixed,G.eqs,G.zeros,G.lows,fun f' fn hf ht hfn=>?_,fun f' g' h=>?_,fun base f' g' h=>?_⟩
 ·have ht':(if f'=f then some g else C.told f')=none:=ht
  split at ht'
  ·cases ht'
  ·exact G.fns f' fn hf ht' hfn
 ·have h':(if f'=f then some g else C.told f')=some g':=h
  split at h'
  ·cases h';exact hk
  ·exact G.keep f' g' h'
 ·have h':(if f'=f then some g else C.told f')=some g':=h
  split at h'
  ·rename_i e;cases h';subst e;exact (hg base).tell
  ·exact (G.told base f' g' h').tell
theorem Ue {C:Cx} (G:Good C) {n:Nat} {f:FuncId} {v:Value} {h':H} (hx:dN C n 0 f [] ⟨0,[]⟩=some (v,h')) (hv:Hx v=true):Good (C.tell f (LO v)):=by
 refine MJ G (fun lo args h u h1 hu=>?_) fun base lo f' args h u h1 hu φ w args' hh hb ha hn=>?_
 ·unfold LO at hu
  split at hu
  ·cases hu;exact Keep.refl _ _
  ·cases hu
 ·simp only at hu
  split at hu
  ·rename_i e;subst e
   unfold LO at hu
   split at hu
   ·cases hu
    have h0:HR base (fun _=>none) ⟨0,[]⟩ w:=⟨fun i l h=>(by cases h),fun i l b h=>(by cases h),fun i l b h=>(by cases h),fun i j li lj bi bj _ h=>(by cases h)⟩
    have:=Ux G (gV (base:=base) G n) 0 f' [] ⟨0,[]⟩ v h' hx (fun _=>none) w args' h0 hb ⟨ha.1,fun i u hu=>by simp at hu⟩ (fun _ _ _=>rfl)
    refine this.mono fun v' w' ⟨φ',hv',st⟩=>⟨φ,?_,st.drop hh⟩
    rw [hv'.of_dryV hv];exact D6 hv
   ·cases hu
  ·cases hu
end Go.Vx
