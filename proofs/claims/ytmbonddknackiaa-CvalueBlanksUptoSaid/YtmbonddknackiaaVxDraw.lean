/- A region that draws its order: the canonical run stands for every order. -/
import Derived.Test.YtmbonddknackiaaVxSeq
namespace Go.Vx
open Go.RowKit
def Nj (o:Oper) (acc:List Nat):Nat:=o.after.toList.foldl (fun s e=>if Region.binds .any e then s|||2 ^ e.on|||acc.getD e.on 0 else s) 0
theorem Hi (o:Oper) (r:List Oper) (acc:List Nat):E7 (o::r) acc=E7 r (acc++[Nj o acc]):=rfl
theorem SB:∀(os:List Oper) (acc:List Nat),∃t,E7 os acc=acc++t∧t.length=os.length
 |[],acc=>⟨[],by simp [E7],rfl⟩
 |o::os,acc=>by
  obtain ⟨t,h1,h2⟩:=SB os (acc++[Nj o acc])
  exact ⟨Nj o acc::t,by rw [Hi,h1];simp,by simp [h2]⟩
theorem VO:∀(os:List Oper) (acc:List Nat) (j:Nat) (o:Oper),os[j]?=some o→∃pre,(E7 os acc)[acc.length+j]?=some (Nj o pre)∧pre.length=acc.length+j∧∀k,k<acc.length+j→(E7 os acc)[k]?=pre[k]?
 |[],acc,j,o,h=>by simp at h
 |p::os,acc,0,o,h=>by
  simp at h;subst h
  obtain ⟨t,h1,h2⟩:=SB os (acc++[Nj p acc])
  refine ⟨acc,?_,rfl,fun k hk=>?_⟩
  ·rw [Hi,h1];simp
  ·rw [Hi,h1,List.append_assoc,List.getElem?_append_left (by omega)]
 |p::os,acc,j+1,o,h=>by
  simp at h
  obtain ⟨pre,h1,h2,h3⟩:=VO os (acc++[Nj p acc]) j o h
  simp only [List.length_append,List.length_singleton] at h1 h2 h3
  refine ⟨pre,?_,by omega,fun k hk=>?_⟩
  ·rw [Hi,show acc.length+(j+1)=acc.length+1+j by omega];exact h1
  ·rw [Hi];exact h3 k (by omega)
theorem XH (es:List Edge) (acc:List Nat) (i:Nat):∀s:Nat,(es.foldl (fun s e=>if Region.binds .any e then s|||2 ^ e.on|||acc.getD e.on 0 else s) s).testBit i=true→
  s.testBit i=true∨∃e∈es,Region.binds .any e=true∧(e.on=i∨(acc.getD e.on 0).testBit i=true):=by
 induction es with
 |nil=>intro s h;exact .inl h
 |cons e es ih=>
  intro s h
  rw [List.foldl_cons] at h
  rcases ih _ h with h1|⟨e',he',h2⟩
  ·split at h1
   ·rename_i hb
    rw [Nat.testBit_or,Nat.testBit_or,Nat.testBit_two_pow] at h1
    simp only [Bool.or_eq_true,decide_eq_true_eq] at h1
    rcases h1 with (h1|h1)|h1
    ·exact .inl h1
    ·exact .inr ⟨e,by simp,hb,.inl h1⟩
    ·exact .inr ⟨e,by simp,hb,.inr h1⟩
   ·exact .inl h1
  ·exact .inr ⟨e',List.mem_cons_of_mem _ he',h2⟩
theorem N4 {os:List Oper} {i j:Nat} {o:Oper} (ho:os[j]?=some o) (h:ET (E7 os []) i j=true):
  ∃e∈o.after.toList,Region.binds .any e=true∧(e.on=i∨(e.on<j∧ET (E7 os []) i e.on=true)):=by
 obtain ⟨pre,h1,h2,h3⟩:=VO os [] j o ho
 simp only [List.length_nil,Nat.zero_add] at h1 h2 h3
 unfold ET at h ⊢
 rw [List.getD,h1] at h
 simp only [Option.getD_some,Nj] at h
 rcases XH _ _ _ _ h with h4|⟨e,he,hb,h5⟩
 ·simp at h4
 ·refine ⟨e,he,hb,?_⟩
  rcases h5 with h5|h5
  ·exact .inl h5
  ·right
   by_cases hlt:e.on<j
   ·refine ⟨hlt,?_⟩
    rw [List.getD] at h5 ⊢
    rw [h3 _ hlt];exact h5
   ·rw [List.getD,List.getElem?_eq_none (by omega)] at h5
    simp at h5
section
variable {C:Cx} {callf:Nat→FuncId→List Value→H→Option (Value×H)}
structure Run (C:Cx) (callf:Nat→FuncId→List Value→H→Option (Value×H)) (lo:Nat) (ops:List Oper) (k:Nat) (E:Nat→BF) (Hs:Nat→H) (V:Nat→Value):Prop where
 step:∀j o,k≤j→ops[j]?=some o→Dy C callf true lo ops o (E j) (Hs j)=some (V j,Hs (j+1))∧E (j+1)=Fz (E j) o.dst (V j)
theorem Zi {lo:Nat} {ops:List Oper}:∀(rest:List Oper) (k:Nat) (e e':BF) (h h':H) (tr:List (Option Nat×Option Nat)),ops.drop k=rest→
  Gm C callf lo ops rest e h=some (e',h',tr)→
  ∃E Hs V,Run C callf lo ops k E Hs V∧E k=e∧Hs k=h∧E (k+rest.length)=e'∧Hs (k+rest.length)=h'∧
   ∀j o,k≤j→ops[j]?=some o→tr[j - k]?=some (GL C.P (ev (E j)) o.op,Hf C.P (ev (E j)) o.op)
 |[],k,e,e',h,h',tr,hd,hx=>by
  rw [Jf] at hx
  cases hx
  have hnone:∀j,k≤j→ops[j]?=none:=fun j hj=>by
   have:ops.length≤k:=by rw [List.drop_eq_nil_iff] at hd;exact hd
   rw [List.getElem?_eq_none (by omega)]
  exact ⟨fun _=>e,fun _=>h,fun _=>undef,⟨fun j o hj ho=>by rw [hnone j hj] at ho;cases ho⟩,rfl,rfl,rfl,rfl,fun j o hj ho=>by rw [hnone j hj] at ho;cases ho⟩
 |p::rest,k,e,e',h,h',tr,hd,hx=>by
  rw [FG] at hx
  split at hx
  ·rename_i v h1 hs
   split at hx
   ·rename_i e2 h2 tr2 hr
    cases hx
    have hok:ops[k]?=some p:=by
     have:(ops.drop k)[0]?=some p:=by rw [hd];rfl
     simpa using this
    have hrest:ops.drop (k+1)=rest:=by
     have:=congrArg (List.drop 1) hd
     simpa [List.drop_drop,Nat.add_comm] using this
    obtain ⟨E,Hs,V,r1,r2,r3,r4,r5,r6⟩:=Zi rest (k+1) _ _ _ _ _ hrest hr
    refine ⟨fun j=>if j=k then e else E j,fun j=>if j=k then h else Hs j,fun j=>if j=k then v else V j,⟨fun j o hj ho=>?_⟩,if_pos rfl,if_pos rfl,?_,?_,fun j o hj ho=>?_⟩
    ·by_cases hjk:j=k
     ·subst hjk
      rw [hok] at ho;cases ho
      simp only [if_pos,if_neg (show ¬j+1=j by omega),r2,r3]
      exact ⟨hs,trivial⟩
     ·have:=r1.step j o (by omega) ho
      simp only [if_neg hjk,if_neg (show ¬j+1=k by omega)]
      exact this
    ·simp only [List.length_cons]
     rw [if_neg (by omega),show k+(rest.length+1)=k+1+rest.length by omega];exact r4
    ·simp only [List.length_cons]
     rw [if_neg (by omega),show k+(rest.length+1)=k+1+rest.length by omega];exact r5
    ·by_cases hjk:j=k
     ·subst hjk
      rw [hok] at ho;cases ho
      simp
     ·simp only [if_neg hjk]
      have:=r6 j o (by omega) ho
      rw [show j - k=(j - (k+1))+1 by omega,List.getElem?_cons_succ]
      exact this
   ·cases hx
  ·cases hx
def F3 (C:Cx) (ops:List Oper) (k:Nat):Bool:=match ops[k]? with|some o=>DH C.P o.op|none=>false
noncomputable def Xx (C:Cx) (ops:List Oper) (E:Nat→BF) (k:Nat):Option Nat:=match ops[k]? with|some o=>Hf C.P (ev (E k)) o.op|none=>none
noncomputable def mW (C:Cx) (ops:List Oper) (E:Nat→BF) (k:Nat):Option Nat:=match ops[k]? with|some o=>GL C.P (ev (E k)) o.op|none=>none
theorem Wh {P:Program} {ρ:Operand→Value} {op:Op} (h:DH P op=false):Hf P ρ op=none:=by
 cases op<;>try rfl
 case store t a v=>simp [DH] at h
 case convert s d x=>
  simp only [DH] at h
  simp only [Hf]
  rw [if_neg (by rw [h];simp)]
 case call c=>
  obtain ⟨callee,args,argTypes⟩:=c
  cases callee with
  |builtin b=>cases b<;>first|rfl|simp [DH] at h
  |_=>rfl
variable {lo:Nat} {ops:List Oper} {E:Nat→BF} {Hs:Nat→H} {V:Nat→Value}
theorem Run.keep1 (R:Run C callf lo ops 0 E Hs V) (hk:CC callf) {k:Nat} {o:Oper} (ho:ops[k]?=some o):
  (Hs k).n≤(Hs (k+1)).n∧(∀i,i<(Hs k).n→Xx C ops E k≠some i→(Hs (k+1)).get i=(Hs k).get i)∧
   ∀i,i<(Hs k).n→∀b',(Hs (k+1)).get i=some b'→∃b,(Hs k).get i=some b∧b.own=b'.own:=by
 have hx:=(R.step k o (Nat.zero_le _) ho).1
 have htg:Xx C ops E k=Hf C.P (ev (E k)) o.op:=by simp only [Xx,ho]
 unfold Dy at hx
 split at hx
 ·split at hx
  ·rename_i v1 h1 h2
   have he:Hs (k+1)=h1:=by cases hx;rfl
   rw [he]
   obtain ⟨k1,k2,k3⟩:=Rj h2
   exact ⟨k1,fun i hi hne=>k2 i hi fun e=>absurd (htg.trans e) hne,k3⟩
  ·rename_i f args h1 h2
   have hsame:=HC h2
   rw [hsame] at hx
   have:=hk _ _ _ _ _ _ hx
   refine ⟨this.n,fun i hi _=>this.get i hi ?_,this.back⟩
   simp only [if_true]
   omega
  ·cases hx
 ·have he:Hs (k+1)=Hs k:=by simp only [Option.some.injEq,Prod.mk.injEq] at hx;exact hx.2.symm
  rw [he]
  exact ⟨Nat.le_refl _,fun _ _ _=>rfl,L6⟩
theorem Run.mono (R : Run C callf lo ops 0 E Hs V) (hk : CC callf) {k k' : Nat} (h : k ≤ k') (hn : k' ≤ ops.length) : (Hs k).n ≤ (Hs k').n := by
  induction k' with
  | zero => have : k = 0 := by omega
            subst this; exact Nat.le_refl _
  | succ j ih =>
    by_cases e : k = j + 1
    · subst e; exact Nat.le_refl _
    · exact Nat.le_trans (ih (by omega) (by omega)) (R.keep1 hk (List.getElem?_eq_getElem (show j < ops.length by omega))).1
theorem Run.stable (R : Run C callf lo ops 0 E Hs V) (hk : CC callf) {k k' : Nat} (h : k ≤ k') (hn : k' ≤ ops.length) {i : Nat} (hi : i < (Hs k).n)
    (ht : ∀ m, k ≤ m → m < k' → F3 C ops m = true → Xx C ops E m ≠ some i) : (Hs k').get i = (Hs k).get i := by
  induction k' with
  | zero => have : k = 0 := by omega
            subst this; rfl
  | succ j ih =>
    by_cases e : k = j + 1
    · subst e; rfl
    · have ho := List.getElem?_eq_getElem (show j < ops.length by omega)
      have h1 := ih (by omega) (by omega) fun m a b c => ht m a (by omega) c
      rw [(R.keep1 hk ho).2.1 i (Nat.lt_of_lt_of_le hi (R.mono hk (by omega) (by omega))) ?_, h1]
      intro ht'
      cases hm : F3 C ops j with
      | true => exact ht j (by omega) (by omega) hm ht'
      | false =>
        have : DH C.P ops[j].op = false := by simpa only [F3, ho] using hm
        simp only [Xx, ho, Wh this] at ht'
        cases ht'
theorem Run.back (R : Run C callf lo ops 0 E Hs V) (hk : CC callf) {k k' : Nat} (h : k ≤ k') (hn : k' ≤ ops.length) {i : Nat} (hi : i < (Hs k).n) {b' : Blk} (hb : (Hs k').get i = some b') :
    ∃ b, (Hs k).get i = some b ∧ b.own = b'.own := by
  induction k' generalizing b' with
  | zero => have : k = 0 := by omega
            subst this; exact ⟨b', hb, rfl⟩
  | succ j ih =>
    by_cases e : k = j + 1
    · subst e; exact ⟨b', hb, rfl⟩
    · have ho := List.getElem?_eq_getElem (show j < ops.length by omega)
      obtain ⟨b1, h1, h2⟩ := (R.keep1 hk ho).2.2 i (Nat.lt_of_lt_of_le hi (R.mono hk (by omega) (by omega))) b' hb
      obtain ⟨b0, h3, h4⟩ := ih (by omega) (by omega) h1
      exact ⟨b0, h3, h4.trans h2⟩
def bi (Hs:Nat→H) (id:Nat):Nat→Nat
 |0=>0
 |k+1=>if id<(Hs k).n then bi Hs id k else k+1
theorem aN (Hs:Nat→H) (id:Nat):∀k,bi Hs id k≤k
 |0=>Nat.le_refl _
 |k+1=>by unfold bi;split;(· exact Nat.le_succ_of_le (aN Hs id k));(· exact Nat.le_refl _)
theorem WH (Hs:Nat→H) (id:Nat):∀k,id<(Hs k).n→id<(Hs (bi Hs id k)).n
 |0,h=>h
 |k+1,h=>by
  unfold bi;split
  ·rename_i h1;exact WH Hs id k h1
  ·exact h
theorem Run.bi_min (R:Run C callf lo ops 0 E Hs V) (hk:CC callf) (id:Nat):∀k,k≤ops.length→∀j,j<bi Hs id k→¬id<(Hs j).n
 |0,_,j,h=>by simp [bi] at h
 |k+1,hn,j,h=>by
  unfold bi at h
  split at h
  ·exact R.bi_min hk id k (by omega) j h
  ·rename_i h1
   intro hc
   exact h1 (Nat.lt_of_lt_of_le hc (R.mono hk (by omega) (by omega)))
theorem Run.bi_first (R:Run C callf lo ops 0 E Hs V) (hk:CC callf) {id k:Nat} (h:id<(Hs k).n):bi Hs id ops.length≤k:=by
 apply Classical.byContradiction
 intro hc
 exact R.bi_min hk id ops.length (Nat.le_refl _) k (by omega) h
def HA (Hs:Nat→H) (n ν:Nat) (id:Nat):Option Blk:=(Hs (max ν (bi Hs id n))).get id
theorem Run.cont_old (R:Run C callf lo ops 0 E Hs V) (hk:CC callf) {ν id:Nat} (h:id<(Hs ν).n):HA Hs ops.length ν id=(Hs ν).get id:=by
 unfold HA
 rw [Nat.max_eq_left (R.bi_first hk h)]
def val (V:Nat→Value) (ops:List Oper) (v0:Value) (t:Nat) (p:Nat→Bool):Nat→Value
 |0=>v0
 |k+1=>if p k=true∧(match ops[k]? with|some o=>o.dst|none=>none)=some t then V k else val V ops v0 t p k
theorem Jb {v0:Value} {t:Nat} {p q:Nat→Bool}:∀{k:Nat},(∀j,j<k→(match ops[j]? with|some o=>o.dst|none=>none)=some t→p j=q j)→val V ops v0 t p k=val V ops v0 t q k
 |0,_=>rfl
 |k+1,h=>by
  unfold val
  rw [Jb fun j hj hd=>h j (by omega) hd]
  by_cases hd:(match ops[k]? with|some o=>o.dst|none=>none)=some t
  ·rw [h k (by omega) hd]
  ·rw [if_neg fun e=>hd e.2,if_neg fun e=>hd e.2]
theorem No {v0:Value} {t:Nat} {p:Nat→Bool} {k:Nat} (h:∀j,k≤j→(match ops[j]? with|some o=>o.dst|none=>none)=some t→p j=false):∀m,k≤m→val V ops v0 t p m=val V ops v0 t p k
 |0,hm=>by have:k=0:=(by omega);subst this;rfl
 |m+1,hm=>by
  by_cases e:k=m+1
  ·subst e;rfl
  ·rw [val,if_neg,No h m (by omega)]
   rintro ⟨h1,h2⟩
   rw [h m (by omega) h2] at h1;cases h1
theorem Run.E_len (R:Run C callf lo ops 0 E Hs V):∀k,k≤ops.length→(E k).length=(E 0).length
 |0,_=>rfl
 |k+1,hk=>by
  have ho:=List.getElem?_eq_getElem (show k<ops.length by omega)
  rw [(R.step k _ (Nat.zero_le _) ho).2]
  cases ops[k].dst with
  |none=>exact R.E_len k (by omega)
  |some d=>simp only [Fz,List.length_set];exact R.E_len k (by omega)
theorem Run.val_E (R:Run C callf lo ops 0 E Hs V) {t:Nat} (ht:t<(E 0).length):∀k,k≤ops.length→(E k).length=(E 0).length∧(E k).getD t undef=val V ops ((E 0).getD t undef) t (fun _=>true) k
 |0,_=>⟨rfl,rfl⟩
 |k+1,hk=>by
  obtain ⟨h1,h2⟩:=R.val_E ht k (by omega)
  have ho:=List.getElem?_eq_getElem (show k<ops.length by omega)
  rw [(R.step k _ (Nat.zero_le _) ho).2]
  unfold val
  simp only [ho,true_and]
  cases hd:ops[k].dst with
  |none=>exact ⟨h1,by rw [if_neg (by simp)];exact h2⟩
  |some d=>
   refine ⟨by simp only [Fz,List.length_set];exact h1,?_⟩
   by_cases e:d=t
   ·subst e
    rw [if_pos rfl]
    exact Iu (by rw [h1];exact ht)
   ·rw [if_neg (by simpa using e)]
    show ((E k).set d (V k)).getD t undef=_
    rw [LE e];exact h2
end
end Go.Vx
