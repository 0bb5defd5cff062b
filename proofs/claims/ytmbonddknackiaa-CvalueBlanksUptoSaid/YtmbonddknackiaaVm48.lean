/- Texts joined: VzBm VzBn VyBr VzBs VzBt VzDh VzDi. -/
import Derived.Test.YtmbonddknackiaaVm47
import Derived.Test.YtmbonddknackiaaVm42
import Derived.Test.YtmbonddknackiaaVm46
import Derived.Test.YtmbonddknackiaaVm44
import Derived.Test.YtmbonddknackiaaVm40
set_option linter.unusedSimpArgs false
set_option linter.unusedVariables false
section
open Go Go.Vx Go.Proofs
namespace Go.Vx.Seat
theorem Tn (t:Tok):(A4 t).kind=t.kind:=rfl
theorem R4:∀(l:List Tok) (o:List Int),(l.map A4).foldl (fun o t=>BS o t.kind) o=l.foldl (fun o t=>BS o t.kind) o
 |[],o=>rfl
 |t::l,o=>by rw [List.map_cons,List.foldl_cons,List.foldl_cons];exact R4 l _
theorem iO (l:List Tok):op (l.map A4)=op l:=R4 l []
theorem QN:∀(l:List Tok) (s:List Int×Nat×Bool),(l.map A4).foldl cB s=l.foldl cB s
 |[],s=>rfl
 |t::l,s=>by rw [List.map_cons,List.foldl_cons,List.foldl_cons];exact QN l _
theorem LQ:∀(l:List Tok) (o:List Int) (D:Nat),Ef o D (l.map A4)=Ef o D l
 |[],o,D=>rfl
 |t::l,o,D=>by rw [List.map_cons,Ef,Ef,Tn,LQ l]
theorem Jy (pre:List Tok) (t:Tok) (post:List Tok):Dp (pre.map A4) (A4 t) (post.map A4)=Dp pre t post:=by
 rw [Dp,Dp,iO,show Xy (pre.map A4)=Xy pre from QN pre _,LQ];rfl
theorem SX (pre:List Tok):I4 (pre.map A4)=I4 pre:=by
 rw [I4,I4,List.getLast?_map];cases pre.getLast?<;>rfl
theorem Xe (pre post:List Tok):Xw (pre.map A4) (post.map A4)=Xw pre post:=by
 rw [Xw,Xw,List.getLast?_map,List.map_dropLast.symm]
 cases pre.getLast? with
 |none=>rfl
 |some t=>simp only [Option.map_some];rw [Jy];rfl
theorem W7 (pre post:List Tok):XF (pre.map A4) (post.map A4)=XF pre post:=by
 cases post with
 |nil=>rfl
 |cons u r=>rw [List.map_cons,XF,XF,Jy];rfl
theorem T7 (pre run rest:List Tok):JB (pre.map A4) (run.map A4) (rest.map A4)=(JB pre run rest).map A4:=by
 have hf:(run.map A4).filter kp=(run.filter kp).map A4:=by rw [List.filter_map];rfl
 have hs:(run.map A4).find? IR=(run.find? IR).map A4:=by rw [List.find?_map];rfl
 rw [JB,JB,hs,hf]
 cases run.find? IR with
 |none=>rfl
 |some s=>
  simp only [Option.map_some]
  rw [SX,←List.map_append,←List.map_append,Xe,W7]
  split
  ·rfl
  ·split
   ·rfl
   ·rw [List.map_append];rfl
theorem KG:∀(n:Nat) (pre suf:List Tok),suf.length≤n→HI (pre.map A4) (suf.map A4)=(HI pre suf).map A4
 |n,pre,[],h=>by rw [List.map_nil,Fi,Fi];rfl
 |0,pre,t::suf,h=>by simp at h
 |n+1,pre,t::suf,h=>by
  cases hq:BK t.kind with
  |false=>
   rw [List.map_cons,Iw _ _ (show BK (A4 t).kind=false from hq),Iw _ _ hq,List.map_cons,←KG n _ suf (by simpa using h),List.map_append];rfl
  |true=>
   obtain ⟨run,rest,e,h1,h2⟩:=Qz suf
   have e':t::suf=(t::run)++rest:=by rw [e];rfl
   have hall:∀u,u∈t::run→BK u.kind=true:=fun u hu=>by rcases List.mem_cons.mp hu with rfl|hu;exact hq;exact h1 u hu
   have hall2:∀u,u∈(t::run).map A4→BK u.kind=true:=fun u hu=>by
    obtain ⟨v,hv,rfl⟩:=List.mem_map.mp hu;exact hall v hv
   have h3:∀u r,rest.map A4=u::r→BK u.kind=false:=fun u r he=>by
    cases rest with
    |nil=>cases he
    |cons v r'=>rw [List.map_cons] at he;cases he;exact h2 v r' rfl
   rw [e',List.map_append,Kk _ (by simp) hall2 h3,Kk pre (by simp) hall h2,T7,←List.map_append,KG n _ rest (by rw [e] at h;simp at h ⊢;omega),List.map_append]
def E9 (t:Tok):Bool:=AJ t.kind 17||AJ t.kind 18||AJ t.kind 19||AJ t.kind 20
def bC:Tok:=Ew ⟨#[32]⟩ 0
def cn (sp pv:Bool):List Tok→List Tok
 |[]=>[]
 |t::r=>if AJ t.kind 13=true then cn true pv r
  else if AJ t.kind 25=true then (if kp t=true then A4 t::cn sp pv r else cn sp pv r)
  else (if (sp&& !pv&& !E9 t)=true then [bC] else [])++A4 t::cn false (E9 t) r
theorem OX {k:Int} (h:BK k=true):k=13∨k=25:=by simpa [BK] using h
theorem UD (sp pv:Bool) {t:Tok} (r:List Tok) (h:BK t.kind=false):cn sp pv (t::r)=(if (sp&& !pv&& !E9 t)=true then [bC] else [])++A4 t::cn false (E9 t) r:=by
 simp only [BK,Bool.or_eq_false_iff,decide_eq_false_iff_not] at h
 rw [cn,AF h.1,AF h.2];rfl
theorem Zr (rest:List Tok) (pv:Bool):∀(run:List Tok) (sp:Bool),(∀t,t∈run→BK t.kind=true)→cn sp pv (run++rest)=(run.filter kp).map A4++cn (sp||(run.find? IR).isSome) pv rest
 |[],sp,h=>by simp
 |t::run,sp,h=>by
  have ih:=Zr rest pv run
  have hq:=h t (List.mem_cons_self ..)
  have hr:∀u,u∈run→BK u.kind=true:=fun u hu=>h u (List.mem_cons_of_mem _ hu)
  rcases OX hq with k|k
  ·have h1:kp t=false:=by rw [kp,k];rfl
   have h2:IR t=true:=by rw [IR,k];rfl
   have h3:AJ t.kind 13=true:=by rw [k];rfl
   rw [List.cons_append,cn,h3,if_pos rfl,ih true hr,List.filter_cons_of_neg (by rw [h1];simp),List.find?_cons_of_pos h2]
   simp
  ·have h2:IR t=false:=by rw [IR,k];rfl
   have h3:AJ t.kind 13=false:=by rw [k];rfl
   have h4:AJ t.kind 25=true:=by rw [k];rfl
   rw [List.cons_append,cn,h3,h4,if_neg (by simp),if_pos rfl,List.find?_cons_of_neg (by rw [h2];simp)]
   cases h5:kp t with
   |true=>rw [if_pos rfl,ih sp hr,List.filter_cons_of_pos h5];rfl
   |false=>rw [if_neg (by simp),ih sp hr,List.filter_cons_of_neg (by rw [h5];simp)]
theorem W0 (l:List Tok):(l.map A4).filter Im=(l.filter Im).map A4:=by rw [List.filter_map];rfl
theorem Ox:∀(l:List Tok) (sp pv:Bool),(cn sp pv l).filter Im=(l.filter Im).map A4
 |[],sp,pv=>rfl
 |t::l,sp,pv=>by
  cases hq:BK t.kind with
  |true=>
   rw [List.filter_cons_of_neg (by simp [Im,hq])]
   rcases OX hq with k|k
   ·have h3:AJ t.kind 13=true:=by rw [k];rfl
    rw [cn,h3,if_pos rfl];exact Ox l _ _
   ·have h3:AJ t.kind 13=false:=by rw [k];rfl
    have h4:AJ t.kind 25=true:=by rw [k];rfl
    rw [cn,h3,h4,if_neg (by simp),if_pos rfl]
    split
    ·rw [List.filter_cons_of_neg (by show ¬(!BK t.kind)=true;rw [hq];simp)];exact Ox l _ _
    ·exact Ox l _ _
  |false=>
   rw [UD sp pv l hq,List.filter_append,List.filter_cons_of_pos (by show (!BK t.kind)=true;rw [hq];rfl),List.filter_cons_of_pos (by show (!BK t.kind)=true;rw [hq];rfl),Ox l]
   have:(if (sp&& !pv&& !E9 t)=true then [bC] else []).filter Im=[]:=by split<;>rfl
   rw [this];rfl
theorem SO {t:Tok} (h:E9 t=true):Ns t.kind=true∧OA t.kind=true:=by
 simp only [E9,Bool.or_eq_true] at h
 rcases h with ((h|h)|h)|h<;>(rw [AQ h];decide)
def gC (pre:List Tok):Bool:=match pre.getLast? with|some t=>E9 t|none=>true
theorem jN {pre:List Tok} (h:gC pre=true) (post:List Tok):Xw pre post=true:=by
 unfold gC at h
 unfold Xw
 cases k:pre.getLast? with
 |none=>rfl
 |some t=>rw [k] at h;simp only at h ⊢;rw [(SO h).1];rfl
theorem aW (pre rest:List Tok):JB pre [] rest=[]:=rfl
theorem MA (pre:List Tok) {run rest:List Tok} (hq:∀t,t∈run→BK t.kind=true) (hn:∀u r,rest=u::r→BK u.kind=false):HI pre (run++rest)=JB pre run rest++HI (pre++run) rest:=by
 cases run with
 |nil=>rw [List.nil_append,aW,List.nil_append,List.append_nil]
 |cons t run=>exact Kk pre (by simp) hq hn
theorem ZT {t:Tok} (h:t.start=0):A4 t=t:=by cases t;simp only at h;subst h;rfl
theorem NN {l:List Tok} (h:∀t,t∈l→t.start=0):l.map A4=l:=by
 induction l with
 |nil=>rfl
 |cons t l ih=>rw [List.map_cons,ZT (h t (List.mem_cons_self ..)),ih fun u hu=>h u (List.mem_cons_of_mem _ hu)]
theorem cD:∀(n:Nat) (pre pre' suf:List Tok),suf.length≤n→(∀t,t∈pre++suf→t.start=0∧Cd t=false)→pre.filter Im=pre'.filter Im→pre.getLast?=pre'.getLast?→
  HI pre' (cn false (gC pre) suf)=HI pre suf:=by
 intro n
 induction n with
 |zero=>
  intro pre pre' suf h _ _ _
  have:suf=[]:=List.eq_nil_of_length_eq_zero (by omega)
  subst this
  rw [cn,Fi,Fi]
 |succ n ih=>
  intro pre pre' suf h hst hf hl
  obtain ⟨run,rest,e,h1,h2⟩:=Qz suf
  have hkq:=iY run
  have hst1:∀t,t∈run→t.start=0:=fun t ht=>(hst t (by rw [e];simp [ht])).1
  have hkm:(run.filter kp).map A4=run.filter kp:=NN fun t ht=>hst1 t (List.mem_filter.mp ht).1
  have hline:I4 pre=false:=by
   unfold I4
   cases k:pre.getLast? with
   |none=>rfl
   |some t=>exact (hst t (List.mem_append_left _ (List.mem_of_getLast? k))).2
  have hline':I4 pre'=false:=by rw [I4,←hl];exact hline
  have hkk:(run.filter kp).filter kp=run.filter kp:=by rw [List.filter_filter];simp
  rw [e,MA pre h1 h2,Zr rest (gC pre) run false h1,hkm,Bool.false_or]
  cases hr:rest with
  |nil=>
   subst hr
   rw [cn,List.append_nil,Fi,List.append_nil]
   have:HI pre' (run.filter kp)=JB pre' (run.filter kp) []++HI (pre'++run.filter kp) []:=by
    have:=MA pre' (run:=run.filter kp) (rest:=[]) hkq (fun _ _ h=>by cases h)
    rwa [List.append_nil] at this
   rw [this,Fi,List.append_nil,JB,Py]
   simp only
   rw [hkk,JB]
   cases run.find? IR with
   |none=>rfl
   |some s=>
    simp only
    rw [hline,if_neg (by simp),show XF (pre++run) []=true from rfl,Bool.or_true,if_pos rfl]
  |cons u r=>
   subst hr
   have hu:=h2 u r rfl
   have hust:=hst u (by rw [e];simp)
   rw [UD _ _ r hu,ZT hust.1]
   generalize hS:(if ((run.find? IR).isSome&& !gC pre&& !E9 u)=true then [bC] else [])=S
   have hSq:∀t,t∈S→BK t.kind=true:=fun t ht=>by
    rw [←hS] at ht
    split at ht
    ·rw [List.mem_singleton.mp ht];rfl
    ·simp at ht
   have hrq:∀t,t∈run.filter kp++S→BK t.kind=true:=fun t ht=>by
    rcases List.mem_append.mp ht with h|h
    ·exact hkq t h
    ·exact hSq t h
   have hSk:S.filter kp=[]:=by
    rw [←hS];split<;>rfl
   have hnq1:=K6 hrq
   have hnq2:=K6 h1
   have hnqk:=K6 hkq
   have hnqS:=K6 hSq
   rw [←List.append_assoc,MA pre' hrq (fun v w he=>by cases he;exact hu),Iw _ _ hu,Iw _ _ hu]
   have hcn:(cn false (E9 u) r).filter Im=r.filter Im:=by
    rw [Ox,←W0,NN fun t ht=>(hst t (by rw [e];simp [ht])).1]
   have hB:Xw pre' ((run.filter kp++S)++u::cn false (E9 u) r)=Xw pre (run++u::r):=by
    unfold Xw
    rw [←hl]
    rcases N8 pre with rfl|⟨p,t,rfl⟩
    ·simp
    ·rcases N8 pre' with rfl|⟨p',t',rfl⟩
     ·simp at hl
     ·have ht:t=t':=by simpa using hl
      subst ht
      have hp:p.filter Im=p'.filter Im:=by
       rw [List.filter_append,List.filter_append] at hf
       exact List.append_cancel_right hf
      simp only [List.getLast?_append,List.getLast?_singleton,Option.some_or,List.dropLast_concat]
      rw [Mm hp.symm]
      simp only [List.filter_append,hnqk,hnqS,hnq2,List.nil_append]
      rw [List.filter_cons_of_pos (by simp [Im,hu]),List.filter_cons_of_pos (by simp [Im,hu]),hcn]
   have hA:XF (pre'++(run.filter kp++S)) (u::cn false (E9 u) r)=XF (pre++run) (u::r):=by
    simp only [XF]
    rw [Mm (pre:=pre'++(run.filter kp++S)) (pre':=pre++run) _ hcn]
    simp only [List.filter_append,hnqk,hnqS,hnq2,hf,List.append_nil]
   have hrun:JB pre' (run.filter kp++S) (u::cn false (E9 u) r)=JB pre run (u::r):=by
    rw [JB,JB,List.find?_append,Py,List.filter_append,hkk,hSk,List.append_nil]
    simp only [Option.none_or]
    cases hsp:run.find? IR with
    |none=>
     rw [hsp] at hS
     have:S=[]:=by rw [←hS];rfl
     rw [this];rfl
    |some s=>
     rw [hsp] at hS
     simp only [Option.isSome_some,Bool.true_and] at hS
     have hs0:s.start=0:=hst1 s (List.mem_of_find?_eq_some hsp)
     simp only
     rw [hline,if_neg (by simp)]
     cases hpv:gC pre with
     |true=>
      rw [hpv] at hS
      have:S=[]:=by rw [←hS];rfl
      rw [this,jN hpv,Bool.true_or,if_pos rfl];rfl
     |false=>
      rw [hpv] at hS
      cases hpt:E9 u with
      |true=>
       rw [hpt] at hS
       have:S=[]:=by rw [←hS];rfl
       have hga:XF (pre++run) (u::r)=true:=by simp only [XF];rw [(SO hpt).2];rfl
       rw [this,hga,Bool.or_true,if_pos rfl];rfl
      |false=>
       rw [hpt] at hS hB hA
       have hS':S=[bC]:=by rw [←hS];rfl
       rw [hS'] at hB hA ⊢
       rw [List.find?_cons_of_pos (by rfl)]
       simp only
       rw [hline',if_neg (by simp),hB,hA,hs0]
       rfl
   rw [hrun]
   congr 2
   have hpv2:gC (pre++run++[u])=E9 u:=by unfold gC;rw [List.getLast?_concat]
   rw [←hpv2]
   refine ih (pre++run++[u]) (pre'++(run.filter kp++S)++[u]) r ?_ (fun t ht=>hst t ?_) ?_ ?_
   ·rw [e] at h;simp only [List.length_append,List.length_cons] at h;omega
   ·rw [e];simp only [List.mem_append,List.mem_cons,List.not_mem_nil,or_false] at ht ⊢
    rcases ht with ((ht|ht)|ht)|ht
    ·exact .inl ht
    ·exact .inr (.inl ht)
    ·exact .inr (.inr (.inl ht))
    ·exact .inr (.inr (.inr ht))
   ·simp only [List.filter_append,hnqk,hnqS,hnq2,hf,List.append_nil]
   ·rw [List.getLast?_concat,List.getLast?_concat]
theorem mJ {l m:List Tok} (hl:∀t,t∈l→Cd t=false) (hm:∀t,t∈m→Cd t=false) (h:cn false true (l.map A4)=cn false true (m.map A4)):(Xt l).map A4=(Xt m).map A4:=by
 have key:∀k:List Tok,(∀t,t∈k→Cd t=false)→(Xt k).map A4=HI [] (cn false true (k.map A4)):=fun k hk=>by
  have h1:=cD (k.map A4).length [] [] (k.map A4) (Nat.le_refl _) (fun t ht=>by
   obtain ⟨u,hu,rfl⟩:=List.mem_map.mp ht
   exact ⟨rfl,hk u hu⟩) rfl rfl
  rw [cG,←KG k.length [] k (Nat.le_refl _)]
  exact h1.symm
 rw [key l hl,key m hm,h]
end Go.Vx.Seat
end
section
open Go Go.Vx Go.Proofs
namespace Go.Vx.Seat
def Zk (t:Tok) (pre post:List Int):Prop:=
 (E9 t=true∧(pre=[]∨pre=[32])∧(post=[]∨post=[10]))∨
 (t.kind=13∧pre=[]∧(post=[]∨post=[32]∨post=[47,42,97,42,47]∨post=[32,47,42,32,98,32,42,47,9]))∨
 (E9 t=false∧t.kind≠13∧pre=[]∧post=[])
abbrev fQ:=List ((Tok×List Int)×(List Int×List Int))
def mt (m:fQ):List Rn:=m.flatMap fun p=>rn p.2.1++(rn p.1.2++rn p.2.2)
theorem eG (p:(Tok×List Int)×(List Int×List Int)) (m:fQ):mt (p::m)=rn p.2.1++(rn p.1.2++(rn p.2.2++mt m)):=by
 show (rn p.2.1++(rn p.1.2++rn p.2.2))++mt m=_
 simp
theorem ND {x:Rn} {r:List Rn} (hx:x.a=0) {t:Tok} {r':List Rn} (h:Ak (x::r)=(t,r')) (h0:t.start=0):BO (x::r)=t::BO r':=by
 rw [Eq,hx,h]
 rw [GC h0]
theorem FJ {c:Int} (hc:Ad c=true) (r:List Rn):∃s,BO (⟨c,0⟩::r)=AM 13 s::BO (Aq r):=⟨_,ND rfl (Jg r hc) rfl⟩
theorem Mh {sp pv:Bool} {s:ByteArray} (ts:List Tok):cn sp pv (AM 13 s::ts)=cn true pv ts:=by
 rw [cn,if_pos (by rfl)]
theorem JS (pv:Bool) (X:List Rn) (hX:∀x,x∈X→x.a=0):cn true pv (BO (Aq X))=cn true pv (BO X):=by
 cases X with
 |nil=>rfl
 |cons x r=>
  cases h:Ad x.r with
  |false=>rw [FQ (Y:=x::r) h]
  |true=>
   have hx:x.a=0:=hX x (List.mem_cons_self ..)
   have e1:x=⟨x.r,0⟩:=by cases x;simp only at hx;rw [hx]
   rw [Ff h]
   obtain ⟨s,e⟩:=FJ h r
   rw [e1,e,Mh]
theorem bF (sp:Bool):∀(l:List Tok),cn sp true l=cn false true l
 |[]=>rfl
 |t::l=>by
  rw [cn,cn]
  split
  ·rfl
  ·split
   ·split
    ·rw [bF sp l]
    ·exact bF sp l
   ·simp
theorem M3 (sp pv:Bool) {t:Tok} (h:E9 t=true) (h2:BK t.kind=false) (l:List Tok):cn sp pv (t::l)=A4 t::cn false true l:=by
 rw [UD _ _ _ h2,h];simp
theorem S6 {t:Tok} (h:E9 t=true):BK t.kind=false:=by
 simp only [E9,Bool.or_eq_true] at h
 rcases h with ((h|h)|h)|h<;>(rw [AQ h];decide)
theorem cQ {l:List Int}:∀x,x∈rn l→x.a=0:=fun x hx=>by
 obtain ⟨r,_,rfl⟩:=List.mem_map.mp hx;rfl
theorem jA (m:fQ):∀x,x∈mt m→x.a=0:=fun x hx=>by
 obtain ⟨p,_,h⟩:=List.mem_flatMap.mp hx
 rcases List.mem_append.mp h with h|h
 ·exact cQ x h
 ·rcases List.mem_append.mp h with h|h<;>exact cQ x h
theorem gY {l:List Int} {Y:List Rn} (h:∀x,x∈Y→x.a=0):∀x,x∈rn l++Y→x.a=0:=fun x hx=>by
 rcases List.mem_append.mp hx with k|k
 ·exact cQ x k
 ·exact h x k
theorem Tk (l:List Int) (X:List Rn) (h:Bc (rn l++⟨42,0⟩::⟨47,0⟩::X)=(rn l,X)):BO (rn (47::42::(l++[42,47]))++X)=AM 25 (AO (enc l))::BO X:=by
 have hd2:(rn (47::42::(l++[42,47]))++X).drop 2=rn l++⟨42,0⟩::⟨47,0⟩::X:=by
  show rn (l++[42,47])++X=_
  rw [Cu,List.append_assoc];rfl
 have h1:=TC (l:=rn (47::42::(l++[42,47]))++X) rfl
 rw [hd2,h,OC] at h1
 exact ND (x:=⟨47,0⟩) rfl h1 rfl
theorem iT (X:List Rn):Bc (rn [97]++⟨42,0⟩::⟨47,0⟩::X)=(rn [97],X):=rfl
theorem iJ (X:List Rn):Bc (rn [32,98,32]++⟨42,0⟩::⟨47,0⟩::X)=(rn [32,98,32],X):=rfl
theorem VY {sp pv:Bool} {l:List Int} (h:Ia (AO (enc l))=false) (ts:List Tok):cn sp pv (AM 25 (AO (enc l))::ts)=cn sp pv ts:=by
 have hk:kp (AM 25 (AO (enc l)))=false:=by
  show (AJ 25 25&&Ia (AO (enc l)))=false
  rw [h];rfl
 rw [cn,if_neg (by show ¬AJ 25 13=true;decide),if_pos (by rfl),hk,if_neg (by simp)]
theorem jL:Ia (AO (enc [97]))=false:=by decide
theorem kF:Ia (AO (enc [32,98,32]))=false:=by decide
theorem cJ {post:List Int} (hp:post=[]∨post=[32]∨post=[47,42,97,42,47]∨post=[32,47,42,32,98,32,42,47,9]) (pv:Bool) (X:List Rn) (hX:∀x,x∈X→x.a=0):cn true pv (BO (Aq (rn post++X)))=cn true pv (BO X):=by
 rw [JS pv _ (gY hX)]
 rcases hp with rfl|rfl|rfl|rfl
 ·rfl
 ·obtain ⟨s,e⟩:=FJ (c:=32) rfl X
  show cn true pv (BO (⟨32,0⟩::X))=_
  rw [e,Mh,JS pv X hX]
 ·rw [show ([47,42,97,42,47]:List Int)=47::42::([97]++[42,47]) from rfl,Tk [97] X (iT X),VY jL]
 ·have e0:rn [32,47,42,32,98,32,42,47,9]++X=⟨32,0⟩::(rn (47::42::([32,98,32]++[42,47]))++(⟨9,0⟩::X)):=rfl
  obtain ⟨s,e⟩:=FJ (c:=32) rfl (rn (47::42::([32,98,32]++[42,47]))++(⟨9,0⟩::X))
  obtain ⟨s2,e2⟩:=FJ (c:=9) rfl X
  rw [e0,e,Mh,FQ (by rfl),Tk [32,98,32] _ (iJ _),VY kF,e2,Mh,JS pv X hX]
theorem lY {t:Tok} {P:List Int} (h:Pc t P) (hk:t.kind=13):∃c s,P=[c]∧Ad c=true∧t=AM 13 s∧∀X,(Ak (rn P++X))=(t,Aq X):=by
 cases h with
 |nl=>exact ⟨10,_,rfl,rfl,rfl,fun X=>Jg (x:=⟨10,0⟩) X rfl⟩
 |sp=>exact ⟨32,_,rfl,rfl,rfl,fun X=>Jg (x:=⟨32,0⟩) X rfl⟩
 |num hP h=>rcases h.un with ⟨q,_⟩|⟨q,_⟩|⟨q,_⟩<;>omega
 |@sign c hc=>have:=Fx hc;have e:Bp c=13:=hk;omega
 |ident=>exact absurd (show (1:Int)=13 from hk) (by decide)
 |func=>exact absurd (show (2:Int)=13 from hk) (by decide)
 |«at»=>exact absurd (show (3:Int)=13 from hk) (by decide)
 |hash=>exact absurd (show (4:Int)=13 from hk) (by decide)
 |str=>exact absurd (show (5:Int)=13 from hk) (by decide)
 |url=>exact absurd (show (7:Int)=13 from hk) (by decide)
 |comm=>exact absurd (show (25:Int)=13 from hk) (by decide)
 |cdo=>exact absurd (show (14:Int)=13 from hk) (by decide)
 |cdc=>exact absurd (show (15:Int)=13 from hk) (by decide)
theorem iB {t:Tok} {c:Int} (h:mZ t c) (hk:t.kind≠13):Ad c=false:=by
 have key:∀k:Int,(DB k=true∨k=92)→Ad k=false:=fun k hk=>by
  cases hb:Ad k with
  |false=>rfl
  |true=>
   exfalso
   obtain ⟨b1,b2⟩:=Rk hb
   rcases hk with q|q
   ·rw [b1] at q;cases q
   ·exact b2 q
 rcases h with ⟨_,h,_⟩|⟨_,h⟩|⟨_,h⟩|⟨_,h⟩|⟨k,_⟩|⟨_,h⟩|⟨_,_,h⟩
 ·exact key c h
 ·rcases h with h|h|h|h
  ·have:=C6 h;exact E5 (by omega) (by omega) (by omega)
  all_goals exact E5 (by omega) (by omega) (by omega)
 ·exact E5 (by omega) (by omega) (by omega)
 ·exact E5 (by omega) (by omega) (by omega)
 ·exact absurd k hk
 ·exact E5 (by omega) (by omega) (by omega)
 ·exact E5 (by omega) (by omega) (by omega)
theorem dD {t:Tok} {P:List Int} (h:Pc t P) (hk:E9 t=true):∃c,P=[c]∧Ad c=false∧t=AM (Bp c) ⟨#[]⟩∧∀X,Ak (rn P++X)=(t,X):=by
 have hk':t.kind=17∨t.kind=18∨t.kind=19∨t.kind=20:=by
  simp only [E9,Bool.or_eq_true] at hk
  rcases hk with ((k|k)|k)|k
  ·exact .inl (AQ k)
  ·exact .inr (.inl (AQ k))
  ·exact .inr (.inr (.inl (AQ k)))
  ·exact .inr (.inr (.inr (AQ k)))
 cases h with
 |@sign c hc=>
  obtain ⟨_,_,h3⟩:=Fx hc
  exact ⟨c,rfl,E5 (by omega) (by omega) (by omega),rfl,fun X=>Th X hc⟩
 |num hP h=>rcases h.un with ⟨q,_⟩|⟨q,_⟩|⟨q,_⟩<;>omega
 |nl=>rcases hk' with h|h|h|h<;>exact absurd (show (13:Int)=_ from h) (by decide)
 |sp=>rcases hk' with h|h|h|h<;>exact absurd (show (13:Int)=_ from h) (by decide)
 |ident=>rcases hk' with h|h|h|h<;>exact absurd (show (1:Int)=_ from h) (by decide)
 |func=>rcases hk' with h|h|h|h<;>exact absurd (show (2:Int)=_ from h) (by decide)
 |«at»=>rcases hk' with h|h|h|h<;>exact absurd (show (3:Int)=_ from h) (by decide)
 |hash=>rcases hk' with h|h|h|h<;>exact absurd (show (4:Int)=_ from h) (by decide)
 |str=>rcases hk' with h|h|h|h<;>exact absurd (show (5:Int)=_ from h) (by decide)
 |url=>rcases hk' with h|h|h|h<;>exact absurd (show (7:Int)=_ from h) (by decide)
 |comm=>rcases hk' with h|h|h|h<;>exact absurd (show (25:Int)=_ from h) (by decide)
 |cdo=>rcases hk' with h|h|h|h<;>exact absurd (show (14:Int)=_ from h) (by decide)
 |cdc=>rcases hk' with h|h|h|h<;>exact absurd (show (15:Int)=_ from h) (by decide)
theorem MG (H:RdOk):∀m:fQ,Wb (m.map Prod.fst)→(∀p,p∈m→Zk p.1.1 p.2.1 p.2.2∧p.1.1.start=0)→(CZ (m.map Prod.fst)).length≤180000000→BO (CZ (m.map Prod.fst))=(m.map Prod.fst).map Prod.fst→
  Al (CZ (m.map Prod.fst)) (mt m)∧∀sp pv,cn sp pv (BO (mt m))=cn sp pv ((m.map Prod.fst).map Prod.fst)
 |[],_,_,_,_=>⟨.nil rfl,fun sp pv=>by show cn sp pv (BO [])=_;rw [C9];rfl⟩
 |⟨⟨t,P⟩,pre,post⟩::m,hr,hau,hlen,h=>by
  have hp:Pc t P:=hr.1
  obtain ⟨ha,h0⟩:=hau _ (List.mem_cons_self ..)
  simp only at ha h0
  have hau':∀p,p∈m→Zk p.1.1 p.2.1 p.2.2∧p.1.1.start=0:=fun p hp=>hau p (List.mem_cons_of_mem _ hp)
  have hlen':(CZ (m.map Prod.fst)).length≤180000000:=by
   rw [List.map_cons,EC,List.length_append] at hlen;omega
  have hr':Wb ((t,P)::m.map Prod.fst):=hr
  have hcat:CZ ((((t,P),(pre,post))::m).map Prod.fst)=rn P++CZ (m.map Prod.fst):=rfl
  have hmt:=eG ((t,P),(pre,post)) m
  simp only at hmt
  obtain ⟨c,w,hPc,hc1⟩:=hp.head
  by_cases hk:t.kind=13
  ·obtain ⟨c',s,hP,hcb,ht,hone⟩:=lY hp hk
   have hpost:pre=[]∧(post=[]∨post=[32]∨post=[47,42,97,42,47]∨post=[32,47,42,32,98,32,42,47,9]):=by
    rcases ha with ⟨k,_⟩|⟨_,k⟩|⟨_,k,_⟩
    ·have:=S6 k;rw [hk] at this;exact absurd this (by decide)
    ·exact k
    ·exact absurd hk k
   obtain ⟨hpre,hpost⟩:=hpost
   subst hpre
   have hbl:Aq (CZ (m.map Prod.fst))=CZ (m.map Prod.fst):=by
    cases hm:m.map Prod.fst with
    |nil=>rfl
    |cons q m'=>
     have hq:=hr'.2.1 q (by rw [hm];rfl)
     have hrm:=hr'.2.2
     rw [hm] at hrm
     obtain ⟨c2,w2,e2,hc2⟩:=hrm.1.head
     refine FQ ?_
     have hh:hd (CZ (q::m'))=c2:=by rw [EC,e2];rfl
     rw [hh]
     exact iB hc2 (hq.a4 hk)
   obtain ⟨r,h1,h2⟩:=Qi hp h0 h
   have h1':Ak (rn P++CZ (m.map Prod.fst))=(t,r):=h1
   rw [hone,hbl] at h1'
   have hlex:BO (CZ (m.map Prod.fst))=(m.map Prod.fst).map Prod.fst:=by rw [(B1 h1').2];exact h2
   obtain ⟨i1,i2⟩:=MG H m hr'.2.2 hau' hlen' hlex
   rw [hmt,show rn ([]:List Int)++(rn P++(rn post++mt m))=rn P++(rn post++mt m) from rfl,hcat]
   refine ⟨.same hp rfl rfl (by rw [hone]) (by rw [hone]),fun sp pv=>?_⟩
   have e1:BO (rn P++(rn post++mt m))=t::BO (Aq (rn post++mt m)):=by
    have:=hone (rn post++mt m)
    rw [hP] at this ⊢
    exact ND (x:=⟨c',0⟩) rfl this h0
   rw [e1]
   show cn sp pv (t::BO (Aq (rn post++mt m)))=cn sp pv (t::(m.map Prod.fst).map Prod.fst)
   rw [ht,Mh,Mh,cJ hpost pv _ (jA m),i2]
  ·obtain ⟨hX,hlex⟩:=X5 H hr' h0 hk hlen h
   obtain ⟨i1,i2⟩:=MG H m hr'.2.2 hau' hlen' hlex
   have hfst:(Ak (rn P++CZ (m.map Prod.fst))).1=t:=by
    obtain ⟨r,h1,_⟩:=Qi hp h0 h
    have h1':Ak (rn P++CZ (m.map Prod.fst))=(t,r):=h1
    rw [h1']
   have at0:∀Y Z,Ak (rn P++Y)=(t,Z)→BO (rn P++Y)=t::BO Z:=fun Y Z hY=>by
    rw [hPc] at hY ⊢
    exact ND (x:=⟨c,0⟩) rfl hY h0
   by_cases hpt:E9 t=true
   ·obtain ⟨c',hP,hcb,ht,hone⟩:=dD hp hpt
    have hq:=S6 hpt
    have hpp:(pre=[]∨pre=[32])∧(post=[]∨post=[10]):=by
     rcases ha with ⟨_,k⟩|⟨k,_⟩|⟨k,_⟩
     ·exact k
     ·exact absurd k hk
     ·rw [hpt] at k;cases k
    obtain ⟨hpre,hpost⟩:=hpp
    have ha0:∀x,x∈rn post++mt m→x.a=0:=gY (jA m)
    have e2:cn false true (BO (rn post++mt m))=cn false true ((m.map Prod.fst).map Prod.fst):=by
     rcases hpost with rfl|rfl
     ·exact i2 false true
     ·obtain ⟨s,e⟩:=FJ (c:=10) rfl (mt m)
      show cn false true (BO (⟨10,0⟩::mt m))=_
      rw [e,Mh,JS true _ (jA m),bF,i2]
    have e3:∀sp pv,cn sp pv (BO (rn P++(rn post++mt m)))=cn sp pv (t::(m.map Prod.fst).map Prod.fst):=fun sp pv=>by
     rw [at0 _ _ (hone _),M3 sp pv hpt hq,M3 sp pv hpt hq,e2]
    rw [hmt,hcat]
    rcases hpre with rfl|rfl
    ·exact ⟨.same hp rfl rfl (by rw [hone]) (by show (Ak (rn P++(rn post++mt m))).1=t;rw [hone]),e3⟩
    ·refine ⟨.blank rfl,fun sp pv=>?_⟩
     obtain ⟨s,e⟩:=FJ (c:=32) rfl (rn P++(rn post++mt m))
     show cn sp pv (BO (⟨32,0⟩::(rn P++(rn post++mt m))))=cn sp pv (t::(m.map Prod.fst).map Prod.fst)
     rw [e,Mh,FQ (by rw [hP];exact hcb),e3,M3 _ _ hpt hq,M3 _ _ hpt hq]
   ·have hpp:pre=[]∧post=[]:=by
     rcases ha with ⟨k,_⟩|⟨k,_⟩|⟨_,_,k⟩
     ·exact absurd k hpt
     ·exact absurd k hk
     ·exact k
    obtain ⟨rfl,rfl⟩:=hpp
    have hx:=hX (mt m) i1
    rw [hmt,hcat,show rn ([]:List Int)++(rn P++(rn []++mt m))=rn P++mt m from rfl]
    refine ⟨.same hp rfl rfl hfst (by rw [hx]),fun sp pv=>?_⟩
    rw [at0 _ _ hx]
    show cn sp pv (t::BO (mt m))=cn sp pv (t::(m.map Prod.fst).map Prod.fst)
    rw [cn,cn]
    rw [i2,i2,i2]
end Go.Vx.Seat
end
section
open Go Go.Vx Go.Proofs
set_option maxRecDepth 10000
set_option maxHeartbeats 8000000
namespace Go.Vx.Seat
attribute [local irreducible] Rg Rt Ro Ri Rc Ds Dt Dw Dx Rw Rl Rd Av An kf
def nJ (l:List UInt8):Prop:=l=[]∨l=[43]∨l=[45]
structure NumS (L sg A B F C s2 E:List UInt8):Prop where
 eq:L=sg++(A++(B++C))
 sg:nJ sg
 dA:JM A
 dF:JM F
 hB:(B=[]∧F=[])∨(B=46::F∧F≠[])
 hC:(C=[]∧s2=[]∧E=[])∨(∃e:UInt8,C=e::(s2++E)∧(e.toNat=101∨e.toNat=69)∧E≠[])
 s2:nJ s2
 dE:JM E
 ne:A≠[]∨F≠[]
def Wx (s2 E:List UInt8):Int:=if s2=[45] then - val E else val E
theorem ZE {c:UInt8}:bE c=true↔48≤c.toNat∧c.toNat≤57:=by
 simp only [bE,Bool.and_eq_true]
 constructor
 ·rintro ⟨a,b⟩;have:=Bl a;have:=Bl b;omega
 ·rintro ⟨a,b⟩;exact ⟨AH (by omega),AH (by omega)⟩
theorem NW {A R:List UInt8} (hA:JM A) (hR:∀c,R[0]?=some c→bE c=false):LL (A++R)=A.length:=by
 induction A with
 |nil=>
  cases R with
  |nil=>rfl
  |cons c R=>rw [List.nil_append,LL,List.takeWhile_cons_of_neg (by rw [hR c rfl];simp)]
 |cons c A ih=>
  rw [List.cons_append,LL,List.takeWhile_cons_of_pos (ZE.mpr (hA c (List.mem_cons_self ..))),List.length_cons,List.length_cons]
  congr 1
  exact ih fun x hx=>hA x (List.mem_cons_of_mem _ hx)
theorem SV {A:List UInt8} (hA:JM A):LL A=A.length:=by
 have:=NW (R:=[]) hA (fun c h=>by simp at h)
 rwa [List.append_nil] at this
theorem JY (s:ByteArray) (i:Nat) (hs:(AA s).length≤20000000000) (hi:i≤(AA s).length):AS C1 115 [yd (.string s),yd (.int .i64 (i:Nat))] fun y=>∃k:Nat,y=yd (.int .i64 (k:Nat))∧k=i+LL ((AA s).drop i):=(XY s i hs hi).mono fun y hy=>⟨_,hy,rfl⟩
theorem OW {l:List UInt8} (h:JM l) (hn:l≠[]):val (DJ l)=val l∧Dg (DJ l)∧If (DJ l):=by
 induction l with
 |nil=>exact absurd rfl hn
 |cons c l ih=>
  cases l with
  |nil=>
   refine ⟨rfl,⟨by simp [DJ],h⟩,?_⟩
   rw [DJ]
   by_cases k:c=48
   ·exact .inl (by rw [k])
   ·refine .inr ?_
    rw [E4 h]
    exact ⟨⟨by simp,h⟩,fun d hd e=>by simp at hd;subst hd;exact k (by rw [←UInt8.toNat_inj];exact e)⟩
   all_goals simp
  |cons d l=>
   have h':JM (d::l):=fun x hx=>h x (List.mem_cons_of_mem _ hx)
   rw [DJ]
   cases k:AJ ((c.toNat:Nat):Int) 48 with
   |true=>
    rw [if_pos rfl]
    obtain ⟨i1,i2,i3⟩:=ih h' (by simp)
    refine ⟨?_,i2,i3⟩
    rw [i1]
    have:=LJ [c] (d::l)
    rw [show [c]++d::l=c::d::l from rfl] at this
    rw [this]
    have hc:=AQ k
    have:val [c]=0:=by show 10*0+dv c=0;unfold dv;omega
    rw [this];omega
   |false=>
    rw [if_neg (by simp)]
    refine ⟨rfl,⟨by simp,h⟩,.inr ?_⟩
    rw [E4 h]
    exact ⟨⟨by simp,h⟩,fun x hx e=>by simp at hx;subst hx;exact A7 k (by omega)⟩
theorem Hp (p:List UInt8) (c:UInt8) (h:c.toNat=48):IO (p++[c])=IO p:=by
 have:zB c=true:=by rw [zB,beq_iff_eq,←UInt8.toNat_inj];exact h
 unfold IO
 rw [List.reverse_append,show [c].reverse++p.reverse=c::p.reverse from rfl,List.dropWhile_cons_of_pos this]
theorem XA (p:List UInt8) (c:UInt8) (h:c.toNat≠48):IO (p++[c])=p++[c]:=by
 have:zB c=false:=by
  rw [zB,beq_eq_false_iff_ne];intro e;rw [e] at h;exact h rfl
 unfold IO
 rw [List.reverse_append,show [c].reverse++p.reverse=c::p.reverse from rfl,List.dropWhile_cons_of_neg (by rw [this];simp)]
 simp
theorem PZ:∀l:List UInt8,IO (DJ l)=Ie l
 |[]=>rfl
 |[c]=>by
  rw [DJ,Ie,IK]
  ·by_cases k:zB c=true
   ·rw [List.dropWhile_cons_of_pos k,List.dropWhile_nil]
    have:c.toNat=48:=by rw [zB,beq_iff_eq] at k;rw [k];rfl
    exact Hp [] c this
   ·rw [List.dropWhile_cons_of_neg k]
  all_goals simp
 |c::d::l=>by
  rw [DJ]
  cases k:AJ ((c.toNat:Nat):Int) 48 with
  |true=>
   rw [if_pos rfl,PZ (d::l)]
   have:zB c=true:=by rw [zB,beq_iff_eq,←UInt8.toNat_inj];have:=AQ k;exact (by omega:c.toNat=48)
   rw [Ie,Ie,IK,IK,List.dropWhile_cons_of_pos this]
  |false=>
   rw [if_neg (by simp)]
   have:zB c=false:=by rw [zB,beq_eq_false_iff_ne];intro e;rw [e] at k;exact absurd k (by decide)
   rw [Ie,IK,List.dropWhile_cons_of_neg (by rw [this];simp)]
theorem NumS.head {s:ByteArray} {sg A B F C s2 E:List UInt8} (h:NumS (AA s) sg A B F C s2 E):∃c,(AA s)[0]?=some c∧(sg=[]→c.toNat≠43∧c.toNat≠45)∧(sg=[43]→c.toNat=43)∧(sg=[45]→c.toNat=45):=by
 rw [h.eq]
 rcases h.sg with rfl|rfl|rfl
 ·cases hA:A with
  |nil=>
   rcases h.hB with ⟨rfl,rfl⟩|⟨rfl,_⟩
   ·rcases h.ne with k|k
    ·exact absurd hA k
    ·exact absurd rfl k
   ·exact ⟨46,rfl,fun _=>by decide,fun e=>(by cases e),fun e=>(by cases e)⟩
  |cons c A'=>
   have:=h.dA c (by rw [hA];exact List.mem_cons_self ..)
   exact ⟨c,rfl,fun _=>by omega,fun e=>(by cases e),fun e=>(by cases e)⟩
 ·exact ⟨43,rfl,fun e=>(by cases e),fun _=>rfl,fun e=>(by cases e)⟩
 ·exact ⟨45,rfl,fun e=>(by cases e),fun e=>(by cases e),fun _=>rfl⟩
def oH (n:Nat) (sg A F s2 E:List UInt8) (y:YV):Prop:=∃dg ex:ByteArray,y=.tup [.agg (nm (sg==[45]) dg ex),yd (.bool true)]∧AA dg=Ie (A++F)∧(AA dg=[]→AA ex=[])∧(AA dg≠[]→FA (AA ex)=Wx s2 E+(((DJ (A++F)).length:Int) - (Ie (A++F)).length - F.length))∧(AA ex).length≤2*n+20
theorem Ui (s : ByteArray) {sg A B F C s2 E : List UInt8} (hs : (AA s).length ≤ 800000000) (h : NumS (AA s) sg A B F C s2 E) : AS C1 103 [yd (.string s)] (oH (AA s).length sg A F s2 E) := by
  have i00 : Int.toNat 0 = 0 := rfl
  have hle : (AA s).length = sg.length + A.length + B.length + C.length := by rw [h.eq]; simp; omega
  have hBl : F.length ≤ B.length := by rcases h.hB with ⟨e1, e2⟩ | ⟨e1, e2⟩ <;> (rw [e1]; simp [e2])
  have hCnd : ∀ c, C[0]? = some c → bE c = false ∧ c.toNat ≠ 46 := fun c hc => by
    rcases h.hC with ⟨e, _⟩ | ⟨e, e1, e2, _⟩
    · rw [e] at hc; simp at hc
    · rw [e1] at hc
      simp at hc
      subst hc
      refine ⟨?_, by omega⟩
      cases k : bE e with
      | false => rfl
      | true => have := ZE.mp k; omega
  have hBnd : ∀ c, (B ++ C)[0]? = some c → bE c = false := fun c hc => by
    rcases h.hB with ⟨e, _⟩ | ⟨e, _⟩
    · rw [e, List.nil_append] at hc; exact (hCnd c hc).1
    · rw [e] at hc; simp at hc; subst hc; decide
  refine Pf (by rfl) (by rfl) f7 (by rfl) ?_
  simp only [Try.f103, List.length_cons, List.length_nil, List.replicate, List.cons_append, List.nil_append]
  simp -implicitDefEqProofs only [↓yP, yT, Nat.reduceAdd, Nat.reduceLeDiff, reduceCtorEq, AY.eq_1]
  refine HH (fun e st => ∃ (i : Nat) (neg : Bool), (∃ g : Nat → YV, e = [yd (.string s), g 1, .c (.ptr 0 0 0 0), g 3, yd (.int .i64 (i : Nat)), .c (.ptr 1 0 0 0), g 6, g 7, g 8, g 9, g 10, g 11, g 12, g 13, g 14, g 15, g 16, g 17, g 18, g 19, g 20, g 21, g 22, g 23, g 24, g 25, g 26, g 27, g 28, g 29, g 30, g 31, g 32, g 33, g 34, g 35, g 36, g 37, g 38, g 39, g 40, g 41, g 42, g 43, g 44, g 45, g 46, g 47, g 48, g 49, g 50, g 51, g 52, g 53, g 54, g 55, g 56, g 57, g 58, g 59, g 60, g 61, g 62, g 63, g 64, g 65, g 66, g 67, g 68, g 69, g 70, g 71, g 72, g 73, g 74, g 75, g 76, g 77, g 78, g 79, g 80, g 81, g 82, g 83, g 84, g 85, g 86, g 87, g 88, g 89, g 90, g 91, g 92, g 93, g 94, g 95, g 96, g 97, g 98, g 99, g 100, g 101, g 102, g 103, g 104, g 105, g 106, g 107, g 108, g 109, g 110, g 111, g 112, g 113, g 114, g 115, g 116, g 117, g 118, g 119, g 120, g 121, g 122, g 123, g 124, g 125, g 126, g 127, g 128, g 129, g 130, g 131, g 132, g 133, g 134, g 135, g 136, g 137, g 138, g 139, g 140, g 141, g 142, g 143, g 144, g 145, g 146, g 147, g 148, g 149, g 150, g 151, g 152, g 153, g 154, g 155, g 156, g 157, g 158, g 159, g 160, g 161, g 162, g 163, g 164, g 165, g 166, g 167, g 168, g 169, g 170, g 171, g 172, g 173, g 174, g 175, g 176, g 177]) ∧ st = [.box (nm false ⟨#[]⟩ ⟨#[]⟩), .box (nm neg ⟨#[]⟩ ⟨#[]⟩)] ∧ i = sg.length ∧ neg = (sg == [45])) ?_ ?_
  · have w01 : AG .i64 (0 + 1) = ((0 + 1 : Nat) : Int) := rfl
    obtain ⟨c, hc, hcd⟩ := h.head
    have t1 : AN ((AA s).length : Nat) 0 = false := AE (by have := (List.getElem?_eq_some_iff.mp hc).1; omega)
    have c1 : (0 : Int) ≤ 0 := by omega
    rcases h.sg with e | e | e
    · have h1 : AJ (c.toNat : Nat) 43 = false := AF (by have := hcd.1 e; omega)
      have h2 : AJ (c.toNat : Nat) 45 = false := AF (by have := hcd.1 e; omega)
      simp -implicitDefEqProofs only [↓yP, yT, AV.eq_1, t1, c1, hc, h1, h2, Ae, i00]
      exact ⟨0, false, BB rfl, rfl, by rw [e]; rfl, by rw [e]; rfl⟩
    · have h1 : AJ (c.toNat : Nat) 43 = true := by rw [hcd.2.1 e]; rfl
      have h2 : AJ (c.toNat : Nat) 45 = false := by rw [hcd.2.1 e]; rfl
      simp -implicitDefEqProofs only [↓yP, yT, Nat.reduceAdd, Nat.reduceLeDiff, AV.eq_1, t1, c1, hc, h1, h2, w01, Ae, i00]
      exact ⟨1, false, BB rfl, rfl, by rw [e]; rfl, by rw [e]; rfl⟩
    · have h1 : AJ (c.toNat : Nat) 43 = false := by rw [hcd.2.2 e]; rfl
      have h2 : AJ (c.toNat : Nat) 45 = true := by rw [hcd.2.2 e]; rfl
      simp -implicitDefEqProofs only [↓yP, yT, Nat.reduceAdd, Nat.reduceLeDiff, AV.eq_1, t1, c1, hc, h1, h2, w01, Ae, i00]
      exact ⟨1, true, BB rfl, rfl, by rw [e]; rfl, by rw [e]; rfl⟩
  rintro e st ⟨i, neg, ⟨g, rfl⟩, rfl, hi, hneg⟩
  have hdi : (AA s).drop i = A ++ (B ++ C) := by rw [hi, h.eq]; simp
  simp -implicitDefEqProofs only [↓yP, yT]
  refine AB (JY s i (by omega) (by omega)) (by rfl) fun y hy => ?_
  obtain ⟨k, rfl, hk⟩ := hy
  rw [hdi, NW h.dA hBnd] at hk
  have hdk : (AA s).drop k = B ++ C := by rw [hk, ← List.drop_drop, hdi]; simp
  have c1 : (0 : Int) ≤ (i : Nat) := by omega
  have c2 : ((i : Nat) : Int) ≤ (k : Nat) := by omega
  have c3 : ((k : Nat) : Int) ≤ ((AA s).length : Nat) := by omega
  have hda : ((AA s).drop i).take (k - i) = A := by rw [hdi, hk, Nat.add_sub_cancel_left]; simp
  simp -implicitDefEqProofs only [↓yP, yT, AY.eq_1, Aw.eq_1, c1, c2, c3, hda]
  obtain ⟨dd, hdd, hddA⟩ : ∃ dd : ByteArray, AI A = dd ∧ AA dd = A := ⟨_, rfl, rfl⟩
  rw [hdd]
  have w1 : AG .i64 ((k : Int) + 1) = ((k + 1 : Nat) : Int) := AK (by omega)
  refine HH (fun e st => ∃ (k2 : Nat) (part : ByteArray), (∃ g : Nat → YV, e = [yd (.string s), g 1, .c (.ptr 0 0 0 0), g 3, g 4, .c (.ptr 1 0 0 0), yd (.int .i64 (k2 : Nat)), yd (.string dd), yd (.string part), g 9, g 10, g 11, g 12, g 13, g 14, g 15, g 16, g 17, g 18, g 19, g 20, g 21, g 22, g 23, g 24, g 25, g 26, g 27, g 28, g 29, g 30, g 31, g 32, g 33, g 34, g 35, g 36, g 37, g 38, g 39, g 40, g 41, g 42, g 43, g 44, g 45, g 46, g 47, g 48, g 49, g 50, g 51, g 52, g 53, g 54, g 55, g 56, g 57, g 58, g 59, g 60, g 61, g 62, g 63, g 64, g 65, g 66, g 67, g 68, g 69, g 70, g 71, g 72, g 73, g 74, g 75, g 76, g 77, g 78, g 79, g 80, g 81, g 82, g 83, g 84, g 85, g 86, g 87, g 88, g 89, g 90, g 91, g 92, g 93, g 94, g 95, g 96, g 97, g 98, g 99, g 100, g 101, g 102, g 103, g 104, g 105, g 106, g 107, g 108, g 109, g 110, g 111, g 112, g 113, g 114, g 115, g 116, g 117, g 118, g 119, g 120, g 121, g 122, g 123, g 124, g 125, g 126, g 127, g 128, g 129, g 130, g 131, g 132, g 133, g 134, g 135, g 136, g 137, g 138, g 139, g 140, g 141, g 142, g 143, g 144, g 145, g 146, g 147, g 148, g 149, g 150, g 151, g 152, g 153, g 154, g 155, g 156, g 157, g 158, g 159, g 160, g 161, g 162, g 163, g 164, g 165, g 166, g 167, g 168, g 169, g 170, g 171, g 172, g 173, g 174, g 175, g 176, g 177]) ∧ st = [.box (nm false ⟨#[]⟩ ⟨#[]⟩), .box (nm neg ⟨#[]⟩ ⟨#[]⟩)] ∧ k2 = k + B.length ∧ AA part = F) ?_ ?_
  · by_cases h0 : k < (AA s).length
    · obtain ⟨c, hc⟩ := get_lt h0
      have hcB : (B ++ C)[0]? = some c := by rw [← hdk, List.getElem?_drop]; exact hc
      have t1 : AN ((AA s).length : Nat) (k : Nat) = false := AE (by omega)
      have c4 : (0 : Int) ≤ (k : Nat) := by omega
      rcases h.hB with ⟨eB, eF⟩ | ⟨eB, eF⟩
      · have h1 : AJ (c.toNat : Nat) 46 = false := by
          rw [eB, List.nil_append] at hcB
          exact AF (by have := (hCnd c hcB).2; omega)
        simp -implicitDefEqProofs only [↓yP, yT, AV.eq_1, t1, c4, hc, h1, Ae]
        exact ⟨k, ⟨#[]⟩, BB rfl, by rw [eB]; rfl, by rw [eF]; rfl⟩
      · have h1 : AJ (c.toNat : Nat) 46 = true := by
          rw [eB] at hcB; simp at hcB; rw [← hcB]; rfl
        have hdk1 : (AA s).drop (k + 1) = F ++ C := by rw [← List.drop_drop, hdk, eB]; rfl
        have hBF : B.length = F.length + 1 := by rw [eB]; rfl
        simp -implicitDefEqProofs only [↓yP, yT, AV.eq_1, t1, c4, hc, h1, w1]
        refine AB (JY s (k + 1) (by omega) (by omega)) (by rfl) fun y hy => ?_
        obtain ⟨j, rfl, hj⟩ := hy
        rw [hdk1, NW h.dF (fun c hc => (hCnd c hc).1)] at hj
        have c5 : (0 : Int) ≤ ((k + 1 : Nat) : Int) := by omega
        have c6 : ((k + 1 : Nat) : Int) ≤ (j : Nat) := by omega
        have c7 : ((j : Nat) : Int) ≤ ((AA s).length : Nat) := by omega
        have hdf : ((AA s).drop (k + 1)).take (j - (k + 1)) = F := by rw [hdk1, hj, Nat.add_sub_cancel_left]; simp
        have h2 : (AA (AI F) == AA ⟨#[]⟩) = false := by
          rw [beq_eq_false_iff_ne, AD]; intro e; exact eF (by rw [e]; rfl)
        simp -implicitDefEqProofs only [↓yP, yT, Aw.eq_1, w1, c5, c6, c7, At, hdf, h2, Ae]
        exact ⟨j, AI F, BB rfl, by omega, by rw [AD]⟩
    · have t1 : AN ((AA s).length : Nat) (k : Nat) = true := AH (by omega)
      have hB0 : B = [] := List.eq_nil_of_length_eq_zero (by omega)
      have hF0 : F = [] := List.eq_nil_of_length_eq_zero (by omega)
      simp -implicitDefEqProofs only [↓yP, yT, t1, Ae]
      exact ⟨k, ⟨#[]⟩, BB rfl, by rw [hB0]; rfl, by rw [hF0]; rfl⟩
  clear w1 c1 c2 c3 hda
  rintro e st ⟨k', part, ⟨g, rfl⟩, rfl, hk', hpF⟩
  have hdk' : (AA s).drop k' = C := by rw [hk', ← List.drop_drop, hdk]; simp
  have hkl' : k' = sg.length + A.length + B.length := by omega
  clear hdk hdi
  clear hk
  generalize hkk : k' = k at *
  have hAl : A.length ≤ (AA s).length := by omega
  have hFl : F.length ≤ (AA s).length := by omega
  have b1 : (AA dd).length + (AA part).length ≤ 140737488355328 := by rw [hddA, hpF]; omega
  have h2 : (AA (AI (AA dd ++ AA part)) == AA ⟨#[]⟩) = false := by
    rw [beq_eq_false_iff_ne, AD, hddA, hpF]
    intro e
    have := List.append_eq_nil_iff.mp (show A ++ F = [] by rw [e]; rfl)
    rcases h.ne with q | q
    · exact q this.1
    · exact q this.2
  simp -implicitDefEqProofs only [↓yP, yT, AY.eq_1, Bk, b1, At, h2]
  have w1 : AG .i64 ((k : Int) + 1) = ((k + 1 : Nat) : Int) := AK (by omega)
  refine HH (fun e st => ∃ (k3 : Nat) (ex : ByteArray), (∃ g : Nat → YV, e = [yd (.string s), g 1, .c (.ptr 0 0 0 0), g 3, g 4, .c (.ptr 1 0 0 0), yd (.int .i64 (k3 : Nat)), yd (.string dd), yd (.string part), g 9, yd (.string ex), g 11, g 12, g 13, g 14, g 15, g 16, g 17, g 18, g 19, g 20, g 21, g 22, g 23, g 24, g 25, g 26, g 27, g 28, g 29, g 30, g 31, g 32, g 33, g 34, g 35, g 36, g 37, g 38, g 39, g 40, g 41, g 42, g 43, g 44, g 45, g 46, g 47, g 48, g 49, g 50, g 51, g 52, g 53, g 54, g 55, g 56, g 57, g 58, g 59, g 60, g 61, g 62, g 63, g 64, g 65, g 66, g 67, g 68, g 69, g 70, g 71, g 72, g 73, g 74, g 75, g 76, g 77, g 78, g 79, g 80, g 81, g 82, g 83, g 84, g 85, g 86, g 87, g 88, g 89, g 90, g 91, g 92, g 93, g 94, g 95, g 96, g 97, g 98, g 99, g 100, g 101, g 102, g 103, g 104, g 105, g 106, g 107, g 108, g 109, g 110, g 111, g 112, g 113, g 114, g 115, g 116, g 117, g 118, g 119, g 120, g 121, g 122, g 123, g 124, g 125, g 126, g 127, g 128, g 129, g 130, g 131, g 132, g 133, g 134, g 135, g 136, g 137, g 138, g 139, g 140, g 141, g 142, g 143, g 144, g 145, g 146, g 147, g 148, g 149, g 150, g 151, g 152, g 153, g 154, g 155, g 156, g 157, g 158, g 159, g 160, g 161, g 162, g 163, g 164, g 165, g 166, g 167, g 168, g 169, g 170, g 171, g 172, g 173, g 174, g 175, g 176, g 177]) ∧ st = [.box (nm false ⟨#[]⟩ ⟨#[]⟩), .box (nm neg ⟨#[]⟩ ⟨#[]⟩)] ∧ k3 = (AA s).length ∧ (AA ex).length ≤ (AA s).length + 1 ∧ If (AA ex) ∧ FA (AA ex) = Wx s2 E) ?_ ?_
  · rcases h.hC with ⟨eC, es, eE⟩ | ⟨ec, eC, hec, hE⟩
    · have h0 : k = (AA s).length := by rw [hle, eC]; simp; omega
      have t1 : AN ((AA s).length : Nat) (k : Nat) = true := AH (by omega)
      simp -implicitDefEqProofs only [↓yP, yT, t1, Ae]
      refine ⟨k, _, BB rfl, h0, by show 1 ≤ _; omega, .inl rfl, ?_⟩
      rw [es, eE]; decide
    · have hCl : C.length = 1 + s2.length + E.length := by rw [eC]; simp; omega
      have hlen : (AA s).length = k + 1 + s2.length + E.length := by omega
      have h0 : k < (AA s).length := by omega
      have hdk1 : (AA s).drop (k + 1) = s2 ++ E := by rw [← List.drop_drop, hdk', eC]; rfl
      obtain ⟨c, hc⟩ := get_lt h0
      have hcc : c = ec := by
        have : C[0]? = some c := by rw [← hdk', List.getElem?_drop]; exact hc
        rw [eC] at this; simp at this; exact this.symm
      subst hcc
      have t1 : AN ((AA s).length : Nat) (k : Nat) = false := AE (by omega)
      have c4 : (0 : Int) ≤ (k : Nat) := by omega
      rcases hec with hec | hec
      · have h1 : AJ (c.toNat : Nat) 101 = true := by rw [hec]; rfl
        simp -implicitDefEqProofs only [↓yP, yT, AY.eq_1, AV.eq_1, t1, c4, hc, h1, w1]
        refine HH (fun e st => ∃ (k2 : Nat) (mi : Bool), (∃ g : Nat → YV, e = [yd (.string s), g 1, .c (.ptr 0 0 0 0), g 3, g 4, .c (.ptr 1 0 0 0), yd (.int .i64 (k2 : Nat)), yd (.string dd), yd (.string part), g 9, g 10, yd (.bool mi), g 12, g 13, g 14, g 15, g 16, g 17, g 18, g 19, g 20, g 21, g 22, g 23, g 24, g 25, g 26, g 27, g 28, g 29, g 30, g 31, g 32, g 33, g 34, g 35, g 36, g 37, g 38, g 39, g 40, g 41, g 42, g 43, g 44, g 45, g 46, g 47, g 48, g 49, g 50, g 51, g 52, g 53, g 54, g 55, g 56, g 57, g 58, g 59, g 60, g 61, g 62, g 63, g 64, g 65, g 66, g 67, g 68, g 69, g 70, g 71, g 72, g 73, g 74, g 75, g 76, g 77, g 78, g 79, g 80, g 81, g 82, g 83, g 84, g 85, g 86, g 87, g 88, g 89, g 90, g 91, g 92, g 93, g 94, g 95, g 96, g 97, g 98, g 99, g 100, g 101, g 102, g 103, g 104, g 105, g 106, g 107, g 108, g 109, g 110, g 111, g 112, g 113, g 114, g 115, g 116, g 117, g 118, g 119, g 120, g 121, g 122, g 123, g 124, g 125, g 126, g 127, g 128, g 129, g 130, g 131, g 132, g 133, g 134, g 135, g 136, g 137, g 138, g 139, g 140, g 141, g 142, g 143, g 144, g 145, g 146, g 147, g 148, g 149, g 150, g 151, g 152, g 153, g 154, g 155, g 156, g 157, g 158, g 159, g 160, g 161, g 162, g 163, g 164, g 165, g 166, g 167, g 168, g 169, g 170, g 171, g 172, g 173, g 174, g 175, g 176, g 177]) ∧ st = [.box (nm false ⟨#[]⟩ ⟨#[]⟩), .box (nm neg ⟨#[]⟩ ⟨#[]⟩)] ∧ k2 = k + 1 + s2.length ∧ mi = (s2 == [45])) ?_ ?_
        · clear t1 c4 hc
          have w2 : AG .i64 (((k + 1 : Nat) : Int) + 1) = ((k + 2 : Nat) : Int) := AK (by omega)
          have hE1 := List.length_pos_iff.mpr hE
          have h3 : k + 1 < (AA s).length := by rw [hlen]; omega
          obtain ⟨c, hc⟩ := get_lt h3
          have hcE : (s2 ++ E)[0]? = some c := by rw [← hdk1, List.getElem?_drop]; exact hc
          have t1 : AN ((AA s).length : Nat) ((k + 1 : Nat) : Int) = false := AE (by omega)
          have c1 : (0 : Int) ≤ ((k + 1 : Nat) : Int) := by omega
          rcases h.s2 with e | e | e
          · have hcd : 48 ≤ c.toNat ∧ c.toNat ≤ 57 := by rw [e, List.nil_append] at hcE; exact h.dE c (List.mem_of_getElem? hcE)
            have h1 : AJ (c.toNat : Nat) 43 = false := AF (by omega)
            have h2 : AJ (c.toNat : Nat) 45 = false := AF (by omega)
            simp -implicitDefEqProofs only [↓yP, yT, AV.eq_1, t1, c1, hc, h1, h2, Ae]
            exact ⟨k + 1, _, BB rfl, by rw [e]; rfl, by rw [e]; rfl⟩
          · have hcc : c.toNat = 43 := by rw [e] at hcE; simp at hcE; rw [← hcE]; rfl
            have h1 : AJ (c.toNat : Nat) 43 = true := by rw [hcc]; rfl
            have h2 : AJ (c.toNat : Nat) 45 = false := by rw [hcc]; rfl
            simp -implicitDefEqProofs only [↓yP, yT, AV.eq_1, t1, c1, hc, h1, h2, w2, Ae]
            exact ⟨k + 2, _, BB rfl, by rw [e]; rfl, by rw [e]; rfl⟩
          · have hcc : c.toNat = 45 := by rw [e] at hcE; simp at hcE; rw [← hcE]; rfl
            have h1 : AJ (c.toNat : Nat) 43 = false := by rw [hcc]; rfl
            have h2 : AJ (c.toNat : Nat) 45 = true := by rw [hcc]; rfl
            simp -implicitDefEqProofs only [↓yP, yT, AV.eq_1, t1, c1, hc, h1, h2, w2, Ae]
            exact ⟨k + 2, _, BB rfl, by rw [e]; rfl, by rw [e]; rfl⟩
        rintro e st ⟨k2, mi, ⟨g, rfl⟩, rfl, hk2, hmi⟩
        have hdk2 : (AA s).drop k2 = E := by rw [hk2, ← List.drop_drop, hdk1]; simp
        have hE1 := List.length_pos_iff.mpr hE
        simp -implicitDefEqProofs only [↓yP, yT]
        refine AB (JY s k2 (by omega) (by rw [hlen]; omega)) (by rfl) fun y hy => ?_
        obtain ⟨j, rfl, hj⟩ := hy
        rw [hdk2, SV h.dE] at hj
        have hjl : j = (AA s).length := by rw [hlen, hj]; omega
        have c5 : (0 : Int) ≤ ((k2 : Nat) : Int) := by omega
        have c6 : ((k2 : Nat) : Int) ≤ (j : Nat) := by omega
        have c7 : ((j : Nat) : Int) ≤ ((AA s).length : Nat) := by omega
        have h7 : AJ (j : Nat) (k2 : Nat) = false := AF (by omega)
        have hcut : ((AA s).drop k2).take (j - k2) = E := by rw [hdk2, List.take_of_length_le (by omega)]
        simp -implicitDefEqProofs only [↓yP, yT, Aw.eq_1, h7, c5, c6, c7, hcut]
        refine AB (GT _ (by rw [AD]; omega)) (by rfl) fun y hy => ?_
        subst hy
        rw [AD]
        obtain ⟨q1, q2, q3⟩ := OW h.dE hE
        have q4 := NE E
        cases mi with
        | false =>
          have hs2 : s2 ≠ [45] := by intro e; rw [e] at hmi; exact absurd hmi (by decide)
          simp -implicitDefEqProofs only [↓yP, yT, Ae]
          refine ⟨j, _, BB rfl, hjl, ?_, ?_, ?_⟩
          · rw [AD]; omega
          · rw [AD]; exact q3
          · rw [AD, E6 q2.2, q1, Wx, if_neg hs2]
        | true =>
          have hs2 : s2 = [45] := by simpa using hmi.symm
          cases h8 : (AA (AI (DJ E)) == AA ⟨#[48]⟩) with
          | true =>
            have h48 : DJ E = [48] := eq_of_beq h8
            simp -implicitDefEqProofs only [↓yP, yT, AU, h8, Ae]
            refine ⟨j, _, BB rfl, hjl, ?_, ?_, ?_⟩
            · rw [AD]; omega
            · rw [AD]; exact q3
            · rw [AD, E6 q2.2, q1, Wx, if_pos hs2, ← q1, h48]; decide
          | false =>
            have b3 : (AA ⟨#[45]⟩).length + (AA (AI (DJ E))).length ≤ 140737488355328 := by
              have : (AA ⟨#[45]⟩).length = 1 := rfl
              rw [AD]; omega
            simp -implicitDefEqProofs only [↓yP, yT, AU, h8, Bk, b3, Ae]
            refine ⟨j, _, BB rfl, hjl, ?_, ?_, ?_⟩
            · rw [AD, AD, List.length_append]; have : (AA ⟨#[45]⟩).length = 1 := rfl; omega
            · rw [AD, AD, show AA ⟨#[45]⟩ ++ DJ E = 45 :: DJ E from rfl]
              rcases q3 with q3 | q3
              · rw [AD, q3] at h8; exact absurd h8 (by decide)
              · rw [E4 q2.2] at q3; exact .inr q3
            · rw [AD, AD, show AA ⟨#[45]⟩ ++ DJ E = 45 :: DJ E from rfl, FR, q1, Wx, if_pos hs2]
      · have h1 : AJ (c.toNat : Nat) 101 = false := by rw [hec]; rfl
        have h2' : AJ (c.toNat : Nat) 69 = true := by rw [hec]; rfl
        simp -implicitDefEqProofs only [↓yP, yT, AY.eq_1, AV.eq_1, t1, c4, hc, h1, h2', w1]
        refine HH (fun e st => ∃ (k2 : Nat) (mi : Bool), (∃ g : Nat → YV, e = [yd (.string s), g 1, .c (.ptr 0 0 0 0), g 3, g 4, .c (.ptr 1 0 0 0), yd (.int .i64 (k2 : Nat)), yd (.string dd), yd (.string part), g 9, g 10, yd (.bool mi), g 12, g 13, g 14, g 15, g 16, g 17, g 18, g 19, g 20, g 21, g 22, g 23, g 24, g 25, g 26, g 27, g 28, g 29, g 30, g 31, g 32, g 33, g 34, g 35, g 36, g 37, g 38, g 39, g 40, g 41, g 42, g 43, g 44, g 45, g 46, g 47, g 48, g 49, g 50, g 51, g 52, g 53, g 54, g 55, g 56, g 57, g 58, g 59, g 60, g 61, g 62, g 63, g 64, g 65, g 66, g 67, g 68, g 69, g 70, g 71, g 72, g 73, g 74, g 75, g 76, g 77, g 78, g 79, g 80, g 81, g 82, g 83, g 84, g 85, g 86, g 87, g 88, g 89, g 90, g 91, g 92, g 93, g 94, g 95, g 96, g 97, g 98, g 99, g 100, g 101, g 102, g 103, g 104, g 105, g 106, g 107, g 108, g 109, g 110, g 111, g 112, g 113, g 114, g 115, g 116, g 117, g 118, g 119, g 120, g 121, g 122, g 123, g 124, g 125, g 126, g 127, g 128, g 129, g 130, g 131, g 132, g 133, g 134, g 135, g 136, g 137, g 138, g 139, g 140, g 141, g 142, g 143, g 144, g 145, g 146, g 147, g 148, g 149, g 150, g 151, g 152, g 153, g 154, g 155, g 156, g 157, g 158, g 159, g 160, g 161, g 162, g 163, g 164, g 165, g 166, g 167, g 168, g 169, g 170, g 171, g 172, g 173, g 174, g 175, g 176, g 177]) ∧ st = [.box (nm false ⟨#[]⟩ ⟨#[]⟩), .box (nm neg ⟨#[]⟩ ⟨#[]⟩)] ∧ k2 = k + 1 + s2.length ∧ mi = (s2 == [45])) ?_ ?_
        · clear t1 c4 hc
          have w2 : AG .i64 (((k + 1 : Nat) : Int) + 1) = ((k + 2 : Nat) : Int) := AK (by omega)
          have hE1 := List.length_pos_iff.mpr hE
          have h3 : k + 1 < (AA s).length := by rw [hlen]; omega
          obtain ⟨c, hc⟩ := get_lt h3
          have hcE : (s2 ++ E)[0]? = some c := by rw [← hdk1, List.getElem?_drop]; exact hc
          have t1 : AN ((AA s).length : Nat) ((k + 1 : Nat) : Int) = false := AE (by omega)
          have c1 : (0 : Int) ≤ ((k + 1 : Nat) : Int) := by omega
          rcases h.s2 with e | e | e
          · have hcd : 48 ≤ c.toNat ∧ c.toNat ≤ 57 := by rw [e, List.nil_append] at hcE; exact h.dE c (List.mem_of_getElem? hcE)
            have h1 : AJ (c.toNat : Nat) 43 = false := AF (by omega)
            have h2 : AJ (c.toNat : Nat) 45 = false := AF (by omega)
            simp -implicitDefEqProofs only [↓yP, yT, AV.eq_1, t1, c1, hc, h1, h2, Ae]
            exact ⟨k + 1, _, BB rfl, by rw [e]; rfl, by rw [e]; rfl⟩
          · have hcc : c.toNat = 43 := by rw [e] at hcE; simp at hcE; rw [← hcE]; rfl
            have h1 : AJ (c.toNat : Nat) 43 = true := by rw [hcc]; rfl
            have h2 : AJ (c.toNat : Nat) 45 = false := by rw [hcc]; rfl
            simp -implicitDefEqProofs only [↓yP, yT, AV.eq_1, t1, c1, hc, h1, h2, w2, Ae]
            exact ⟨k + 2, _, BB rfl, by rw [e]; rfl, by rw [e]; rfl⟩
          · have hcc : c.toNat = 45 := by rw [e] at hcE; simp at hcE; rw [← hcE]; rfl
            have h1 : AJ (c.toNat : Nat) 43 = false := by rw [hcc]; rfl
            have h2 : AJ (c.toNat : Nat) 45 = true := by rw [hcc]; rfl
            simp -implicitDefEqProofs only [↓yP, yT, AV.eq_1, t1, c1, hc, h1, h2, w2, Ae]
            exact ⟨k + 2, _, BB rfl, by rw [e]; rfl, by rw [e]; rfl⟩
        rintro e st ⟨k2, mi, ⟨g, rfl⟩, rfl, hk2, hmi⟩
        have hdk2 : (AA s).drop k2 = E := by rw [hk2, ← List.drop_drop, hdk1]; simp
        have hE1 := List.length_pos_iff.mpr hE
        simp -implicitDefEqProofs only [↓yP, yT]
        refine AB (JY s k2 (by omega) (by rw [hlen]; omega)) (by rfl) fun y hy => ?_
        obtain ⟨j, rfl, hj⟩ := hy
        rw [hdk2, SV h.dE] at hj
        have hjl : j = (AA s).length := by rw [hlen, hj]; omega
        have c5 : (0 : Int) ≤ ((k2 : Nat) : Int) := by omega
        have c6 : ((k2 : Nat) : Int) ≤ (j : Nat) := by omega
        have c7 : ((j : Nat) : Int) ≤ ((AA s).length : Nat) := by omega
        have h7 : AJ (j : Nat) (k2 : Nat) = false := AF (by omega)
        have hcut : ((AA s).drop k2).take (j - k2) = E := by rw [hdk2, List.take_of_length_le (by omega)]
        simp -implicitDefEqProofs only [↓yP, yT, Aw.eq_1, h7, c5, c6, c7, hcut]
        refine AB (GT _ (by rw [AD]; omega)) (by rfl) fun y hy => ?_
        subst hy
        rw [AD]
        obtain ⟨q1, q2, q3⟩ := OW h.dE hE
        have q4 := NE E
        cases mi with
        | false =>
          have hs2 : s2 ≠ [45] := by intro e; rw [e] at hmi; exact absurd hmi (by decide)
          simp -implicitDefEqProofs only [↓yP, yT, Ae]
          refine ⟨j, _, BB rfl, hjl, ?_, ?_, ?_⟩
          · rw [AD]; omega
          · rw [AD]; exact q3
          · rw [AD, E6 q2.2, q1, Wx, if_neg hs2]
        | true =>
          have hs2 : s2 = [45] := by simpa using hmi.symm
          cases h8 : (AA (AI (DJ E)) == AA ⟨#[48]⟩) with
          | true =>
            have h48 : DJ E = [48] := eq_of_beq h8
            simp -implicitDefEqProofs only [↓yP, yT, AU, h8, Ae]
            refine ⟨j, _, BB rfl, hjl, ?_, ?_, ?_⟩
            · rw [AD]; omega
            · rw [AD]; exact q3
            · rw [AD, E6 q2.2, q1, Wx, if_pos hs2, ← q1, h48]; decide
          | false =>
            have b3 : (AA ⟨#[45]⟩).length + (AA (AI (DJ E))).length ≤ 140737488355328 := by
              have : (AA ⟨#[45]⟩).length = 1 := rfl
              rw [AD]; omega
            simp -implicitDefEqProofs only [↓yP, yT, AU, h8, Bk, b3, Ae]
            refine ⟨j, _, BB rfl, hjl, ?_, ?_, ?_⟩
            · rw [AD, AD, List.length_append]; have : (AA ⟨#[45]⟩).length = 1 := rfl; omega
            · rw [AD, AD, show AA ⟨#[45]⟩ ++ DJ E = 45 :: DJ E from rfl]
              rcases q3 with q3 | q3
              · rw [AD, q3] at h8; exact absurd h8 (by decide)
              · rw [E4 q2.2] at q3; exact .inr q3
            · rw [AD, AD, show AA ⟨#[45]⟩ ++ DJ E = 45 :: DJ E from rfl, FR, q1, Wx, if_pos hs2]
  clear w1
  rintro e st ⟨k3, ex, ⟨g, rfl⟩, rfl, hk3, hel, heR, hev⟩
  have t1 : AJ (k3 : Nat) ((AA s).length : Nat) = true := by rw [hk3]; exact CV _
  have wx : IntKind.wrap .i64 (0 - ((AA part).length : Nat)) = 0 - ((AA part).length : Nat) := by rw [IntKind.wrap_i64, hpF]; omega
  simp -implicitDefEqProofs only [↓yP, yT, AY.eq_1, t1, Bk, b1]
  refine AB (GT _ (by rw [AD, List.length_append, hddA, hpF]; omega)) (by rfl) fun y hy => ?_
  subst hy
  rw [AD, hddA, hpF]
  have hal := NE (A ++ F)
  rw [List.length_append] at hal
  simp -implicitDefEqProofs only [↓yP, yT, AY.eq_1, wx]
  refine Ah (fun d e st => ∃ (al : ByteArray) (x : Int), e = ([Tp, Tp, .c (.ptr 0 0 0 0), Tp, Tp, .c (.ptr 1 0 0 0), Tp, Tp, Tp, Tp, yd (.string ex), Tp, Tp, yd (.string al), yd (.int .i64 x), Tp, Tp, Tp, Tp, Tp, Tp, Tp, Tp, Tp, Tp, Tp, Tp, Tp, Tp, Tp, Tp, Tp, Tp, Tp, Tp, Tp, Tp, Tp, Tp, Tp, Tp, Tp, Tp, Tp, Tp, Tp, Tp, Tp, Tp, Tp, Tp, Tp, Tp, Tp, Tp, Tp, Tp, Tp, Tp, Tp, Tp, Tp, Tp, Tp, Tp, Tp, Tp, Tp, Tp, Tp, Tp, Tp, Tp, Tp, Tp, Tp, Tp, Tp, Tp, Tp, Tp, Tp, Tp, Tp, Tp, Tp, Tp, Tp, Tp, Tp, Tp, Tp, Tp, Tp, Tp, Tp, Tp, Tp, Tp, Tp, Tp, Tp, Tp, Tp, Tp, Tp, Tp, Tp, Tp, Tp, Tp, Tp, Tp, Tp, Tp, Tp, Tp, Tp, Tp, Tp, Tp, Tp, Tp, Tp, Tp, Tp, Tp, Tp, Tp, Tp, Tp, Tp, Tp, Tp, Tp, Tp, Tp, Tp, Tp, Tp, Tp, Tp, Tp, Tp, Tp, Tp, Tp, Tp, Tp, Tp, Tp, Tp, Tp, Tp, Tp, Tp, Tp, Tp, Tp, Tp, Tp, Tp, Tp, Tp, Tp, Tp, Tp, Tp, Tp, Tp, Tp, Tp, Tp, Tp, Tp, Tp, Tp, Tp]) ∧ st = [.box (nm false ⟨#[]⟩ ⟨#[]⟩), .box (nm neg ⟨#[]⟩ ⟨#[]⟩)] ∧ d = (AA al).length ∧ (AA al).length ≤ (DJ (A ++ F)).length ∧ x = ((DJ (A ++ F)).length : Int) - (AA al).length - F.length ∧ IO (AA al) = Ie (A ++ F)) [false, false, true, false, false, true, false, false, false, false, true, false, false, true, true] (DJ (A ++ F)).length [0, 1] (by decide) (AC _) ⟨AI (DJ (A ++ F)), _, by (simp only [yE, reduceCtorEq]; try rfl), by (simp only [yE]; try rfl), by rw [AD], by rw [AD]; omega, by rw [AD, hpF]; omega, by rw [AD]; exact PZ _⟩ ?_
  rintro d e st ⟨al, x, rfl, rfl, rfl, hx1, hx2, htr⟩
  by_cases ha : 0 < (AA al).length
  · have t2 : AN ((AA al).length : Nat) 0 = false := AE (by omega)
    have w2 : AG .i64 (((AA al).length : Nat) - 1) = (((AA al).length - 1 : Nat) : Int) := Bq (by omega) (by omega)
    have c2 : (0 : Int) ≤ (((AA al).length - 1 : Nat) : Int) := by omega
    have c0 : (0 : Int) ≤ 0 := by omega
    have c3 : (((AA al).length - 1 : Nat) : Int) ≤ ((AA al).length : Nat) := by omega
    have w3 : AG .i64 (x + 1) = x + 1 := Au (by omega) (by omega)
    obtain ⟨c, hc⟩ := get_lt (show (AA al).length - 1 < (AA al).length by omega)
    have hsn : AA al = (AA al).take ((AA al).length - 1) ++ [c] := by
      have h1 := List.take_append_drop ((AA al).length - 1) (AA al)
      obtain ⟨q1, q2⟩ := List.getElem?_eq_some_iff.mp hc
      rw [List.drop_eq_getElem_cons q1, q2, List.drop_eq_nil_of_le (by omega)] at h1
      exact h1.symm
    cases h1 : AJ (c.toNat : Nat) 48 with
    | true =>
      have hc48 : c.toNat = 48 := by have := AQ h1; omega
      simp -implicitDefEqProofs only [↓yP, yT, AY.eq_1, AV.eq_1, Aw.eq_1, t2, w2, c2, c0, c3, hc, h1, w3, i00]
      refine ⟨(AA al).length - 1, [0, 1], by omega, by decide, AC _, _, _, by (simp only [yE, reduceCtorEq]; try rfl), by (simp only [yE]; try rfl), ?_, ?_, ?_, ?_⟩
      · rw [AD]; simp
      · rw [AD]; simp; omega
      · rw [AD]; simp; omega
      · rw [AD]
        have : ((AA al).drop 0).take ((AA al).length - 1 - 0) = (AA al).take ((AA al).length - 1) := by simp
        first
        | (rw [this, ← htr]; conv => rhs; rw [hsn]
           exact (Hp _ c hc48).symm)
        | (rw [← htr]; conv => rhs; rw [hsn]
           exact (Hp _ c hc48).symm)
    | false =>
      have hc48 : c.toNat ≠ 48 := by have := A7 h1; omega
      have hne : (AA al == AA ⟨#[]⟩) = false := by
        rw [beq_eq_false_iff_ne]; intro h; rw [h] at ha; exact absurd ha (by decide)
      have htl : AA al = Ie (A ++ F) := by rw [← htr, hsn]; exact (XA _ c hc48).symm
      simp -implicitDefEqProofs only [↓yP, yT, Nat.reduceAdd, Nat.reduceLeDiff, AY.eq_1, AV.eq_1, t2, w2, c2, hc, h1, At, hne]
      refine AB (FN x (by omega) (by omega)) (by rfl) fun y hy => ?_
      obtain ⟨z, rfl, hz, hzv, hzR⟩ := hy
      simp -implicitDefEqProofs only [yT]
      refine AB (FP (2 * (AA s).length + 10) ex z (by omega) (by omega) (by omega) heR hzR) (by rfl) fun y hy => ?_
      obtain ⟨z2, rfl, hz2, _, hz3⟩ := hy
      simp -implicitDefEqProofs only [↓yP, yT, Nat.reduceAdd, reduceCtorEq]
      refine ⟨al, z2, by rw [hneg]; rfl, htl, fun h => by rw [h] at ha; exact absurd ha (by decide), fun _ => ?_, by omega⟩
      rw [hz2, hev, hzv, hx2, htl]
  · have t2 : AN ((AA al).length : Nat) 0 = true := AH (by omega)
    have hnil : AA al = [] := List.eq_nil_of_length_eq_zero (by omega)
    have hne : (AA al == AA ⟨#[]⟩) = true := by rw [hnil]; rfl
    rw [hnil] at htr
    simp -implicitDefEqProofs only [↓yP, yT, Nat.reduceAdd, reduceCtorEq, AY.eq_1, t2, At, hne]
    exact ⟨⟨#[]⟩, ⟨#[]⟩, by rw [hneg]; rfl, htr, fun _ => rfl, fun h => absurd rfl h, Nat.zero_le _⟩
end Go.Vx.Seat
end
section
open Go Go.Vx Go.Proofs
namespace Go.Vx.Seat
theorem AS.agree {C:Cx} {f:FuncId} {args:List YV} {Q1 Q2:YV→Prop} (h1:AS C f args Q1) (h2:AS C f args Q2) (hd:args.all UL=true):∃y1 y2 v R1 R2 h',Q1 y1∧Q2 y2∧Af [] R1 h' y1 v∧Af [] R2 h' y2 v:=by
 obtain ⟨n1,v1,g1,hx1,R1,y1,hq1,hv1,_⟩:=h1 0 (fun _=>False) ⟨0,[]⟩ (args.map NU) (Nat.zero_le _) (fun b hb=>hb.elim) (HS (k:=0) hd).1
 obtain ⟨n2,v2,g2,hx2,R2,y2,hq2,hv2,_⟩:=h2 0 (fun _=>False) ⟨0,[]⟩ (args.map NU) (Nat.zero_le _) (fun b hb=>hb.elim) (HS (k:=0) hd).1
 have e1:=IW (J2 (C:=C) (Nat.le_max_left n1 n2)) hx1
 have e2:=IW (J2 (C:=C) (Nat.le_max_right n1 n2)) hx2
 rw [e1] at e2
 cases e2
 exact ⟨y1,y2,v1,R1,R2,g1,hq1,hq2,hv1,hv2⟩
theorem ZK {m:Mp} {R:Nat→Prop} {h:H} {b ok:Bool} {d x:ByteArray} {v:Value} (hv:Af m R h (.tup [.agg (nm b d x),yd (.bool ok)]) v):∃u,v=.tuple ⟨[.agg ⟨[.bool b,.string d,.string x]⟩,u]⟩:=by
 obtain ⟨vs,rfl,hl⟩:=hv
 obtain ⟨w0,h0,h1⟩:=hl.get (i:=0) rfl
 obtain ⟨w1,h2,_⟩:=hl.get (i:=1) rfl
 have hlen:=hl.1
 obtain ⟨ws,rfl,hl2⟩:=h1
 have:=RA hl2 (l:=[.bool b,.string d,.string x]) rfl
 subst this
 match vs,hlen,h0,h2 with
 |[a,c],_,h0,h2=>
  simp at h0
  exact ⟨c,by rw [h0]⟩
theorem VW {s:ByteArray} {sg A B F C s2 E:List UInt8} (hs:(AA s).length≤800000000) (h:NumS (AA s) sg A B F C s2 E):
  (Du s).1=(sg==[45])∧AA (Du s).2.1=Ie (A++F)∧(AA (Du s).2.1≠[]→FA (AA (Du s).2.2.1)=Wx s2 E+(((DJ (A++F)).length:Int) - (Ie (A++F)).length - F.length))∧(AA (Du s).2.2.1).length≤2*(AA s).length+20:=by
 obtain ⟨y1,y2,v,R1,R2,h',q1,⟨dg,ex,q2,k1,k2,k3,k4⟩,r1,r2⟩:=AS.agree (Ju s hs) (Ui s hs h) rfl
 subst q1 q2
 obtain ⟨u1,e1⟩:=ZK r1
 obtain ⟨u2,e2⟩:=ZK r2
 rw [e1] at e2
 simp only [Value.tuple.injEq,Array.mk.injEq,List.cons.injEq,Value.agg.injEq,Value.bool.injEq,Value.string.injEq] at e2
 obtain ⟨⟨a1,a2,a3,_⟩,_⟩:=e2
 rw [a1,a2,a3]
 exact ⟨rfl,k1,k3,k4⟩
theorem OR {s:ByteArray} {sg A B F C s2 E:List UInt8} (hs:(AA s).length≤800000000) (h:NumS (AA s) sg A B F C s2 E):
  (Du s).1=(sg==[45])∧AA (Du s).2.1=Ie (A++F)∧(AA (Du s).2.1≠[]→FA (AA (Du s).2.2.1)=Wx s2 E+(((DJ (A++F)).length:Int) - (Ie (A++F)).length - F.length)):=
 have h:=VW hs h
 ⟨h.1,h.2.1,h.2.2.1⟩
def nA (l:List Rn):Prop:=∀x,x∈l→0≤x.r∧x.r<128
def Da (l:List Rn):List UInt8:=l.map fun x=>UInt8.ofNat x.r.toNat
theorem OB {r:Int} (h0:0≤r) (h1:r<128):Ao r=[r]:=by
 obtain ⟨n,rfl⟩:=Int.eq_ofNat_of_zero_le h0
 exact E0 (n:=128) (p:=fun n=>Ao ((n:Nat):Int)=[((n:Nat):Int)]) (by decide+kernel) n (by omega)
theorem Xi {l:List Rn} (h:nA l):A9 l=l.map Rn.r:=by
 induction l with
 |nil=>rfl
 |cons x l ih=>
  obtain ⟨a,b⟩:=h x (List.mem_cons_self ..)
  rw [show A9 (x::l)=Ao x.r++A9 l from rfl,OB a b,ih fun y hy=>h y (List.mem_cons_of_mem _ hy)];rfl
theorem Hz (a b:List Rn):Da (a++b)=Da a++Da b:=List.map_append ..
theorem H6 {l:List Rn}:Da l=[]↔l=[]:=List.map_eq_nil_iff
theorem Pz {s A B C:List Rn} (hs:IU s) (hA:Fw A) (hB:HJ B) (hC:Ft C):∀x,x∈s++(A++(B++C))→32≤x.r∧x.r<128:=by
 have dg:∀{l:List Rn},Fw l→∀x,x∈l→32≤x.r∧x.r<128:=fun h x hx=>by have:=C6 (h x hx);omega
 have sg:∀{l:List Rn},IU l→∀x,x∈l→32≤x.r∧x.r<128:=fun h x hx=>by
  rcases h with rfl|⟨z,rfl,hz⟩
  ·simp at hx
  ·rw [List.mem_singleton.mp hx];omega
 intro x hx
 simp only [List.mem_append] at hx
 rcases hx with hx|hx|hx|hx
 ·exact sg hs x hx
 ·exact dg hA x hx
 ·rcases hB with rfl|⟨p,F,rfl,hp,_,hF⟩
  ·simp at hx
  ·rcases List.mem_cons.mp hx with rfl|hx
   ·omega
   ·exact dg hF x hx
 ·rcases hC with rfl|⟨e,s2,E,rfl,he,hs2,_,hE⟩
  ·simp at hx
  ·rcases List.mem_cons.mp hx with rfl|hx
   ·omega
   ·rcases List.mem_append.mp hx with hx|hx
    ·exact sg hs2 x hx
    ·exact dg hE x hx
theorem Ip {s A B C:List Rn} (hs:IU s) (hA:Fw A) (hB:HJ B) (hC:Ft C):AA (CA s A B C)=Da s++(Da A++(Da B++Da C)):=by
 unfold CA
 rw [Xi fun x hx=>by have:=Pz hs hA hB hC x hx;omega]
 show ((s++(A++(B++C))).map Rn.r).map (fun n=>UInt8.ofNat n.toNat)=_
 rw [List.map_map,←Hz,←Hz,←Hz];rfl
theorem KA {s:List Rn} (h:IU s):nJ (Da s)∧(Da s==[45])=AJ (hd s) 45:=by
 rcases h with rfl|⟨z,rfl,hz⟩
 ·exact ⟨.inl rfl,rfl⟩
 ·rcases hz with k|k
  ·refine ⟨.inr (.inl ?_),?_⟩
   ·show [UInt8.ofNat z.r.toNat]=_;rw [k];rfl
   ·show ([UInt8.ofNat z.r.toNat]==[45])=AJ z.r 45;rw [k];rfl
  ·refine ⟨.inr (.inr ?_),?_⟩
   ·show [UInt8.ofNat z.r.toNat]=_;rw [k];rfl
   ·show ([UInt8.ofNat z.r.toNat]==[45])=AJ z.r 45;rw [k];rfl
theorem F8 {A:List Rn} (h:Fw A):JM (Da A):=fun c hc=>by
 obtain ⟨x,hx,rfl⟩:=List.mem_map.mp hc
 have:=C6 (h x hx)
 simp only [UInt8.toNat_ofNat']
 omega
def IS (B:List Rn):List Rn:=B.drop 1
theorem Tz {B:List Rn} (h:HJ B):JM (Da (IS B))∧((Da B=[]∧Da (IS B)=[])∨(Da B=46::Da (IS B)∧Da (IS B)≠[]))∧(B≠[]→IS B≠[]):=by
 rcases h with rfl|⟨p,F,rfl,hp,hF,hD⟩
 ·exact ⟨fun c hc=>by simp [IS,Da] at hc,.inl ⟨rfl,rfl⟩,fun h=>absurd rfl h⟩
 ·refine ⟨F8 hD,.inr ⟨?_,fun e=>hF (H6.mp e)⟩,fun _=>hF⟩
  show UInt8.ofNat p.r.toNat::Da F=46::Da F
  rw [hp];rfl
theorem Zh {C:List Rn} (h:Ft C):∃s2 E:List Rn,IU s2∧Fw E∧((Da C=[]∧Da s2=[]∧Da E=[])∨(∃e:UInt8,Da C=e::(Da s2++Da E)∧(e.toNat=101∨e.toNat=69)∧Da E≠[]))∧
  (C≠[]→∀A',Fw A'→(∃e:UInt8,Da (C++A')=e::(Da s2++Da (E++A'))∧(e.toNat=101∨e.toNat=69)∧Da (E++A')≠[])):=by
 rcases h with rfl|⟨e,s2,E,rfl,he,hs2,hE,hD⟩
 ·exact ⟨[],[],.inl rfl,.nil,.inl ⟨rfl,rfl,rfl⟩,fun h=>absurd rfl h⟩
 ·have h1:(UInt8.ofNat e.r.toNat).toNat=101∨(UInt8.ofNat e.r.toNat).toNat=69:=by
   rcases he with k|k
   ·left;rw [k];rfl
   ·right;rw [k];rfl
  refine ⟨s2,E,hs2,hD,.inr ⟨_,?_,h1,fun k=>hE (H6.mp k)⟩,fun _ A' _=>⟨_,?_,h1,fun k=>hE (List.append_eq_nil_iff.mp (H6.mp k)).1⟩⟩
  ·rw [←Hz];rfl
  ·rw [←Hz,←List.append_assoc];rfl
theorem M2 {s A B C:List Rn} (hs:IU s) (hA:Fw A) (hB:HJ B) (hC:Ft C) (hn:A≠[]∨B≠[]):∃s2 E,NumS (AA (CA s A B C)) (Da s) (Da A) (Da B) (Da (IS B)) (Da C) (Da s2) (Da E):=by
 obtain ⟨s2,E,k1,k2,k3,_⟩:=Zh hC
 obtain ⟨b1,b2,b3⟩:=Tz hB
 exact ⟨s2,E,Ip hs hA hB hC,(KA hs).1,F8 hA,b1,b2,k3,(KA k1).1,F8 k2,by rcases hn with q|q;exact .inl fun e=>q (H6.mp e);exact .inr fun e=>b3 q (H6.mp e)⟩
theorem i5 {s A B C:List Rn} (hs:IU s) (hA:Fw A) (hB:HJ B) (hC:Ft C) (hn:A≠[]∨B≠[]) (hl:(AA (CA s A B C)).length≤800000000):(Du (CA s A B C)).1=AJ (hd s) 45:=by
 obtain ⟨s2,E,h⟩:=M2 hs hA hB hC hn
 rw [(OR hl h).1,(KA hs).2]
theorem WX {s A B C:List Rn} {s' A' B' C':List Rn} (hs:IU s) (hA:Fw A) (hB:HJ B) (hC:Ft C) (hs':IU s') (hA':Fw A') (hB':HJ B') (hC':Ft C') (h:s.length+A.length+B.length+C.length≤s'.length+A'.length+B'.length+C'.length):(AA (CA s A B C)).length≤(AA (CA s' A' B' C')).length:=by
 rw [Ip hs hA hB hC,Ip hs' hA' hB' hC']
 simp only [List.length_append,Da,List.length_map];omega
theorem pM:RdOk where
 mant s A B A' C hs hA hB hBn hA' hAn h48 hC hl:=by
  obtain ⟨b1,b2,b3⟩:=Tz hB
  have hB2:=hB.app hBn hA'
  obtain ⟨s2,E,h1⟩:=M2 hs hA hB2 hC (.inr (by simp [hBn]))
  obtain ⟨s3,E3,h0⟩:=M2 hs hA hB (.inl rfl) (.inr hBn)
  have hl0:=Nat.le_trans (WX hs hA hB (.inl rfl) hs hA hB2 hC (by simp only [List.length_append,List.length_nil];omega)) hl
  have e1:=(OR hl h1).2.1
  have e0:=(OR hl0 h0).2.1
  intro e
  rw [e,e0] at e1
  have hf:IS (B++A')=IS B++A':=by
   cases B with
   |nil=>exact absurd rfl hBn
   |cons p F=>rfl
  rw [hf,Hz,←List.append_assoc] at e1
  cases A' with
  |nil=>exact hAn rfl
  |cons x A'=>
   have hx:=C6 (hA' x (List.mem_cons_self ..))
   have hz:zB (UInt8.ofNat x.r.toNat)=false:=by
    rw [zB,beq_eq_false_iff_ne]
    intro k
    have:=congrArg UInt8.toNat k
    simp only [UInt8.toNat_ofNat'] at this
    have h48':x.r≠48:=h48
    have:(48:UInt8).toNat=48:=rfl
    omega
   exact Ww (Da A++Da (IS B)) (Da A') _ hz e1.symm
 expo s A B C A' hs hA hB hn hC hCn hA' hAn h48 hl hdn:=by
  obtain ⟨s2,E,k1,k2,k3,k4⟩:=Zh hC
  obtain ⟨b1,b2,b3⟩:=Tz hB
  have hC2:=hC.app hCn hA'
  have hne:Da A≠[]∨Da (IS B)≠[]:=by rcases hn with q|q;exact .inl fun e=>q (H6.mp e);exact .inr fun e=>b3 q (H6.mp e)
  have h0:NumS (AA (CA s A B C)) (Da s) (Da A) (Da B) (Da (IS B)) (Da C) (Da s2) (Da E):=⟨Ip hs hA hB hC,(KA hs).1,F8 hA,b1,b2,k3,(KA k1).1,F8 k2,hne⟩
  have h1:NumS (AA (CA s A B (C++A'))) (Da s) (Da A) (Da B) (Da (IS B)) (Da (C++A')) (Da s2) (Da (E++A')):=⟨Ip hs hA hB hC2,(KA hs).1,F8 hA,b1,b2,.inr (k4 hCn A' hA'),(KA k1).1,F8 (k2.app hA'),hne⟩
  have hl0:=Nat.le_trans (WX hs hA hB hC hs hA hB hC2 (by simp only [List.length_append];omega)) hl
  obtain ⟨_,d1,e1⟩:=OR hl h1
  obtain ⟨_,d0,e0⟩:=OR hl0 h0
  have hd0:AA (Du (CA s A B C)).2.1≠[]:=fun e=>hdn (by
   have:=Dn (Du (CA s A B C)).2.1
   rw [e] at this;exact this.symm)
  have hd1:AA (Du (CA s A B (C++A'))).2.1≠[]:=by rw [d1,←d0];exact hd0
  intro e
  have e1:=e1 hd1
  rw [e,e0 hd0] at e1
  have hev:Wx (Da s2) (Da E)=Wx (Da s2) (Da (E++A')):=by omega
  have hv:val (Da E)=val (Da (E++A')):=by
   unfold Wx at hev
   split at hev<;>omega
  rw [Hz] at hv
  cases A' with
  |nil=>exact hAn rfl
  |cons x A'=>
   have hx:=C6 (hA' x (List.mem_cons_self ..))
   have hnz:(UInt8.ofNat x.r.toNat).toNat≠48:=by
    have h48':x.r≠48:=h48
    simp only [UInt8.toNat_ofNat']
    omega
   have:=Y1 (E:=Da E) (c:=UInt8.ofNat x.r.toNat) (l:=Da A') (F8 k2) (F8 hA') hnz
   have e2:Da (x::A')=UInt8.ofNat x.r.toNat::Da A':=rfl
   rw [e2] at hv
   omega
end Go.Vx.Seat
end
section
open Go Go.Vx Go.Proofs
namespace Go.Vx.Seat
theorem Pa:∀(n:Nat) (l:List Rn),l.length≤n→DB (hd (AT l).2)=false∧esc0 (AT l).2=false:=by
 intro n
 induction n with
 |zero=>intro l h;have:l=[]:=List.eq_nil_of_length_eq_zero (by omega);subst this;rw [BU];exact ⟨rfl,rfl⟩
 |succ n ih=>
  intro l h
  cases l with
  |nil=>rw [BU];exact ⟨rfl,rfl⟩
  |cons x r=>
   have hr:r.length≤n:=by simpa using h
   cases h1:DB x.r with
   |true=>rw [BM h1];exact ih r hr
   |false=>
    cases h2:esc0 (x::r) with
    |true=>rw [Cj h1 h2];exact ih _ (by have:=CT r;omega)
    |false=>rw [Cw h1 h2];exact ⟨h1,h2⟩
theorem TR {R:List Rn} (h1:DB (hd R)=false) (h2:esc0 R=false):Ag R=false:=by
 cases R with
 |nil=>rfl
 |cons x r=>
  have h1':DB x.r=false:=h1
  have h3:=h1'
  simp only [DB,Bool.or_eq_false_iff] at h1'
  have h45:AJ x.r 45=false:=h1'.2
  show (if AJ x.r 45=true then _ else Bm x.r||esc0 (x::r))=false
  rw [h45,h1'.1.1,h2];rfl
theorem VA {R:List Rn} (h:(Ak R).1.kind=1∨(Ak R).1.kind=2∨(Ak R).1.kind=7∨(Ak R).1.kind=15):Ag R=true:=by
 have hv:=Hj R
 generalize hT:Ak R=T at*
 have no:∀k:Int,T.1.kind=k→k≠1→k≠2→k≠7→k≠15→False:=fun k e a b c d=>by rw [e] at h;omega
 cases hv with
 |named hb=>exact hb
 |cdc hc=>
  simp only [AA,Ay,Bool.and_eq_true] at hc
  have e1:=AQ hc.1
  have e2:=AQ hc.2.1
  cases R with
  |nil=>exact absurd e1 (by decide)
  |cons x r=>
   have e1':x.r=45:=e1
   have e2':hd r=45:=e2
   show (if AJ x.r 45=true then Bm (hd r)||AJ (hd r) 45||esc0 r else _)=true
   rw [e1',e2'];rfl
 |comm _=>exact (no 25 rfl (by decide) (by decide) (by decide) (by decide)).elim
 |blank _=>exact (no 13 rfl (by decide) (by decide) (by decide) (by decide)).elim
 |quote _=>have:=Le R;exact (by omega:False).elim
 |hash _ _=>exact (no 4 rfl (by decide) (by decide) (by decide) (by decide)).elim
 |num _=>have:=PY R;exact (by omega:False).elim
 |cdo _=>exact (no 14 rfl (by decide) (by decide) (by decide) (by decide)).elim
 |«at» _ _=>exact (no 3 rfl (by decide) (by decide) (by decide) (by decide)).elim
 |delim=>exact (no 9 rfl (by decide) (by decide) (by decide) (by decide)).elim
 |sign hc=>have:=Fx hc;exact (no (Bp (hd R)) rfl (by omega) (by omega) (by omega) (by omega)).elim
theorem Hm {L:List Rn} (h:nums (Ak L).1.kind) (hl:L.length≤180000000):∃s A B C R,L=s++(A++(B++(C++R)))∧Cut s A B C R∧Ak L=EP (AJ (hd s) 43) (B.isEmpty&&C.isEmpty) (CA s A B C) R∧(Ak L).1.flag=(B.isEmpty&&C.isEmpty)∧(Ak L).1.sign=AJ (hd s) 43∧(Ak L).1.neg=AJ (hd s) 45:=by
 obtain ⟨hn,_⟩:=Ra h
 obtain ⟨s,A,B,C,e,hc,_,_⟩:=SD hn
 have ho:=Fs hc
 rw [←e] at ho
 obtain ⟨_,_,q3,q4⟩:=JV (t:=(Ak L).1) (r:=(Ak L).2) ho.symm
 refine ⟨s,A,B,C,_,e,hc,ho,q3,q4,?_⟩
 have hneg:(Ak L).1.neg=(Du (CA s A B C)).1:=by
  rw [ho]
  unfold EP
  refine AZ (p:=fun q:Tok×List Rn=>q.1.neg=(Du (CA s A B C)).1) (fun _=>rfl) fun _=>?_
  exact AZ (p:=fun q:Tok×List Rn=>q.1.neg=(Du (CA s A B C)).1) (fun _=>rfl) fun _=>rfl
 rw [hneg,i5 hc.sg hc.dg hc.pt hc.ex hc.ne (Lz e hl)]
theorem ZX {s:List Rn} (h:IU s) (h1:AJ (hd s) 43=false) (h2:AJ (hd s) 45=false):s=[]:=by
 rcases h with h|⟨z,rfl,hz⟩
 ·exact h
 ·exfalso
  rcases hz with k|k
  ·rw [show hd [z]=z.r from rfl,k] at h1;exact absurd h1 (by decide)
  ·rw [show hd [z]=z.r from rfl,k] at h2;exact absurd h2 (by decide)
theorem cC {c:Int} (h:AL c=true):DB c=true:=by simp [DB,h]
theorem iL {L R:List Rn} {t:Tok} (hl:L.length≤180000000) (h:Ak L=(t,R)) (hR:R<:+L):Adj t (Ak R).1:=by
 have hRl:R.length≤180000000:=Nat.le_trans hR.length_le hl
 have ht:(Ak L).1=t:=by rw [h]
 refine ⟨fun hk hu=>?_,fun hk hu hs hn=>?_,fun hk hu=>?_,fun hk=>?_⟩
 ·have hb:=VA hu
  obtain ⟨s,A,B,C,R',e,hc,ho,_⟩:=Hm (L:=L) (by rw [ht];rcases hk with k|k;exact .inl k;exact .inr (.inr k)) hl
  rw [h] at ho
  rcases hk with k|k
  ·obtain ⟨q1,_,q3,_⟩:=RQ ho.symm k
   rw [q3,q1] at hb;cases hb
  ·obtain ⟨_,q2,_⟩:=Hq ho.symm k
   obtain ⟨e1,e2⟩:=Pa _ R' (Nat.le_refl _)
   rw [q2,TR e1 e2] at hb;cases hb
 ·obtain ⟨s,A,B,C,R',e,hc,ho,hf,_⟩:=Hm (L:=L) (by rw [ht];exact .inl hk) hl
  rw [h] at ho
  obtain ⟨_,_,q3,_⟩:=RQ ho.symm hk
  subst q3
  obtain ⟨s',A',B',C',R2,e',hc',_,hf',hs',hn'⟩:=Hm hu hRl
  rw [hs] at hs'
  rw [hn] at hn'
  have:=ZX hc'.sg hs'.symm hn'.symm
  subst this
  by_cases hA':A'=[]
  ·subst hA'
   have hB':B'≠[]:=by rcases hc'.ne with q|q;exact absurd rfl q;exact q
   have hd:=(hc'.pt.head hB' (C'++R2)).2
   have e2:R=B'++(C'++R2):=e'
   refine ⟨?_,?_⟩
   ·rw [←ht,hf]
    cases hb:B.isEmpty with
    |false=>rfl
    |true=>
     cases hcc:C.isEmpty with
     |false=>rfl
     |true=>
      have:=hc.e2 (List.isEmpty_iff.mp hb) (List.isEmpty_iff.mp hcc)
      rw [e2,hd] at this;cases this
   ·rw [hf']
    cases hb:B'.isEmpty with
    |false=>rfl
    |true=>exact absurd (List.isEmpty_iff.mp hb) hB'
  ·exfalso
   have:=hc.e1
   rw [e'] at this
   rw [List.nil_append,CX hc'.dg hA'] at this;cases this
 ·obtain ⟨s,A,B,C,R',e,hc,ho,hf,_⟩:=Hm (L:=L) (by rw [ht];exact .inr (.inr hk)) hl
  rw [h] at ho
  obtain ⟨_,q2,_⟩:=Hq ho.symm hk
  obtain ⟨e1,_⟩:=Pa _ R' (Nat.le_refl _)
  rw [←q2] at e1
  obtain ⟨s',A',B',C',R2,e',hc',_,hf',hs',hn'⟩:=Hm hu hRl
  have hneg:(Ak R).1.neg=false:=by
   rw [hn']
   rcases hc'.sg with rfl|⟨z,rfl,hz⟩
   ·rfl
   ·rcases hz with k|k
    ·rw [show hd [z]=z.r from rfl,k];rfl
    ·exfalso
     rw [e'] at e1
     have:DB z.r=false:=e1
     rw [k] at this;exact absurd this (by decide)
  refine ⟨hneg,fun hs=>?_⟩
  rw [hs] at hs'
  rw [hneg] at hn'
  have:=ZX hc'.sg hs'.symm hn'.symm
  subst this
  rw [hf']
  cases hb:B'.isEmpty with
  |false=>rfl
  |true=>
   exfalso
   have hB0:=List.isEmpty_iff.mp hb
   have hA':A'≠[]:=by rcases hc'.ne with q|q;exact q;exact absurd hB0 q
   rw [e',List.nil_append,cC (CX hc'.dg hA' _)] at e1;cases e1
 ·intro hu
  have hbl:=(Ps R).2 hu
  cases L with
  |nil=>have hR0:R=[]:=List.suffix_nil.mp hR;rw [hR0] at hbl;exact absurd hbl (by decide)
  |cons x r=>
   have hx:Ad x.r=true:=(Ps (x::r)).2 (by rw [ht];exact hk)
   rw [Jg r hx] at h
   have:=(B1 h).2
   rw [←this] at hbl
   have hnb:∀l:List Rn,Ad (hd (Aq l))=false:=fun l=>by
    induction l with
    |nil=>rfl
    |cons y l ih=>
     cases k:Ad y.r with
     |true=>rw [Ff k];exact ih
     |false=>rw [FQ (Y:=y::l) k];exact k
   rw [hnb] at hbl;cases hbl
theorem aT:∀(n:Nat) (L:List Rn) (ps:Wa),L.length≤n→n≤180000000→(∀x,x∈L→x.a=0)→ps.map Prod.fst=BO L→(∀p,p∈ps→Pc p.1 p.2)→Wb ps
 |_,_,[],_,_,_,_,_=>trivial
 |n,L,p::ps,hl,hn,h0,h,hp=>by
  cases L with
  |nil=>rw [C9] at h;cases h
  |cons x r=>
   rw [Eq,h0 x (List.mem_cons_self ..),GC (Hh _)] at h
   obtain ⟨h1,h2⟩:=List.cons.inj h
   have hsuf:=K8 x r
   have hlt:=LT x r
   refine ⟨hp p (List.mem_cons_self ..),fun q hq=>?_,?_⟩
   ·have ha:=iL (L:=x::r) (R:=(Ak (x::r)).2) (t:=p.1) (by omega) (Prod.ext h1.symm rfl) (CB x hsuf)
    have hq1:q.1=(Ak (Ak (x::r)).2).1:=by
     cases ps with
     |nil=>cases hq
     |cons q' ps=>
      cases hq
      cases hr:(Ak (x::r)).2 with
      |nil=>rw [hr,C9] at h2;cases h2
      |cons y r2=>
       have hy:y.a=0:=h0 y (List.mem_cons_of_mem _ (hsuf.subset (by rw [hr];exact List.mem_cons_self ..)))
       rw [hr,Eq,hy,GC (Hh _)] at h2
       exact (List.cons.inj h2).1
    rw [hq1];exact ha
   ·cases n with
    |zero=>simp at hl
    |succ n=>exact aT n (Ak (x::r)).2 ps (by omega) (by omega) (fun y hy=>h0 y (List.mem_cons_of_mem _ (hsuf.subset hy))) h2 (fun q hq=>hp q (List.mem_cons_of_mem _ hq))
theorem UV {α:Type} (f:α→List Int):∀(l:List α),(∀p,p∈l→∀r,r∈f p→Cq r)→RS (l.flatMap fun p=>enc (f p))=l.flatMap fun p=>rn (f p)
 |[],_=>Uq
 |p::l,h=>by
  rw [List.flatMap_cons,Zu (h p (List.mem_cons_self ..)),UV f l fun q hq=>h q (List.mem_cons_of_mem _ hq)];rfl
theorem Fn (bs:List Int):(BO (BI 0 bs)).map A4=BO (RS bs):=(Xq _ _ (Nat.le_refl _)).symm
theorem oJ (bs:List Int):∀x,x∈RS bs→x.a=0:=fun x hx=>by
 obtain ⟨y,_,rfl⟩:=List.mem_map.mp hx;rfl
theorem KB (t:Tok):Cd (A4 t)=Cd t:=rfl
theorem Ul (bs:List Int) (m:fQ) (hb:bs.length≤100000) (hl:(CZ (m.map Prod.fst)).length≤180000000) (hts:(m.map Prod.fst).map Prod.fst=BO (RS bs)) (hp:∀p,p∈m→Pc p.1.1 p.1.2∧Zk p.1.1 p.2.1 p.2.2∧Cd p.1.1=false)
  (hq:∀p,p∈m→(∀r,r∈p.1.2→Cq r)∧(∀r,r∈p.2.1→Cq r)∧∀r,r∈p.2.2→Cq r) (hg:BO (RS ((m.map Prod.fst).flatMap fun p=>enc p.2))=BO (RS bs)):
  (Xt (BO (BI 0 (m.flatMap fun p=>enc (p.2.1++(p.1.2++p.2.2)))))).map A4=(Xt (BO (BI 0 bs))).map A4:=by
 have hlen:(RS bs).length≤100000:=by
  rw [RS,List.length_map];exact Nat.le_trans (CN _ bs (Nat.le_refl _) 0) hb
 have hpc:∀p,p∈m.map Prod.fst→Pc p.1 p.2:=fun p h=>by
  obtain ⟨q,hq,rfl⟩:=List.mem_map.mp h;exact (hp q hq).1
 have hrow:=aT _ (RS bs) (m.map Prod.fst) (Nat.le_refl _) (by omega) (oJ bs) hts hpc
 have hcat:RS ((m.map Prod.fst).flatMap fun p=>enc p.2)=CZ (m.map Prod.fst):=UV (fun p:Tok×List Int=>p.2) _ fun p h=>by
  obtain ⟨q,hq',rfl⟩:=List.mem_map.mp h;exact (hq q hq').1
 rw [hcat,←hts] at hg
 have hst:∀t,t∈BO (RS bs)→t.start=0:=fun t ht=>by
  rw [←Fn] at ht
  obtain ⟨u,_,rfl⟩:=List.mem_map.mp ht;rfl
 obtain ⟨_,hcn⟩:=MG pM m hrow (fun p h=>⟨(hp p h).2.1,hst _ (by rw [←hts];exact List.mem_map.mpr ⟨p.1,List.mem_map.mpr ⟨p,h,rfl⟩,rfl⟩)⟩) hl hg
 have hM:RS (m.flatMap fun p=>enc (p.2.1++(p.1.2++p.2.2)))=mt m:=by
  rw [UV (fun p:(Tok×List Int)×(List Int×List Int)=>p.2.1++(p.1.2++p.2.2)) m fun p h r hr=>?_]
  ·show (m.flatMap fun p=>rn (p.2.1++(p.1.2++p.2.2)))=m.flatMap fun p=>rn p.2.1++(rn p.1.2++rn p.2.2)
   congr 1
   funext p
   rw [Cu,Cu]
  ·obtain ⟨k1,k2,k3⟩:=hq p h
   rcases List.mem_append.mp hr with hr|hr
   ·exact k2 r hr
   ·rcases List.mem_append.mp hr with hr|hr
    ·exact k1 r hr
    ·exact k3 r hr
 have hln:∀t,t∈BO (RS bs)→Cd t=false:=fun t ht=>by
  rw [←hts] at ht
  obtain ⟨q,hq',rfl⟩:=List.mem_map.mp ht
  obtain ⟨p,hp',rfl⟩:=List.mem_map.mp hq'
  exact (hp p hp').2.2
 have key:=hcn false true
 have e1:∀k:List Int,(∀t,t∈BO (RS k)→Cd t=false)→∀t,t∈BO (BI 0 k)→Cd t=false:=fun k h t ht=>by
  rw [←KB]
  exact h (A4 t) (by rw [←Fn];exact List.mem_map_of_mem ht)
 refine mJ (e1 _ ?_) (e1 _ hln) ?_
 ·rw [hM]
  intro t ht
  cases hqt:BK t.kind with
  |true=>
   rcases OX hqt with k|k
   ·rw [Cd,k];rfl
   ·rw [Cd,k];rfl
  |false=>
   have hn1:=Ox (BO (mt m)) false true
   have hn2:=Ox ((m.map Prod.fst).map Prod.fst) false true
   rw [key,hn2] at hn1
   have:A4 t∈((BO (mt m)).filter Im).map A4:=List.mem_map_of_mem (List.mem_filter.mpr ⟨ht,by simp [Im,hqt]⟩)
   rw [←hn1] at this
   obtain ⟨u,hu,e⟩:=List.mem_map.mp this
   rw [←KB,←e,KB]
   exact hln u (by rw [←hts];exact (List.mem_filter.mp hu).1)
 ·rw [Fn,Fn,hM,key,hts]
end Go.Vx.Seat
end
section
open Go Go.Vx Go.Proofs
namespace Go.Vx.Seat
theorem UH:Cp 65533:=⟨by decide,by decide,by decide⟩
theorem aF {N:Nat} {L x:Int} (hL:0≤L):Cp (CP N L x).1:=by
 unfold CP
 split
 ·exact UH
 ·rename_i k
  simp only [Bool.or_eq_true,Bool.not_eq_true',Bool.and_eq_true,not_or,not_and,Bool.not_eq_false] at k
  obtain ⟨k1,k2,k3⟩:=k
  refine ⟨by have:=Bl k1;omega,Bl k2,fun ⟨a,b⟩=>?_⟩
  have:=Bl (k3 (AH a));omega
theorem Z0 (c:Int) (r:List Int):Cp (Bb c r).1:=by
 unfold Bb
 repeat' split
 all_goals first|exact aF (by decide)|exact UH
theorem cqF:Cq 65533:=⟨UH,by decide⟩
theorem m5:Cq 10:=⟨⟨by decide,by decide,by decide⟩,by decide⟩
theorem bH {x:Int} (h:Cp x) (r:List Int):Cq (EM x r).1:=by
 unfold EM
 refine AZ (p:=fun q:Int×List Int=>Cq q.1) (fun _=>cqF) fun h0=>?_
 refine AZ (p:=fun q:Int×List Int=>Cq q.1) (fun _=>m5) fun h1=>?_
 refine AZ (p:=fun q:Int×List Int=>Cq q.1) (fun _=>m5) fun h2=>?_
 exact ⟨h,A7 (by simpa using h0),A7 (by simpa using h1),A7 (by simpa using h2)⟩
theorem gN:∀(n:Nat) (bs:List Int),bs.length≤n→∀x,x∈RS bs→Cq x.r
 |_,[],_,x,hx=>by rw [Uq] at hx;simp at hx
 |0,c::r,h,_,_=>by simp at h
 |n+1,c::r,h,x,hx=>by
  rw [Wd] at hx
  rcases List.mem_cons.mp hx with rfl|hx
  ·exact bH (Z0 c r) _
  ·exact gN n _ (by have:=(Lx c r).length_le;simp at h;omega) x hx
def GD (l:List Int):Prop:=∀r,r∈l→Cq r
theorem GD.nil:GD []:=fun r h=>by simp at h
theorem GD.cons {r:Int} {l:List Int} (h:Cq r) (hl:GD l):GD (r::l):=fun x hx=>by
 rcases List.mem_cons.mp hx with rfl|hx
 ·exact h
 ·exact hl x hx
theorem GD.app {a b:List Int} (h:GD a) (hb:GD b):GD (a++b):=fun x hx=>by
 rcases List.mem_append.mp hx with hx|hx
 ·exact h x hx
 ·exact hb x hx
theorem Cq.asc {r:Int} (h1:32≤r) (h2:r<128):Cq r:=⟨⟨by omega,by omega,by omega⟩,by omega,by omega,by omega⟩
theorem Cq.cn {r:Int} (h:Cn r) (h2:32≤r):Cq r:=⟨h.1,h.2,by omega,by omega⟩
theorem dU (n:Nat):GD (Ee n):=by
 have one:∀d,d<16→GD [Ct d]:=fun d h=>.cons (by
  obtain ⟨a,b⟩:=E0 (n:=16) (p:=fun d=>32≤Ct d∧Ct d<128) (by decide+kernel) d h
  exact .asc a b) .nil
 induction n using Nat.strongRecOn with
 |ind n ih=>
  by_cases h:n<16
  ·rw [FX h];exact one n h
  ·rw [JU (by omega)]
   exact (ih _ (by omega)).app (one _ (by omega))
theorem LH (r:Int):GD (As r):=.cons (.asc (by decide) (by decide)) (dU _)
theorem Nz:GD [32]:=.cons (.asc (by decide) (by decide)) .nil
theorem mL {r:Int} (h:DB r=true):32≤r:=by
 apply Classical.byContradiction
 intro k
 have:DB r=false:=by
  simp only [DB,Bm,AL]
  rw [AE (show ¬(97:Int)≤r by omega),AE (show ¬(65:Int)≤r by omega),AF (show r≠95 by omega),AE (show ¬(128:Int)≤r by omega),AE (show ¬(48:Int)≤r by omega),AF (show r≠45 by omega)];rfl
 rw [h] at this;cases this
theorem Va {r:Int} (h:Cq r):GD [92,r]:=.cons (.asc (by decide) (by decide)) (.cons h .nil)
theorem Uh (q:Bool) {r:Int} (h:Cn r):GD (Km q r):=by
 unfold Km
 refine AZ (p:=GD) (fun _=>(LH r).app Nz) fun k=>?_
 refine AZ (p:=GD) (fun k=>.cons (.cn h (mL k)) .nil) fun _=>Va (.cn h ?_)
 simp only [Dr,Bool.or_eq_true,not_or,Bool.not_eq_true',Bool.not_eq_false] at k
 exact Bl k.1.1
theorem T8:∀l:List Int,IM l→GD (KX l)
 |[],_=>.nil
 |r::l,h=>(Uh false (h r (List.mem_cons_self ..))).app (T8 l fun x hx=>h x (List.mem_cons_of_mem _ hx))
theorem Lo (f:Bool) (l:List Int) (h:IM l):GD (DL f l):=by
 cases f with
 |false=>exact T8 l h
 |true=>
  cases l with
  |nil=>exact .nil
  |cons r l=>
   have h1:=Uh true (h r (List.mem_cons_self ..))
   cases l with
   |nil=>
    simp only [DL]
    exact AZ (p:=GD) (fun _=>Va (.asc (by decide) (by decide))) fun _=>h1
   |cons s l=>
    simp only [DL]
    exact h1.app ((Uh _ (h s (by simp))).app (T8 l fun x hx=>h x (by simp [hx])))
theorem Y7 {q:Int} (hq:q=34∨q=39):∀l:List Int,IM l→GD (HM q l)
 |[],_=>.nil
 |r::l,h=>by
  have hr:=h r (List.mem_cons_self ..)
  refine GD.app ?_ (Y7 hq l fun x hx=>h x (List.mem_cons_of_mem _ hx))
  refine AZ (p:=GD) (fun k=>?_) fun k=>?_
  ·rw [Bool.or_eq_true] at k
   refine Va ?_
   rcases k with k|k
   ·rw [AQ k];rcases hq with rfl|rfl<;>exact .asc (by decide) (by decide)
   ·rw [AQ k];exact .asc (by decide) (by decide)
  ·refine AZ (p:=GD) (fun _=>(LH r).app ?_) fun k=>?_
   ·rcases Ve l with e|e<;>rw [e]
    ·exact .nil
    ·exact Nz
   ·simp only [RC,Bool.or_eq_true,not_or] at k
    exact .cons ⟨hr.1,hr.2,A7 (by simpa using k.1.2),A7 (by simpa using k.2)⟩ .nil
theorem iS {q:Int} (hq:q=34∨q=39) (l:List Int) (h:IM l):GD (O2 q l):=by
 have h1:Cq q:=by rcases hq with rfl|rfl<;>exact .asc (by decide) (by decide)
 exact .cons h1 ((Y7 hq l h).app (.cons h1 .nil))
theorem bY:∀l:List Int,IM l→GD (Gg l)
 |[],_=>.nil
 |r::l,h=>by
  have hr:=h r (List.mem_cons_self ..)
  refine GD.app ?_ (bY l fun x hx=>h x (List.mem_cons_of_mem _ hx))
  refine AZ (p:=GD) (fun k=>Va ?_) fun _=>?_
  ·simp only [Gk,Bool.or_eq_true] at k
   rcases k with ((((k|k)|k)|k)|k)|k<;>(rw [AQ k];exact .asc (by decide) (by decide))
  ·refine AZ (p:=GD) (fun _=>(LH r).app Nz) fun k=>?_
   simp only [Bool.or_eq_true,not_or,Bool.not_eq_true',Bool.not_eq_false] at k
   exact .cons (.cn hr (Bl k.1)) .nil
theorem iN (l:List Int) (h:IM l):GD (HL l):=by
 unfold HL
 refine AZ (p:=GD) (fun _=>((LH _).app Nz).app (Lo false _ fun x hx=>h x (List.mem_of_mem_tail hx))) fun _=>Lo true l h
def ru (l:List UInt8):List Rn:=rn (F5 l)
theorem KT (a b:List UInt8):ru (a++b)=ru a++ru b:=by simp [ru,F5,rn]
theorem cF (a:UInt8) (b:List UInt8):ru (a::b)=⟨((a.toNat:Nat):Int),0⟩::ru b:=rfl
theorem IG {l:List UInt8} (h:l≠[]):ru l≠[]:=by cases l with|nil=>exact absurd rfl h|cons a l=>rw [cF];simp
theorem HK {l:List UInt8} (h:JM l):Fw (ru l):=fun x hx=>by
 obtain ⟨r,hr,rfl⟩:=List.mem_map.mp hx
 obtain ⟨c,hc,rfl⟩:=List.mem_map.mp hr
 have:=h c hc
 show (AN 48 ((c.toNat:Nat):Int)&&AN ((c.toNat:Nat):Int) 57)=true
 rw [AH (by omega),AH (by omega)];rfl
theorem gR {X:List UInt8} (h:Dg (DO X)):Ft (ru (101::X))∧∀e z E,ru (101::X)=e::z::E→z.r≠43:=by
 unfold DO at h
 split at h
 ·rename_i t
  refine ⟨.inr ⟨⟨101,0⟩,[⟨45,0⟩],ru t,rfl,.inl rfl,.inr ⟨⟨45,0⟩,rfl,.inr rfl⟩,IG h.1,HK h.2⟩,fun e z E k=>?_⟩
  have hz:(⟨45,0⟩:Rn)=z:=(List.cons.inj (List.cons.inj k).2).1
  rw [←hz];decide
 ·refine ⟨.inr ⟨⟨101,0⟩,[],ru X,rfl,.inl rfl,.inl rfl,IG h.1,HK h.2⟩,fun e z E k=>?_⟩
  have k2:ru X=z::E:=(List.cons.inj k).2
  have:=C6 (HK h.2 z (by rw [k2];exact List.mem_cons_self ..))
  omega
theorem Sc {F:List UInt8} (h:JM F) (hn:F≠[]):HJ (ru (46::F)):=.inr ⟨_,_,rfl,rfl,IG hn,HK h⟩
structure NbCut (D:List UInt8) (whole:Bool) (A B C:List Rn):Prop where
 dg:Fw A
 pt:HJ B
 ex:Ft C
 ne:A≠[]∨B≠[]
 no0:whole=false→A≠[]→hd A≠48
 zero:C≠[]→D≠[]
 minus:∀e z E,C=e::z::E→z.r≠43
theorem gZ {D X body:List UInt8} {whole:Bool} (hr:ZO (AI D) (AI X)) (hb:m6 D X whole body):∃A B C,ru body=A++(B++C)∧NbCut D whole A B C:=by
 have none:∀e z E,([]:List Rn)=e::z::E→z.r≠43:=fun e z E h=>by cases h
 have nex:Ft []:=.inl rfl
 have npt:HJ []:=.inl rfl
 have nz:([]:List Rn)≠[]→D≠[]:=fun h=>absurd rfl h
 have full:D≠[]→JM D∧(∀d1 d2,D=d1++d2→d1≠[]→hd (ru d1)≠48)∧Dg (DO X):=fun hD=>by
  rcases hr with h|h
  ·exact absurd h.1 hD
  ·refine ⟨h.1.2,fun d1 d2 e hn=>?_,h.2.2.dg.1⟩
   cases d1 with
   |nil=>exact absurd rfl hn
   |cons a d1=>
    have ha:a.toNat≠48:=h.2.1 a (by rw [AD,e];rfl)
    show ((a.toNat:Nat):Int)≠48
    omega
 have d48:JM [48]:=fun c hc=>by rw [List.mem_singleton.mp hc];decide
 cases whole with
 |true=>
  rcases hb with ⟨hD,rfl⟩|⟨hD,z,rfl⟩
  ·exact ⟨ru [48],[],[],by simp,HK d48,npt,nex,.inl (IG (by simp)),(fun h=>by cases h),nz,none⟩
  ·exact ⟨ru (D++List.replicate z 48),[],[],by simp,HK (fun c hc=>by
    rcases List.mem_append.mp hc with hc|hc
    ·exact (full hD).1 c hc
    ·exact NB z c hc),npt,nex,.inl (IG (by simp [hD])),(fun h=>by cases h),nz,none⟩
 |false=>
  rcases hb with ⟨hD,rfl⟩|⟨hD,hs⟩
  ·exact ⟨[],ru [46,48],[],by simp,.nil,Sc d48 (by simp),nex,.inr (IG (by simp)),fun _ h=>absurd rfl h,nz,none⟩
  ·obtain ⟨f1,f2,f3⟩:=full hD
   have sub1:∀d1 d2,D=d1++d2→JM d1∧JM d2:=fun d1 d2 e=>⟨fun c hc=>f1 c (by rw [e];exact List.mem_append_left _ hc),fun c hc=>f1 c (by rw [e];exact List.mem_append_right _ hc)⟩
   rcases hs with ⟨d1,d2,e,h1,h2,rfl⟩|⟨z,rfl⟩|rfl|⟨d1,d2,x,e,h1,h2,rfl,hx⟩|⟨z,rfl⟩
   ·exact ⟨ru d1,ru (46::d2),[],by rw [KT];simp,HK (sub1 d1 d2 e).1,Sc (sub1 d1 d2 e).2 h2,nex,.inl (IG h1),fun _ _=>f2 d1 d2 e h1,nz,none⟩
   ·exact ⟨[],ru (46::(List.replicate z 48++D)),[],by simp,.nil,Sc (fun c hc=>by
     rcases List.mem_append.mp hc with hc|hc
     ·exact NB z c hc
     ·exact f1 c hc) (by simp [hD]),nex,.inr (IG (by simp)),fun _ h=>absurd rfl h,nz,none⟩
   ·obtain ⟨k1,k2⟩:=gR f3
    exact ⟨ru D,[],ru (101::X),by rw [KT];simp,HK f1,npt,k1,.inl (IG hD),fun _ _=>f2 D [] (by simp) hD,fun _=>hD,k2⟩
   ·obtain ⟨k1,k2⟩:=gR hx
    refine ⟨ru d1,ru (46::d2),ru (101::x),?_,HK (sub1 d1 d2 e).1,Sc (sub1 d1 d2 e).2 h2,k1,.inl (IG h1),fun _ _=>f2 d1 d2 e h1,fun _=>hD,k2⟩
    rw [KT,←KT (46::d2)];rfl
   ·refine ⟨ru (D++List.replicate z 48),ru [46,48],[],?_,HK (fun c hc=>by
     rcases List.mem_append.mp hc with hc|hc
     ·exact f1 c hc
     ·exact NB z c hc),Sc d48 (by simp),nex,.inl (IG (by simp [hD])),fun _ _=>?_,nz,none⟩
    ·rw [List.append_nil,←KT];simp
    ·rw [KT,UQ (IG hD)];exact f2 D [] (by simp) hD
end Go.Vx.Seat
end
section
open Go Go.Vx Go.Proofs
namespace Go.Vx.Seat
def Vq (L:List Rn):Prop:=∀x,x∈L→Cq x.r
theorem Vq.vl {L:List Rn} (h:Vq L):Vl L:=fun x hx=>⟨(h x hx).1,(h x hx).2.1⟩
def txK (k:Int):Prop:=1≤k∧k≤25∧k≠4∧¬nums k
inductive Form:Tok→Prop where
 |tok (k:Int) (s:ByteArray) (hk:txK k) (h13:k=13→s=⟨#[10]⟩∨s=⟨#[32]⟩) (hs:14≤k→k≤24→s=⟨#[]⟩) (h25:k=25→∃l,GD l∧s=AO (enc l)):Form (AM k s)
 |hash (s:ByteArray) (f:Bool):Form ⟨4,s,⟨#[]⟩,false,⟨#[]⟩,⟨#[]⟩,f,false,0,0,0,0,0⟩
 |num {t:Tok} (h:nums t.kind):Form t
theorem Form.low {k:Int} (s:ByteArray) (h:1≤k∧k≤9∧k≠4):Form (AM k s):=
 .tok k s ⟨by omega,by omega,h.2.2,by unfold nums;omega⟩ (fun h=>by omega) (fun h=>by omega) fun h=>by omega
theorem Form.high {k:Int} (h:14≤k∧k≤24):Form (AM k ⟨#[]⟩):=
 .tok k _ ⟨by omega,by omega,by omega,by unfold nums;omega⟩ (fun h=>by omega) (fun _ _=>rfl) fun h=>by omega
theorem eQ (L:List Rn):A9 L=enc (L.map Rn.r):=by
 rw [A9,enc,List.flatMap_map]
theorem Zm {l:List Rn} {T:Tok×List Rn} (h:One l T) (hv:Vq l):Form T.1:=by
 cases h with
 |comm h=>
  refine .tok 25 _ ⟨by decide,by decide,by decide,by unfold nums;decide⟩ (fun h=>absurd h (by decide)) (fun _ h=>absurd h (by decide)) fun _=>⟨(Bc (l.drop 2)).1.map Rn.r,fun r hr=>?_,by rw [eQ]⟩
  obtain ⟨x,hx,rfl⟩:=List.mem_map.mp hr
  exact hv x (List.mem_of_mem_drop (NP _ x hx))
 |blank h=>
  refine .tok 13 _ ⟨by decide,by decide,by decide,by unfold nums;decide⟩ (fun _=>?_) (fun h=>absurd h (by decide)) fun h=>absurd h (by decide)
  exact AZ (p:=fun q:ByteArray=>q=⟨#[10]⟩∨q=⟨#[32]⟩) (fun _=>.inl rfl) fun _=>.inr rfl
 |quote h=>
  unfold CH
  exact AZ (p:=Form) (fun _=>.low _ (by decide)) fun _=>.low _ (by decide)
 |hash h h2=>exact .hash _ _
 |num h=>
  refine .num ?_
  unfold E8 EP
  refine AZ (p:=fun q:Tok×List Rn=>nums q.1.kind) (fun _=>.inr (.inr rfl)) fun _=>?_
  exact AZ (p:=fun q:Tok×List Rn=>nums q.1.kind) (fun _=>.inr (.inl rfl)) fun _=>.inl rfl
 |cdc h=>exact .high (by decide)
 |cdo h=>exact .high (by decide)
 |named h=>
  unfold BG
  refine AZ (p:=fun q:Tok×List Rn=>Form q.1) (fun _=>?_) fun _=>.low _ (by decide)
  refine AZ (p:=fun q:Tok×List Rn=>Form q.1) (fun _=>?_) fun _=>.low _ (by decide)
  unfold D7
  split
  ·exact .low _ (by decide)
  ·exact .low _ (by decide)
 |«at» h h2=>exact .low _ (by decide)
 |delim=>exact .low _ (by decide)
 |sign h=>obtain ⟨a,b,_⟩:=Fx h;exact .high ⟨by omega,b⟩
theorem dV:∀(n:Nat) (L:List Rn),L.length≤n→∀t,t∈BO L→∃x r,(x::r)<:+L∧A4 t=(Ak (x::r)).1:=by
 intro n
 induction n with
 |zero=>intro L h t ht;have:L=[]:=List.eq_nil_of_length_eq_zero (by omega);subst this;rw [C9] at ht;simp at ht
 |succ n ih=>
  intro L h t ht
  cases L with
  |nil=>rw [C9] at ht;simp at ht
  |cons x r=>
   rw [Eq] at ht
   rcases List.mem_cons.mp ht with rfl|ht
   ·exact ⟨x,r,List.suffix_refl _,GC (Hh (x::r))⟩
   ·obtain ⟨y,r2,k1,k2⟩:=ih _ (by have:=LT x r;simp only [List.length_cons] at this h;omega) t ht
    exact ⟨y,r2,k1.trans (CB x (K8 x r)),k2⟩
theorem d6 {L:List Rn} (hl:L.length≤300):(AA (Ak L).1.unit).length≤1200:=by
 have hv:=Hj L
 generalize Ak L=T at*
 have h0:(AA (⟨#[]⟩:ByteArray)).length≤1200:=by show 0≤1200;omega
 cases hv with
 |num h=>
  have:=(Nn L).length_le
  have:=Ln _ (Et L).2 (Nat.le_refl _)
  unfold E8 EP
  refine AZ (p:=fun q:Tok×List Rn=>(AA q.1.unit).length≤1200) (fun _=>?_) fun _=>?_
  ·show (AA (AO _)).length≤1200
   rw [AW];omega
  ·exact AZ (p:=fun q:Tok×List Rn=>(AA q.1.unit).length≤1200) (fun _=>h0) fun _=>h0
 |named h=>
  unfold BG
  refine AZ (p:=fun q:Tok×List Rn=>(AA q.1.unit).length≤1200) (fun _=>?_) fun _=>h0
  refine AZ (p:=fun q:Tok×List Rn=>(AA q.1.unit).length≤1200) (fun _=>?_) fun _=>h0
  unfold D7
  split
  ·exact h0
  ·exact h0
 |quote h=>
  unfold CH
  exact AZ (p:=fun q:Tok=>(AA q.unit).length≤1200) (fun _=>h0) fun _=>h0
 |_=>exact h0
theorem Z4 {bs:List Int} (hb:bs.length≤300) {t:Tok} (ht:t∈BO (BI 0 bs)):Good t∧Form (A4 t):=by
 have hrs:(RS bs).length≤300:=by rw [RS,List.length_map];exact Nat.le_trans (CN _ bs (Nat.le_refl _) 0) hb
 have hst:A4 t∈BO (RS bs):=by rw [←Fn];exact List.mem_map_of_mem ht
 have hq:Vq (RS bs):=gN _ bs (Nat.le_refl _)
 obtain ⟨x,r,hsuf,ho⟩:=dV _ _ (Nat.le_refl _) _ hst
 have ho:A4 t=(Ak (x::r)).1:=ho
 have hl:(x::r).length≤300:=Nat.le_trans hsuf.length_le hrs
 have hq1:Vq (x::r):=fun y hy=>hq y (hsuf.subset hy)
 have hf:=Zm (Hj (x::r)) hq1
 obtain ⟨⟨b1,⟨l1,c1,rfl⟩,e1⟩,⟨b2,⟨l2,c2,rfl⟩,e2⟩⟩:=fC (Hj (x::r)) hq1.vl
 have ht1:=QK x r
 have ht2:=d6 hl
 rw [←ho] at hf e1 e2 ht1 ht2
 have e1:t.text=AO (enc l1):=e1
 have e2:t.unit=AO (enc l2):=e2
 have ht1:(AA t.text).length≤4*(x::r).length:=ht1
 have ht2:(AA t.unit).length≤1200:=ht2
 have tl:My t=l1:=by rw [My,e1,GY c1]
 have tu:Tm t=l2:=by rw [Tm,e2,GY c2]
 rw [e1,AW] at ht1
 rw [e2,AW] at ht2
 have n1:=(Bx l1).1
 have n2:=(Bx l2).1
 have key:(AA t.digits).length≤100000∧(AA t.exp).length≤100000∧0≤t.kind∧t.kind≤100:=by
  have mk:∀{u:Tok},Form u→¬nums u.kind→(AA u.digits).length≤100000∧(AA u.exp).length≤100000∧0≤u.kind∧u.kind≤100:=fun h hn=>by
   cases h with
   |tok k s hk=>exact ⟨by show 0≤_;omega,by show 0≤_;omega,by have:=hk.1;show 0≤k;omega,by have:=hk.2.1;show k≤100;omega⟩
   |hash s f=>exact ⟨by show 0≤_;omega,by show 0≤_;omega,by show (0:Int)≤4;omega,by show (4:Int)≤100;omega⟩
   |num h=>exact absurd h hn
  by_cases hn:nums t.kind
  ·have hn':nums (Ak (x::r)).1.kind:=by rw [←ho];exact hn
   obtain ⟨s,A,B,C,R,e,hc,hE,_⟩:=Hm hn' (by omega)
   have hr:=JV (t:=(Ak (x::r)).1) (r:=(Ak (x::r)).2) hE.symm
   rw [←ho] at hr
   obtain ⟨s2,E,hS⟩:=M2 hc.sg hc.dg hc.pt hc.ex hc.ne
   have hlen:(AA (CA s A B C)).length≤1200:=by
    unfold CA
    rw [AW]
    have:=En (s++(A++(B++C)))
    have hl':=congrArg List.length e
    simp only [List.length_append] at this hl' hl ⊢
    omega
   obtain ⟨_,r1,_,r3⟩:=VW (by omega) hS
   have k1:t.digits=(Du (CA s A B C)).2.1:=hr.1
   have k2:t.exp=(Du (CA s A B C)).2.2.1:=hr.2.1
   refine ⟨?_,by rw [k2];omega,by rcases hn with k|k|k<;>(rw [k];decide),by rcases hn with k|k|k<;>(rw [k];decide)⟩
   rw [k1,r1]
   have q1:=Ss (IK (Da A++Da (IS B)))
   have q2:(IK (Da A++Da (IS B))).length≤(Da A++Da (IS B)).length:=(List.dropWhile_sublist _).length_le
   have q3:(Da A).length=A.length:=List.length_map ..
   have q4:(Da (IS B)).length≤B.length:=by rw [Da,List.length_map,IS,List.length_drop];omega
   have hl':=congrArg List.length e
   simp only [List.length_append] at q2 hl'
   rw [Ie];omega
  ·exact mk (u:=A4 t) hf hn
 exact ⟨⟨by rw [tl];exact c1,by rw [tu];exact c2,by rw [tl];simp only [List.length_cons] at*;omega,by rw [tu];omega,by rw [tl,e1],by rw [tu,e2],key.1,key.2.1,key.2.2⟩,hf⟩
theorem jU {q:Bool} {s:Int} {L:List Rn} (h1:AL s=false) (h2:s=45→AL (hd L)=false):AL (hd (if Ai (rn (Km q s)++L) then (rn (Km q s)++L).drop 1 else rn (Km q s)++L))=false:=by
 obtain ⟨c,u,e,hc⟩:=D5 q (r:=s)
 rw [e]
 rcases hc with ⟨rfl,hi,rfl,_⟩|⟨rfl,d,v,rfl,_⟩
 ·have h43:c≠43:=by rintro rfl;exact absurd hi (by decide)
  show AL (hd (if (AJ c 43||AJ c 45) then L else ⟨c,0⟩::L))=false
  by_cases k:c=45
  ·rw [k];exact h2 k
  ·rw [AF h43,AF k];exact h1
 ·rfl
theorem jP {a b:Int} {t:List Int} (h:U5 (a::b::t)=false) (k:(AJ a 101||AJ a 69)=true):AL b=false∧(b=45→∀z r,t=z::r→AL z=false):=by
 cases t with
 |nil=>
  have h:((AJ a 101||AJ a 69)&&(AL b||false))=false:=h
  rw [k] at h
  exact ⟨by simpa using h,fun _ z r e=>by cases e⟩
 |cons z t=>
  have h:((AJ a 101||AJ a 69)&&(AL b||(AJ b 45&&AL z)))=false:=h
  rw [k,Bool.true_and,Bool.or_eq_false_iff] at h
  refine ⟨h.1,fun e z' r e2=>?_⟩
  cases e2
  have:=h.2
  rw [e] at this
  simpa [BN] using this
theorem Se {u:List Int} (h:IM u):AL (hd (rn (HL u)))=false∧Lm (rn (HL u))=false∧expo (rn (HL u))=false∧(∀X,AT (rn (HL u)++X)=(enc u++(AT X).1,(AT X).2))∧(u≠[]→∀X,Ag (rn (HL u)++X)=true):=by
 cases hx:U5 u with
 |true=>
  rw [HL,if_pos hx]
  obtain ⟨a,t,rfl⟩:∃a t,u=a::t:=by cases u with|nil=>cases hx|cons a t=>exact ⟨a,t,rfl⟩
  have ha:a=101∨a=69:=by
   cases t with
   |nil=>cases hx
   |cons b t=>
    have hx:((AJ a 101||AJ a 69)&&_)=true:=hx
    rw [Bool.and_eq_true,Bool.or_eq_true] at hx
    rcases hx.1 with k|k
    ·exact .inl (AQ k)
    ·exact .inr (AQ k)
  refine ⟨rfl,rfl,rfl,fun X=>?_,fun _ X=>?_⟩
  ·show AT (rn (As a++[32]++DL false t)++X)=_
   rw [Cu,List.append_assoc,QC (by omega) (by omega),GI false (fun x hx=>h x (List.mem_cons_of_mem _ hx)),Aa,List.append_assoc]
  ·obtain ⟨d,v,e,hd'⟩:=Hd a.toNat
   have e2:rn (As a++[32]++DL false t)++X=⟨92,0⟩::⟨Ct d,0⟩::(rn (v++[32]++DL false t)++X):=by rw [As,e];rfl
   have h0:Ag (rn (As a++[32]++DL false t)++X)=true:=by rw [e2];exact (KR (A7 (Hn d hd').2.2.1)).1
   exact h0
 |false=>
  rw [HL,if_neg (by rw [hx];simp)]
  have hT:=fun X=>GI true h X
  cases u with
  |nil=>exact ⟨rfl,rfl,rfl,hT,fun k=>absurd rfl k⟩
  |cons a t=>
   obtain ⟨c,w,e,h1,h2⟩:=LV (l:=a::t) (by simp)
   have h46:c≠46:=by rintro rfl;rcases h1 with k|k<;>exact absurd k (by decide)
   refine ⟨by rw [e];exact h2,by rw [e];show (AJ c 46&&_)=false;rw [AF h46];rfl,?_,hT,fun _ X=>(FC (by simp) X).1⟩
   cases t with
   |nil=>
    simp only [DL]
    split
    ·rfl
    ·obtain ⟨c,u,e,hc⟩:=D5 true (r:=a)
     rw [e]
     rcases hc with ⟨rfl,hi,rfl,_⟩|⟨rfl,d,v,rfl,_⟩
     ·show (_&&false)=false;rw [Bool.and_false]
     ·rfl
   |cons b t=>
    simp only [DL]
    obtain ⟨c,u,e,hc⟩:=D5 true (r:=a)
    rcases hc with ⟨rfl,hi,rfl,_⟩|⟨rfl,d,v,rfl,_⟩
    ·rw [e]
     show ((AJ c 101||AJ c 69)&&AL (hd (if Ai (rn (Km (AJ c 45) b++KX t)) then (rn (Km (AJ c 45) b++KX t)).drop 1 else rn (Km (AJ c 45) b++KX t))))=false
     cases k:(AJ c 101||AJ c 69) with
     |false=>rfl
     |true=>
      obtain ⟨x1,x2⟩:=jP hx k
      rw [Cu,jU x1 fun h45=>?_];rfl
      cases t with
      |nil=>rfl
      |cons z t=>
       have hz:AL z=false:=x2 h45 z t rfl
       obtain ⟨c2,u2,e2,hc2⟩:=D5 false (r:=z)
       rw [KX,e2]
       show AL c2=false
       rcases hc2 with ⟨rfl,_⟩|⟨rfl,_⟩
       ·exact hz
       ·rfl
    ·rw [e];rfl
theorem Xp {sg f:Bool} {st:ByteArray} {R:List Rn} {t:Tok} {r:List Rn} (h:EP sg f st R=(t,r)):t.neg=(Du st).1∧(t.text=⟨#[]⟩∧t.c0=0∧t.c1=0∧t.c2=0∧t.c3=0∧t.start=0)∧(t.kind≠12→t.unit=⟨#[]⟩):=by
 rw [show t=(EP sg f st R).1 from by rw [h]]
 unfold EP
 refine AZ (p:=fun q:Tok×List Rn=>q.1.neg=(Du st).1∧(q.1.text=⟨#[]⟩∧q.1.c0=0∧q.1.c1=0∧q.1.c2=0∧q.1.c3=0∧q.1.start=0)∧(q.1.kind≠12→q.1.unit=⟨#[]⟩)) (fun _=>⟨rfl,⟨rfl,rfl,rfl,rfl,rfl,rfl⟩,fun h=>absurd rfl h⟩) fun _=>?_
 exact AZ (p:=fun q:Tok×List Rn=>q.1.neg=(Du st).1∧(q.1.text=⟨#[]⟩∧q.1.c0=0∧q.1.c1=0∧q.1.c2=0∧q.1.c3=0∧q.1.start=0)∧(q.1.kind≠12→q.1.unit=⟨#[]⟩)) (fun _=>⟨rfl,⟨rfl,rfl,rfl,rfl,rfl,rfl⟩,fun _=>rfl⟩) fun _=>⟨rfl,⟨rfl,rfl,rfl,rfl,rfl,rfl⟩,fun _=>rfl⟩
theorem YY:∀{l:List UInt8},(∀x,x∈ru l→32≤x.r∧x.r<128)→enc (F5 l)=F5 l∧GD (F5 l)
 |[],_=>⟨rfl,.nil⟩
 |c::l,h=>by
  obtain ⟨a,b⟩:=h _ (List.mem_cons_self ..)
  obtain ⟨h1,h2⟩:=YY (l:=l) fun x hx=>h x (List.mem_cons_of_mem _ hx)
  refine ⟨?_,.cons (.asc a b) h2⟩
  show enc (((c.toNat:Nat):Int)::F5 l)=_
  rw [Aa,OB (by omega) b,h1];rfl
theorem lL (neg sign:Bool):IU (ru (gT neg sign))∧AJ (hd (ru (gT neg sign))) 45=neg:=by
 cases neg with
 |true=>exact ⟨.inr ⟨_,rfl,.inr rfl⟩,rfl⟩
 |false=>
  cases sign with
  |true=>exact ⟨.inr ⟨_,rfl,.inl rfl⟩,rfl⟩
  |false=>exact ⟨.inl rfl,rfl⟩
theorem j0 {t:Tok} (g:Good t) (hk:nums t.kind) (hrt:Zs t):∃P,Lg t=AO (enc P)∧GD P∧Pc (A4 t) P:=by
 obtain ⟨_,hw,_⟩:=FZ t g
 obtain ⟨hne,hsn,htl⟩:=hrt.1 hk
 obtain ⟨_,hnl,hnb⟩:=OH t g.hd g.hx
 rcases hnb with h|⟨hr,body,hb1,hb2⟩
 ·exact absurd h hne
 obtain ⟨A,B,C,hABC,hc⟩:=gZ (D:=AA t.digits) (X:=AA t.exp) hr hb2
 obtain ⟨hs,hsn2⟩:=lL t.neg t.sign
 obtain ⟨s,hsd⟩:∃s,s=ru (gT t.neg t.sign):=⟨_,rfl⟩
 rw [←hsd] at hs hsn2
 have hru:ru (Jt t)=s++(A++(B++C)):=by rw [hb1,KT,hABC,hsd]
 obtain ⟨he1,he2⟩:=YY (l:=Jt t) (by rw [hru];exact Pz hs hc.dg hc.pt hc.ex)
 obtain ⟨U,hU,hUq,v1,v2,v3,hU12⟩:∃U,Lg t=AO (F5 (Jt t)++enc U)∧GD U∧AL (hd (rn U))=false∧Lm (rn U)=false∧expo (rn U)=false∧((t.kind=10∧U=[])∨(t.kind=11∧U=[37])∨(t.kind=12∧U=HL (Tm t))):=by
  have mk:∀l:List UInt8,AI l=AO (F5 l):=fun l=>by rw [←Dn (AO (F5 l)),RN]
  have no:∀{k:Int} {p:Prop},t.kind=k→k≠10→k≠11→k≠12→p:=fun e a b c=>by rcases hk with k|k|k<;>omega
  generalize Lg t=w at hw ⊢
  cases hw with
  |num h=>exact ⟨[],by rw [mk,BD,List.append_nil],.nil,rfl,rfl,rfl,.inl ⟨h,rfl⟩⟩
  |pct h=>exact ⟨[37],by rw [mk];simp [F5];rfl,.cons (.asc (by decide) (by decide)) .nil,rfl,rfl,rfl,.inr (.inl ⟨h,rfl⟩)⟩
  |dim h=>
   obtain ⟨a1,a2,a3,_⟩:=Se g.hu
   refine ⟨HL (Tm t),?_,iN _ g.hu,a1,a2,a3,.inr (.inr ⟨h,rfl⟩)⟩
   rw [mk]
   have:F5 (Jt t++AA (AO (enc (HL (Tm t)))))=F5 (Jt t)++enc (HL (Tm t)):=by
    rw [F5,List.map_append]
    exact congrArg _ (Fo (LP _))
   rw [this]
  |ident h=>exact no h (by decide) (by decide) (by decide)
  |func h=>exact no h (by decide) (by decide) (by decide)
  |«at» h=>exact no h (by decide) (by decide) (by decide)
  |hash h=>exact no h (by decide) (by decide) (by decide)
  |str h=>exact no h (by decide) (by decide) (by decide)
  |url h=>exact no h (by decide) (by decide) (by decide)
  |raw h=>rcases hk with k|k|k<;>(exfalso;omega)
  |comm h=>exact no h (by decide) (by decide) (by decide)
  |cdo h=>exact no h (by decide) (by decide) (by decide)
  |cdc h=>exact no h (by decide) (by decide) (by decide)
  |sign h=>rcases hk with k|k|k<;>(exfalso;omega)
  |none h=>rcases hk with k|k|k<;>(exfalso;omega)
 have hcut:Cut s A B C (rn U):=⟨hs,hc.dg,hc.pt,hc.ex,hc.ne,v1,fun _ _=>v2,fun _=>v3⟩
 have hPe:enc (F5 (Jt t)++U)=F5 (Jt t)++enc U:=by rw [Ap,he1]
 have hPq:GD (F5 (Jt t)++U):=he2.app hUq
 have hrn:rn (F5 (Jt t)++U)=s++(A++(B++(C++rn U))):=by
  rw [Cu,show rn (F5 (Jt t))=ru (Jt t) from rfl,hru];simp
 have hone:=Fs hcut
 have hlex:BO (rn (F5 (Jt t)++U))=[A4 t]:=by
  have h1:Aj (Lg t)=enc (F5 (Jt t)++U):=by rw [hU,←hPe,Fo (LP _)]
  rw [h1] at htl
  have h2:=Fn (enc (F5 (Jt t)++U))
  have h3:=Zu hPq []
  rw [List.append_nil,Uq,List.append_nil] at h3
  rw [h3] at h2
  exact h2.symm.trans htl
 rw [hrn] at hlex
 obtain ⟨x,L,hxL,hxa⟩:∃x L,s++(A++(B++(C++rn U)))=x::L∧x.a=0:=by
  cases hL:s++(A++(B++(C++rn U))) with
  |nil=>rw [hL,C9] at hlex;cases hlex
  |cons x L=>exact ⟨x,L,rfl,cQ x (by rw [hrn,hL];exact List.mem_cons_self ..)⟩
 rw [hxL] at hlex hone
 obtain ⟨ht,_⟩:=MI hxa rfl hlex
 rw [GC (Hh _)] at ht
 have hE:EP (AJ (hd s) 43) (B.isEmpty&&C.isEmpty) (CA s A B C) (rn U)=(A4 t,(Ak (x::L)).2):=by rw [←hone,←ht]
 obtain ⟨q1,q2,q3,q4⟩:=JV hE
 obtain ⟨m1,m2,m3⟩:=Xp hE
 refine ⟨F5 (Jt t)++U,by rw [hU,hPe],hPq,.num hrn ⟨hcut,?_,q3,q4,hsn2.symm,⟨m1,q1,q2⟩,hc.no0,fun h e=>?_,hc.minus,m2,?_⟩⟩
 ·rcases hU12 with ⟨k,rfl⟩|⟨k,rfl⟩|⟨k,rfl⟩
  ·exact .inl ⟨k,rfl,m3 (by show t.kind≠12;omega)⟩
  ·exact .inr (.inl ⟨k,rfl,m3 (by show t.kind≠12;omega)⟩)
  ·obtain ⟨_,_,_,a4,a5⟩:=Se g.hu
   obtain ⟨b1,_⟩:=Hq hE k
   have hu0:Tm t≠[]:=by intro e;rw [e] at b1;cases b1
   refine .inr (.inr ⟨k,Tm t,hu0,g.hun,a4,fun e=>?_,a5 hu0⟩)
   have:=a5 hu0 []
   rw [e] at this;cases this
 ·have e:t.digits=⟨#[]⟩:=e
  exact hc.zero h (by rw [e];rfl)
 ·unfold CA
  rw [AW]
  have h1:=En (s++(A++(B++C)))
  have h2:=congrArg List.length hru
  rw [ru,rn,List.length_map,Gt] at h2
  omega
end Go.Vx.Seat
end
