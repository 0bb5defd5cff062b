/- CvalueBlanks is true whatever bytes and numbers come in, where they are of bulk at most 1048576, and they read as they did. -/
import Derived.Test.YtmbonddknackiaaRows
import Derived.Test.YtmbonddknackiaaVm49
import Derived.WalkKit
import Derived.ProofKit
import Derived.OpenShut
import Derived.ShutString
import Derived.ChangeOld
import Derived.Below
import Derived.SizedLaws
import Derived.HandedShaped
import Derived.JoinedCond
import Derived.WideKeyArgs
namespace Go.Proofs.Ytmbonddknackiaa.cvalueBlanks
open Go.ChangeShapes Go.WideShapes Go.ChangeAt Go.RowKit
open Go.ChangeMaps (open_string shut_string)
theorem own:ownKnob Try.prog.godebug=none:=by kernel_rfl
theorem laid:laidOutB Try.prog=true:=by kernel_rfl
theorem rec31:Try.prog.readableRec 31=true:=by kernel_rfl
theorem lt31:31<Try.prog.types.size:=of_decide_eq_true (by kernel_rfl)
theorem rec25:Try.prog.readableRec 25=true:=by kernel_rfl
theorem lt25:25<Try.prog.types.size:=of_decide_eq_true (by kernel_rfl)
theorem handed {H:Type} {enc:TypeId×Value→H} {a:Assume} {C:Checked} {os:Os} {f:FuncId} {fn:Func} {s:OpenSpec} {k:(H:Type)→List (DataW H)→Bool} (hk:s.cond=some k) {F:Stop.Interp} {conds:List PathCond} {apart fresh handsOn again:Bool}
  (own:ownKnob C.prog.godebug=none) (started:os.Started) (noInit:C.prog.inits.idxOf? f=none) (hfn:C.prog.funcs[f]?=some fn)
  (witness:∃(w:World) (tape:Tape) (i:Input),w.os=os∧(w.forCall tape i).Shaped C.prog∧i.vars=[]∧Input.okWide C.prog (w.forCall tape i) .any w.heap.size f i∧
   s.pre6 enc C.prog fn conds apart (w.forCall tape i).memory i.args∧a.holds C.prog (lone (Frame.enter C.prog f i.args .normal) [] (w.forCall tape i)))
  (contract:∀(W:World) (base:Nat) (args:Array Value) (ds gs:List (DataW H)) (before:List MemPlace),
   (∀(j:Nat) t v,fn.params[j]?=some t→args[j]?=some v→Value.okWide C.prog W .any base t v)→
   DataW.Whole enc C.prog fn.params.toList s.vars apart W args.toList ds gs before→k H (ds++gs)=true→
   (DataW.weightsEach C.prog (fn.params.toList++s.bare.plain.varTypes C.prog) (ds++gs)).all (·≤reachBytes)=true→W.ShapedOpen C.prog→
   Calls C.prog f args W fun e W'=>∃v,e=.returned v∧(s.at F).post enc C.prog fn apart fresh handsOn again W args v W'):
  ReturnsInHanded a C os f .any (s.pre6 enc C.prog fn conds apart) ((s.at F).post enc C.prog fn apart fresh handsOn again):=by
 refine returnsInHanded_of_calls own started noInit witness ?_
 intro w tape i _ hsh _ hok hpre _
 obtain ⟨_,_,_,fn',hfn',_,_,_,_,hval⟩:=hok
 obtain rfl:fn'=fn:=Option.some.inj (hfn'.symm.trans hfn)
 obtain ⟨ds,gs,before,hw,hc,hkk⟩:=(OpenSpec.pre_some hk conds apart _ _).1 hpre.1
 refine (contract (w.forCall tape i) w.heap.size i.args ds gs before hval (DataW.Whole.of_heap (w':=w.forCall tape i) (by rfl) hw) hkk (hpre.2.weights hw) hsh).mono fun e W' ⟨v,he,hp⟩=>?_
 subst he
 exact ChangeSpec.post_blind hp
theorem bulk_one {H:Type} (d:DataW H):1≤Rows.uptoBulk d:=by
 cases d with
 |lit l=>cases l<;>simp [Rows.uptoBulk]
 |_=>simp [Rows.uptoBulk]
theorem bulk_len {H:Type}:∀l:List (DataW H),l.length≤Rows.uptoBulkAll l
 |[]=>Nat.zero_le _
 |x::l=>by
  have h1:=bulk_one x
  have h2:=bulk_len l
  simp only [Rows.uptoBulkAll,List.length_cons];omega
theorem bulk_slice {H:Type} {d:DataW H} {es sp:List (DataW H)} (e:d=.slice es sp) {n:Nat} (h:Rows.uptoBulk d≤n):es.length≤n:=by
 subst e
 have h1:=bulk_len es
 simp only [Rows.uptoBulk] at h
 omega
set_option maxRecDepth 100000 in
theorem lifted (os:Os) (started:os.Started) (H:Type) (enc:TypeId×Value→H) (F:Stop.Interp):
  ReturnsInHanded {} Try.checked os 6 .any ((Rows.OpenSpec.upto Rows.cvalueBlanksSpec).pre6 enc Try.prog Try.f6 Rows.cvalueBlanksUptoRow.domain false) (((Rows.OpenSpec.upto Rows.cvalueBlanksSpec).at F).post enc Try.prog Try.f6 false true false false):=by
 refine handed (C:=Try.checked) (s:=Rows.OpenSpec.upto Rows.cvalueBlanksSpec) (k:=Rows.uptoSmall) rfl own started (by kernel_rfl) Try.func6
  (OpenSpec.witness (enc:=enc) (C:=Try.checked) (s:=Rows.OpenSpec.upto Rows.cvalueBlanksSpec) (k:=Rows.uptoSmall) rfl false ⟨#[],#[.slice none 0 0,.slice none 0 0],[]⟩ 8 (by kernel_rfl) (by kernel_rfl) (by kernel_rfl)
   (x:=([.nil,.nil],[],[])) (by kernel_rfl) rfl (by kernel_rfl)) ?_
 intro W base args ds gs before hval0 hW hk hsz0 hsh
 have hval:∀(j:Nat) t v,Try.f6.params[j]?=some t→args[j]?=some v→Value.okWide Try.prog W .any base t v:=hval0
 have hW':=hW
 obtain ⟨p,q,hA0,hV,rfl,hfz,hnd⟩:=hW
 have hA:DataW.TrodAll enc Try.prog W 0 (fun _=>true) true Try.f6.params.toList args.toList ds p:=hA0
 have hsz:(DataW.weightsEach Try.prog (Try.f6.params.toList++Rows.cvalueBlanksSpec.plain.varTypes Try.prog) (ds++gs)).all (·≤reachBytes)=true:=hsz0
 rw [Try.params6] at hA hval hsz
 obtain ⟨v0,vs0,d0,ds0,p0,q0,hargs,rfl,rfl,h0,r0⟩:=trodAll_cons hA
 obtain ⟨v1,vs1,d1,ds1,p1,q1,rfl,rfl,rfl,h1,r1⟩:=trodAll_cons r0
 obtain ⟨rfl,rfl,rfl⟩:=trodAll_nil r1
 obtain rfl:args=#[v0,v1]:=by cases args;simp_all
 obtain ⟨rfl,rfl⟩:=trodVars_none hV
 obtain ⟨w0,w1⟩:(d0.weights Try.prog 31).all (·≤reachBytes)=true∧(d1.weights Try.prog 25).all (·≤reachBytes)=true:=by
  simp only [List.cons_append,DataW.weightsEach,List.all_append,Bool.and_eq_true] at hsz
  exact ⟨hsz.1,hsz.2.1⟩
 have hb:Rows.uptoBulkAll ([d0,d1]++[])≤1048576:=of_decide_eq_true hk
 simp only [List.append_nil,Rows.uptoBulkAll] at hb
 obtain ⟨m0,t0⟩:=h0
 obtain ⟨m1,t1⟩:=h1
 refine (Vx.Seat.bi_calls (N:=1048576) hsh rfl (fun bs ws=>Vx.Seat.blanksW_spec bs ws) (fun es sp e=>bulk_slice (d:=d0) e (by omega)) (fun es sp e=>bulk_slice (d:=d1) e (by omega)) (hval 0 31 v0 rfl rfl) (hval 1 25 v1 rfl rfl) t0 t1 w0 w1).mono fun e W' ⟨he,bel⟩=>?_
 subst he
 have s0:DataW.Trod enc Try.prog W' 0 (fun b=>decide (b<W.heap.size)) true 31 v0 d0 p0:=
  WideElems.Trod_stays laid rec31 lt31 ⟨m0,t0⟩ (fun x hx=>bel.same (DataW.trod_lt m0 31 _ _ t0 x hx)) (fun x hx=>decide_eq_true (DataW.trod_lt m0 31 _ _ t0 x hx))
 have s1:DataW.Trod enc Try.prog W' 0 (fun b=>decide (b<W.heap.size)) true 25 v1 d1 p1:=
  WideElems.Trod_stays laid rec25 lt25 ⟨m1,t1⟩ (fun x hx=>bel.same (DataW.trod_lt m1 25 _ _ t1 x hx)) (fun x hx=>decide_eq_true (DataW.trod_lt m1 25 _ _ t1 x hx))
 exact ⟨_,rfl,_,_,_,[],_,[],hW',trodAll_mk1 (shut_bool Try.underlying4 _),(trodAll_cons_mk s0 (trodAll_cons_mk s1 trodAll_mk0)),rfl,bel.frame _,fun h=>by cases h⟩
theorem proved:Rows.CvalueBlanksUptoSaid:=
 OpenClaim.holds_of_cond 6 Try.f6 rfl rfl rfl rfl rfl rfl rfl ⟨rfl,rfl,rfl,rfl,rfl⟩ rfl rfl rfl rfl rfl (by kernel_rfl) Try.func6 (by kernel_rfl)
  (of_decide_eq_true (by kernel_rfl)) (by unfold Func.isWrapper;first|(rw [if_pos (by decide+kernel)];kernel_rfl)|(rw [if_neg (by decide+kernel)];exact ⟨rfl,rfl⟩))
  (fun os started H enc _ F=>lifted os started H enc F)
#print axioms proved
end Go.Proofs.Ytmbonddknackiaa.cvalueBlanks
namespace Go.Proofs.Ytmbonddknackiaa
theorem cvalueBlanks_holds:Rows.CvalueBlanksUptoSaid:=cvalueBlanks.proved
end Go.Proofs.Ytmbonddknackiaa
