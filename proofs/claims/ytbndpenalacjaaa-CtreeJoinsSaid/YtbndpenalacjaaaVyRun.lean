/- The rules as equations, for simp: what is yet to be done is kept as code. -/
import Derived.Test.YtbndpenalacjaaaVyTrace
set_option linter.unusedVariables false
namespace Go.Vx
def mk {α : Type} (x : α) : α := x
theorem mk_eq {α : Type} (x : α) : mk x = x := rfl
def gsOf (l : List Oper) : List (Option Nat) := l.map Oper.dst
theorem gsOf_nil : gsOf [] = [] := rfl
theorem gsOf_cons (d : Option Nat) (op : Op) (t : TypeId) (p : String) (a : Array Edge) (g : Option (Nat × Bool)) (l : List Oper) : gsOf (⟨d, op, t, p, a, g⟩ :: l) = d :: gsOf l := rfl
inductive Fr where
  | seq (b : Code)
  | blk (id : Nat)
abbrev Post := X → List YV → Sto → Prop
noncomputable def kf (C : Cx) (pin : Nat) : List Fr → Post → X → List YV → Sto → Prop
  | [], Q, x, e, s => Q x e s
  | .seq b :: fs, Q, x, e, s => YThen (fun e s => YW C pin b e s (kf C pin fs Q)) (kf C pin fs Q) x e s
  | .blk id :: fs, Q, x, e, s => YOut1 id (kf C pin fs Q) x e s
noncomputable def Rw (C : Cx) (pin : Nat) (c : Code) (fs : List Fr) (Q : Post) (e : List YV) (s : Sto) : Prop := YW C pin c e s (kf C pin fs Q)
noncomputable def Rc (C : Cx) (pin : Nat) (a b : Code) (fs : List Fr) (Q : Post) (e : List YV) (s : Sto) (v : YV) : Prop := ycond (Rw C pin a fs Q e s) (Rw C pin b fs Q e s) v
noncomputable def Rg (C : Cx) (pin : Nat) (draw : Bool) (gs : List (Option Nat)) (os : List Oper) (fs : List Fr) (Q : Post) (e : List YV) (s : Sto) : Prop := YG C draw gs os e s (kf C pin fs Q .normal)
noncomputable def Ro (C : Cx) (pin : Nat) (draw : Bool) (gs : List (Option Nat)) (d : Option Nat) (os : List Oper) (fs : List Fr) (Q : Post) (e : List YV) (r : Option (YOut × Sto)) : Prop := ygo C draw (fun v s => Rg C pin draw gs os fs Q (yput e d v) s) r
noncomputable def Ri (C : Cx) (pin : Nat) (draw : Bool) (gs : List (Option Nat)) (d : Option Nat) (op : Op) (os : List Oper) (fs : List Fr) (Q : Post) (e : List YV) (s : Sto) (g : Option Bool) : Prop :=
  ygi (Ro C pin draw gs d os fs Q e (yop C.P C.eqs (yv e) op s)) (Rg C pin draw gs os fs Q (yput e d (.tup [])) s) g
noncomputable def Rcall (C : Cx) (pin : Nat) (draw : Bool) (gs : List (Option Nat)) (d : Option Nat) (os : List Oper) (fs : List Fr) (Q : Post) (e : List YV) (f : FuncId) (args : List YV) (s : Sto) : Prop := YC C draw f args s fun v s => Rg C pin draw gs os fs Q (yput e d v) s
noncomputable def Rl (C : Cx) (pin : Nat) (c : Code) (fs : List Fr) (Q : Post) (e : List YV) (s : Sto) : Prop := YL C pin c e s (kf C pin fs Q)
noncomputable def Rd (C : Cx) (pin : Nat) (id : Nat) (ops : Array Oper) (fs : List Fr) (Q : Post) (e : List YV) (s : Sto) : Prop := YD C pin id ops e s (kf C pin fs Q)
noncomputable def Rt (C : Cx) (pin : Nat) (gs : List (Option Nat)) (os : List Oper) (rs ts : List Nat) (fs : List Fr) (Q : Post) (e : List YV) (s : Sto) : Prop := YT C gs os rs ts e s (kf C pin fs Q .normal)
noncomputable def Rto (C : Cx) (pin : Nat) (gs : List (Option Nat)) (d : Option Nat) (os : List Oper) (rs ts : List Nat) (fs : List Fr) (Q : Post) (e : List YV) (r : Option (YOut × Sto)) : Prop := ygo C true (fun v s => Rt C pin gs os rs ts fs Q (yput e d v) s) r
noncomputable def Rtk (C : Cx) (pin : Nat) (gs : List (Option Nat)) (d : Option Nat) (op : Op) (os : List Oper) (fs : List Fr) (Q : Post) (e : List YV) (s : Sto) (k : Option (List Nat × List Nat)) : Prop :=
  ytk (fun rs ts => Rto C pin gs d os rs ts fs Q e (yop C.P C.eqs (yv e) op s)) k
noncomputable def Rtf (C : Cx) (pin : Nat) (gs : List (Option Nat)) (d : Option Nat) (os : List Oper) (rs ts : List Nat) (fs : List Fr) (Q : Post) (e : List YV) (s : Sto) (k : Bool) : Prop := yif (Rt C pin gs os rs ts fs Q (yput e d (.tup [])) s) k
noncomputable def Rti (C : Cx) (pin : Nat) (gs : List (Option Nat)) (d : Option Nat) (op : Op) (os : List Oper) (rs ts : List Nat) (fs : List Fr) (Q : Post) (e : List YV) (s : Sto) (g : Option Bool) : Prop :=
  ygi (Rtk C pin gs d op os fs Q e s (ychk s rs ts (yv e) op)) (Rtf C pin gs d os rs ts fs Q e s (yskip (yv e) op)) g
noncomputable def Rtcall (C : Cx) (pin : Nat) (gs : List (Option Nat)) (d : Option Nat) (os : List Oper) (rs ts : List Nat) (fs : List Fr) (Q : Post) (e : List YV) (f : FuncId) (args : List YV) (s : Sto) : Prop := YC C true f args s fun v s => Rt C pin gs os rs ts fs Q (yput e d v) s
section
variable {C : Cx} {pin : Nat} {s s' : Sto} {e e' : List YV} {fs : List Fr} {Q : Post} {draw : Bool} {gs gs' : List (Option Nat)} {os rest : List Oper} {rs ts rs' ts' : List Nat}
theorem Rw_skip : Rw C pin .skip fs Q e s = kf C pin fs Q .normal e s := rfl
theorem Rw_ret : Rw C pin .ret fs Q e s = kf C pin fs Q .ret e s := rfl
theorem Rw_exit {id : Nat} : Rw C pin (.exit id) fs Q e s = kf C pin fs Q (.exit id) e s := rfl
theorem Rw_seq {a b : Code} : Rw C pin (.seq a b) fs Q e s = Rw C pin a (.seq b :: fs) Q e s := rfl
theorem Rw_block {id : Nat} {c : Code} : Rw C pin (.block id c) fs Q e s = Rw C pin c (.blk id :: fs) Q e s := rfl
theorem Rw_cond {t : Operand} {a b : Code} : Rw C pin (.cond t a b) fs Q e s = Rc C pin a b fs Q e s (yv e t) := rfl
theorem Rw_region {id : Nat} {l : List Oper} : Rw C pin (.region id l.toArray false) fs Q e s = Rg C pin false (gsOf l) l fs Q (mk e) s := rfl
theorem Rw_drawn {id : Nat} {ops : Array Oper} : Rw C pin (.region id ops true) fs Q e s = Rd C pin id ops fs Q e s := rfl
theorem Rw_loop {c : Code} : Rw C pin (.loop c) fs Q e s = Rl C pin c fs Q e s := rfl
theorem Rc_true {a b : Code} : Rc C pin a b fs Q e s (.c (.p (.d (.bool true)))) = Rw C pin a fs Q e s := rfl
theorem Rc_false {a b : Code} : Rc C pin a b fs Q e s (.c (.p (.d (.bool false)))) = Rw C pin b fs Q e s := rfl
theorem kf_nil {x : X} : kf C pin [] Q x e s = Q x e s := rfl
theorem kf_seq {b : Code} : kf C pin (.seq b :: fs) Q .normal e s = Rw C pin b fs Q e s := rfl
theorem kf_seq_exit {b : Code} {i : Nat} : kf C pin (.seq b :: fs) Q (.exit i) e s = kf C pin fs Q (.exit i) e s := rfl
theorem kf_seq_ret {b : Code} : kf C pin (.seq b :: fs) Q .ret e s = kf C pin fs Q .ret e s := rfl
theorem kf_blk {id : Nat} : kf C pin (.blk id :: fs) Q .normal e s = kf C pin fs Q .normal e s := rfl
theorem kf_blk_ret {id : Nat} : kf C pin (.blk id :: fs) Q .ret e s = kf C pin fs Q .ret e s := rfl
theorem kf_blk_exit {id i : Nat} : kf C pin (.blk id :: fs) Q (.exit i) e s = if i = id then kf C pin fs Q .normal e s else kf C pin fs Q (.exit i) e s := rfl
theorem kf_blk_self {id : Nat} : kf C pin (.blk id :: fs) Q (.exit id) e s = kf C pin fs Q .normal e s := by rw [kf_blk_exit, if_pos rfl]
theorem Rg_nil : Rg C pin draw gs [] fs Q e s = kf C pin fs Q .normal e s := rfl
theorem Rg_none {d : Option Nat} {op : Op} {t : TypeId} {p : String} {a : Array Edge} : Rg C pin draw gs (⟨d, op, t, p, a, none⟩ :: rest) fs Q e s = Ro C pin draw gs d rest fs Q e (yop C.P C.eqs (yv e) op s) := rfl
theorem Rg_some {d : Option Nat} {op : Op} {t : TypeId} {p : String} {a : Array Edge} {j : Nat} {w : Bool} : Rg C pin draw gs (⟨d, op, t, p, a, some (j, w)⟩ :: rest) fs Q e s = Ri C pin draw gs d op rest fs Q e s (yguard gs e j w) := rfl
theorem Ri_true {d : Option Nat} {op : Op} : Ri C pin draw gs d op rest fs Q e s (some true) = Ro C pin draw gs d rest fs Q e (yop C.P C.eqs (yv e) op s) := rfl
theorem Ri_false {d : Option Nat} {op : Op} : Ri C pin draw gs d op rest fs Q e s (some false) = Rg C pin draw gs rest fs Q (yput e d (.tup [])) s := rfl
theorem Ro_val {d : Option Nat} {v : YV} : Ro C pin draw gs d rest fs Q e (some (.val v, s)) = Rg C pin draw gs rest fs Q (yput e d v) s := rfl
theorem Ro_call {d : Option Nat} {f : FuncId} {args : List YV} : Ro C pin draw gs d rest fs Q e (some (.call f args, s)) = Rcall C pin draw gs d rest fs Q e f args s := rfl
theorem Rt_nil : Rt C pin gs [] rs ts fs Q e s = kf C pin fs Q .normal e s := rfl
theorem Rt_none {d : Option Nat} {op : Op} {t : TypeId} {p : String} {a : Array Edge} : Rt C pin gs (⟨d, op, t, p, a, none⟩ :: rest) rs ts fs Q e s = Rtk C pin gs d op rest fs Q e s (ychk s rs ts (yv e) op) := rfl
theorem Rt_some {d : Option Nat} {op : Op} {t : TypeId} {p : String} {a : Array Edge} {j : Nat} {w : Bool} : Rt C pin gs (⟨d, op, t, p, a, some (j, w)⟩ :: rest) rs ts fs Q e s = Rti C pin gs d op rest rs ts fs Q e s (yguard gs e j w) := rfl
theorem Rti_true {d : Option Nat} {op : Op} : Rti C pin gs d op rest rs ts fs Q e s (some true) = Rtk C pin gs d op rest fs Q e s (ychk s rs ts (yv e) op) := rfl
theorem Rti_false {d : Option Nat} {op : Op} : Rti C pin gs d op rest rs ts fs Q e s (some false) = Rtf C pin gs d rest rs ts fs Q e s (yskip (yv e) op) := rfl
theorem Rtf_true {d : Option Nat} : Rtf C pin gs d rest rs ts fs Q e s true = Rt C pin gs rest rs ts fs Q (yput e d (.tup [])) s := rfl
theorem Rtk_some {d : Option Nat} {op : Op} : Rtk C pin gs d op rest fs Q e s (some (rs, ts)) = Rto C pin gs d rest rs ts fs Q e (yop C.P C.eqs (yv e) op s) := rfl
theorem Rto_val {d : Option Nat} {v : YV} : Rto C pin gs d rest rs ts fs Q e (some (.val v, s)) = Rt C pin gs rest rs ts fs Q (yput e d v) s := rfl
theorem Rto_call {d : Option Nat} {f : FuncId} {args : List YV} : Rto C pin gs d rest rs ts fs Q e (some (.call f args, s)) = Rtcall C pin gs d rest rs ts fs Q e f args s := rfl
theorem ythen_next {I : Nat → List YV → Sto → Prop} {bs : List Bool} {d : Nat} : YThen (YNext I bs pin d) Q .normal e s = YNext I bs pin d e s := rfl
theorem ythen_ret {k : List YV → Sto → Prop} : YThen k Q .ret e s = Q .ret e s := rfl
theorem ythen_exit {k : List YV → Sto → Prop} {i : Nat} : YThen k Q (.exit i) e s = Q (.exit i) e s := rfl
theorem yput_some (d : Nat) (v : YV) : yput e (some d) v = e.set d v := rfl
theorem yput_none (v : YV) : yput e none v = e := rfl
theorem yv_tmp (t : Nat) : yv e (.tmp t) = nthD e (.c .top) t := rfl
theorem yv_const (v : Value) : yv e (.const v) = ofConst v := rfl
theorem yv_func (f : FuncId) : yv e (.func f) = .c (.p (.d (.func (.func f) #[] #[]))) := rfl
theorem ofc_int (k : IntKind) (n : Int) : ofConst (.int k n) = .c (.p (.d (.int k n))) := rfl
theorem ofc_bool (b : Bool) : ofConst (.bool b) = .c (.p (.d (.bool b))) := rfl
theorem ofc_str (b : ByteArray) : ofConst (.string b) = .c (.p (.d (.string b))) := rfl
theorem ofc_nil : ofConst (.slice none 0 0) = .c (.p (.d (.slice none 0 0))) := rfl
theorem ofc_np : ofConst (.pointer none) = .c (.p (.d (.pointer none))) := rfl
theorem ydry_int (k : IntKind) (n : Int) : ydry (.int k n) = some (.c (.p (.d (.int k n)))) := rfl
theorem ydry_bool (b : Bool) : ydry (.bool b) = some (.c (.p (.d (.bool b)))) := rfl
theorem ydry_str (b : ByteArray) : ydry (.string b) = some (.c (.p (.d (.string b)))) := rfl
theorem ydry_nil : ydry (.slice none 0 0) = some (.c (.p (.d (.slice none 0 0)))) := rfl
theorem yRes_some (v : YV) : yRes s (some v) = some (.val v, s) := rfl
theorem yNew_eq (x : Ent) (v : YV) : yNew s x v = some (.val v, s ++ [x]) := rfl
theorem ygd_some (w : Bool) (d : Nat) : ygd e w (some (some d)) = ygb w (nth e d) := rfl
theorem ygb_bool (w b : Bool) : ygb w (some (.c (.p (.d (.bool b))))) = some (b == w) := rfl
theorem ygb_skip (w : Bool) : ygb w (some (.tup [])) = some false := rfl
theorem yPick_true (a b : YV) : yPick (.c (.p (.d (.bool true)))) a b = some a := rfl
theorem yPick_false (a b : YV) : yPick (.c (.p (.d (.bool false)))) a b = some b := rfl
theorem yres1 (P : Program) {k : Nat} {Q : List YV → Prop} : (∃ vs, yresults P e s [.tmp k] = some vs ∧ Q vs) = ∃ v, ynt (nthD e (.c .top) k) = some v ∧ Q [v] := by
  simp only [yresults, yresult]
  cases ynt (nthD e (.c .top) k) with
  | none => simp
  | some v => simp
theorem yone_one (v : YV) : yone [v] = v := rfl
theorem yone_two (v w : YV) : yone [v, w] = .tup [v, w] := rfl
theorem ynt_p (c : PC) : ynt (.c (.p c)) = some (.c (.p c)) := rfl
theorem ynt_own (i z o l : Nat) : ynt (.c (.own i z o l)) = some (.c (.own i z o l)) := rfl
theorem ynt_agg (cs : List Ce) : ynt (.agg cs) = some (.agg cs) := rfl
theorem Rcall_pure {d : Option Nat} {f : FuncId} {args : List YV} {Q' : YV → Prop} (hc : PCall C f args Q') (hp : args.all purV = true) (hk : ∀ y, Q' y → Rg C pin draw gs rest fs Q (yput e d y) s) : Rcall C pin draw gs d rest fs Q e f args s := YC_pure hc hp hk
theorem Rtcall_pure {d : Option Nat} {f : FuncId} {args : List YV} {Q' : YV → Prop} (hc : PCall C f args Q') (hp : args.all purV = true) (hk : ∀ y, Q' y → Rt C pin gs rest rs ts fs Q (yput e d y) s) : Rtcall C pin gs d rest rs ts fs Q e f args s := YC_pure hc hp hk
theorem Rl_inv {c : Code} (I : Nat → List YV → Sto → Prop) (bs : List Bool) (d : Nat) (ks : List Nat) (hn : ks.Nodup) (hp : pinned pin ks) (h0 : I d (yren ks s bs e) (renS ks s))
    (round : ∀ d e s, I d e s → Rw C pin c [] (YThen (YNext I bs pin d) (kf C pin fs Q)) e s) : Rl C pin c fs Q e s := YL_inv I bs d ks hn hp h0 round
theorem Rl_nil {c : Code} (t sz : Nat) (h0 : sz ≠ 0) (ht : e[t]? = some (.c (.p (.d (.slice none 0 0))))) (hy : Rl C pin c fs Q (e.set t (.c (.own s.length sz 0 0))) (s ++ [.row sz []])) : Rl C pin c fs Q e s := Lift.nil t sz h0 ht hy
theorem Rl_nil0 {c : Code} (t sz : Nat) (ht : e[t]? = some (.c (.p (.d (.slice none 0 0))))) (hy : Rl C pin c fs Q (e.set t (.c (.p (.row sz [])))) s) : Rl C pin c fs Q e s := Lift.nil0 t sz ht hy
theorem Rd_calm {id : Nat} {l : List Oper} (hc : noConf C.P l = true) (hy : Rg C pin true (gsOf l) l fs Q (mk e) s) : Rd C pin id l.toArray fs Q e s := YD_calm hc hy
theorem Rd_trace {id : Nat} {l : List Oper} (hy : Rt C pin (gsOf l) l [] [] fs Q (mk e) s) : Rd C pin id l.toArray fs Q e s := YD_trace hy
theorem Pf {f : FuncId} {args : List YV} {fn : Func} {c : Code} {Q : YV → Prop} (ht : C.told f = none) (hf : Nat.ble (f + 1) C.top = true) (hfn : nth C.P.funcs.toList f = some fn) (hb : fn.body = some c)
    (hy : Rw C 0 c [] (fun x e s => (x = .normal ∨ x = .ret) ∧ ∃ vs, yresults C.P e s fn.results.toList = some vs ∧ Q (renV [] s (yone vs))) (args ++ List.replicate (fn.ntmps - args.length) (.c .top)) []) : PCall C f args Q := PCall_fn ht hf hfn hb hy
theorem take_map_len {α β : Type} (f : α → β) (l : List α) : (l.map f).take l.length = l.map f := by rw [← List.length_map (f := f), List.take_length]
theorem slotIx_nil (i : Nat) : slotIx [] i = none := rfl
theorem slotIx_cons (k i : Nat) (ks : List Nat) : slotIx (k :: ks) i = if k = i then some 0 else (match slotIx ks i with | some j => some (j + 1) | none => none) := by
  show (match Nat.beq k i with | true => some 0 | false => _) = _
  by_cases h : k = i
  · subst h; rw [Nat.beq_refl]; simp
  · rw [if_neg h]
    have : Nat.beq k i = false := by
      cases hb : Nat.beq k i with
      | false => rfl
      | true => exact absurd (Nat.eq_of_beq_eq_true hb) h
    rw [this]; rfl
theorem take_snoc {α : Type} (l : List α) (x : α) (n : Nat) (h : l.length = n) : (l ++ [x]).take (n + 1) = l ++ [x] := List.take_of_length_le (by simp [h])
theorem take_map_snoc {α β : Type} (f : α → β) (l : List α) (x : β) : (l.map f ++ [x]).take (l.length + 1) = l.map f ++ [x] := take_snoc _ _ _ (by simp)
theorem snoc_len {α : Type} (l : List α) (x : α) : (l ++ [x]).length = l.length + 1 := by simp
theorem nn (n : Nat) : (0 ≤ ((n : Nat) : Int)) = True := by simp
end
end Go.Vx
