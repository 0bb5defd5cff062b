/- The rules as equations, for simp. -/
import Derived.Test.YtbndpenalacjaaaVxTold
namespace Go.Vx
section
variable {C : Cx} {lo : Nat} {e : Env} {h : H}
theorem ex_det {n m : Nat} {c : Code} {x y : X × Env × H} (h1 : ex C n lo c e h = some x) (h2 : ex C m lo c e h = some y) : x = y := by
  have a := ex_le (Nat.le_max_left n m) _ _ _ _ _ h1
  have b := ex_le (Nat.le_max_right n m) _ _ _ _ _ h2
  rw [a] at b; exact Option.some.inj b
theorem W_skip_iff {Q : X → Env → H → Prop} : W C lo .skip e h Q = Q .normal e h := by
  apply propext
  refine ⟨fun ⟨n, x, e', h', h1, h2⟩ => ?_, W_skip⟩
  have := ex_det h1 (show ex C 1 lo .skip e h = some (.normal, e, h) from rfl)
  cases this; exact h2
theorem W_ret_iff {Q : X → Env → H → Prop} : W C lo .ret e h Q = Q .ret e h := by
  apply propext
  refine ⟨fun ⟨n, x, e', h', h1, h2⟩ => ?_, W_ret⟩
  have := ex_det h1 (show ex C 1 lo .ret e h = some (.ret, e, h) from rfl)
  cases this; exact h2
theorem W_exit_iff {Q : X → Env → H → Prop} {id : Nat} : W C lo (.exit id) e h Q = Q (.exit id) e h := by
  apply propext
  refine ⟨fun ⟨n, x, e', h', h1, h2⟩ => ?_, W_exit⟩
  have := ex_det h1 (show ex C 1 lo (.exit id) e h = some (.exit id, e, h) from rfl)
  cases this; exact h2
theorem W_seq_iff {a b : Code} {Q : X → Env → H → Prop} : W C lo (.seq a b) e h Q = W C lo a e h (Then (fun e h => W C lo b e h Q) Q) := by
  apply propext
  refine ⟨fun ⟨n, x, e', h', h1, h2⟩ => ?_, W_seq⟩
  cases n with
  | zero => rw [ex_zero] at h1; cases h1
  | succ n =>
    rw [ex_succ] at h1
    have h1 : exSeq (ex C n lo a e h) (fun e' h' => ex C n lo b e' h') = some (x, e', h') := h1
    unfold exSeq at h1
    split at h1
    · rename_i e1 g1 hr; exact ⟨n, _, e1, g1, hr, n, x, e', h', h1, h2⟩
    · rename_i hne
      refine ⟨n, x, e', h', h1, ?_⟩
      cases x with
      | normal => exact absurd h1 (hne e' h')
      | _ => exact h2
theorem W_cond_iff {t : Operand} {a b : Code} {Q : X → Env → H → Prop} : W C lo (.cond t a b) e h Q = ∃ v, ev e t = .bool v ∧ if v = true then W C lo a e h Q else W C lo b e h Q := by
  apply propext
  constructor
  · rintro ⟨n, x, e', h', h1, h2⟩
    cases n with
    | zero => rw [ex_zero] at h1; cases h1
    | succ n =>
      rw [ex_succ] at h1
      have h1 : exCond (ev e t) (ex C n lo a e h) (ex C n lo b e h) = some (x, e', h') := h1
      unfold exCond at h1
      split at h1
      · rename_i ht; exact ⟨true, ht, by rw [if_pos rfl]; exact ⟨n, x, e', h', h1, h2⟩⟩
      · rename_i ht; exact ⟨false, ht, by rw [if_neg (by simp)]; exact ⟨n, x, e', h', h1, h2⟩⟩
      · cases h1
  · rintro ⟨v, hv, hw⟩
    refine W_cond hv ?_
    cases v
    · simpa using hw
    · simpa using hw
theorem W_block_iff {id : Nat} {c : Code} {Q : X → Env → H → Prop} : W C lo (.block id c) e h Q = W C lo c e h (Out1 id Q) := by
  apply propext
  refine ⟨fun ⟨n, x, e', h', h1, h2⟩ => ?_, W_block⟩
  cases n with
  | zero => rw [ex_zero] at h1; cases h1
  | succ n =>
    rw [ex_succ] at h1
    have h1 : exBlock id (ex C n lo c e h) = some (x, e', h') := h1
    unfold exBlock at h1
    split at h1
    · rename_i i e1 g1 hr
      split at h1
      · rename_i hb
        cases h1
        exact ⟨n, _, e', h', hr, by rw [Nat.eq_of_beq_eq_true hb]; simpa [Out1] using h2⟩
      · rename_i hb
        cases h1
        exact ⟨n, _, e', h', hr, by simpa [Out1, Nat.ne_of_beq_eq_false hb] using h2⟩
    · rename_i hne
      refine ⟨n, x, e', h', h1, ?_⟩
      cases x with
      | exit i => exact absurd h1 (hne i e' h')
      | _ => exact h2
theorem W_region_iff {id : Nat} {ops : Array Oper} {Q : X → Env → H → Prop} : W C lo (.region id ops false) e h Q = WOps C false lo ops.toList ops.toList e h (Q .normal) := by
  apply propext
  refine ⟨fun ⟨n, x, e', h', h1, h2⟩ => ?_, W_region⟩
  cases n with
  | zero => rw [ex_zero] at h1; cases h1
  | succ n =>
    rw [ex_succ] at h1
    have h1 : exRegion C (ex C n) lo ops.toList false e h = some (x, e', h') := h1
    unfold exRegion at h1
    simp only at h1
    split at h1
    · rename_i hr; cases h1; exact ⟨n, e', h', hr, h2⟩
    · cases h1
theorem WOps_cons {draw : Bool} {ops rest : List Oper} {o : Oper} {Q : Env → H → Prop} : WOps C draw lo ops (o :: rest) e h Q =
    if wants ops e o = true then
      (match xop C.P C.eqs lo (ev e) o.op h with
      | some (.val v, h') => WOps C draw lo ops rest (eput e o.dst v) h' Q
      | some (.call f args, h') => WCall C (if draw then max lo h'.n else lo) f args h' fun v h'' => WOps C draw lo ops rest (eput e o.dst v) h'' Q
      | none => False)
    else WOps C draw lo ops rest (eput e o.dst undef) h Q := by
  apply propext
  constructor
  · rintro ⟨n, e2, h2, h3, h4⟩
    rw [xops_cons] at h3
    split at h3
    · rename_i v h5 hs
      unfold xstep at hs
      split at hs
      · rename_i hw
        rw [if_pos hw]
        split at hs
        · rename_i hx; rw [hx]; cases hs; exact ⟨n, e2, h2, h3, h4⟩
        · rename_i hx; rw [hx]; exact ⟨n, v, h5, hs, n, e2, h2, h3, h4⟩
        · cases hs
      · rename_i hw
        rw [if_neg hw]
        simp only [Option.some.injEq, Prod.mk.injEq] at hs
        obtain ⟨rfl, rfl⟩ := hs
        exact ⟨n, e2, h2, h3, h4⟩
    · cases h3
  · intro hq
    split at hq
    · rename_i hw
      split at hq
      · rename_i hx; exact WOps_val hw hx hq
      · rename_i hx
        have := xop_call_same hx
        subst this
        exact WOps_call hw hx hq
      · exact hq.elim
    · rename_i hw
      exact WOps_skip (by simpa using hw) hq
theorem WOps_nil' {draw : Bool} {ops : List Oper} {Q : Env → H → Prop} : WOps C draw lo ops [] e h Q = Q e h := propext WOps_nil
theorem nthD_zero {α : Type} (x : α) (xs : List α) (d : α) : nthD (x :: xs) d 0 = x := rfl
theorem nthD_succ {α : Type} (x : α) (xs : List α) (d : α) (n : Nat) : nthD (x :: xs) d (n + 1) = nthD xs d n := rfl
theorem nth_zero {α : Type} (x : α) (xs : List α) : nth (x :: xs) 0 = some x := rfl
theorem nth_succ {α : Type} (x : α) (xs : List α) (n : Nat) : nth (x :: xs) (n + 1) = nth xs n := rfl
theorem wants_none (ops : List Oper) (e : Env) (d : Option Nat) (op : Op) (t : TypeId) (p : String) (a : Array Edge) : wants ops e ⟨d, op, t, p, a, none⟩ = true := rfl
theorem wants_some (ops : List Oper) (e : Env) (d : Option Nat) (op : Op) (t : TypeId) (p : String) (a : Array Edge) (j : Nat) (w : Bool) : wants ops e ⟨d, op, t, p, a, some (j, w)⟩ = (match nth ops j with | some p => (match p.dst with | some d => (match nth e d with | some (.bool b) => b == w | _ => false) | none => false) | none => false) := rfl
theorem ret_ok : (X.ret = X.normal ∨ X.ret = X.ret) = True := by simp
noncomputable def guardOn (gs : List (Option Nat)) (e : Env) (j : Nat) (w : Bool) : Bool := match nth gs j with
  | some (some d) => (match nth e d with | some (.bool b) => b == w | _ => false)
  | _ => false
theorem nth_map {α β : Type} (f : α → β) : ∀ (l : List α) (n : Nat), nth (l.map f) n = (nth l n).map f := fun l n => by rw [nth_eq, nth_eq, List.getElem?_map]
theorem wants_guard {ops : List Oper} {e : Env} {d : Option Nat} {op : Op} {t : TypeId} {p : String} {a : Array Edge} {j : Nat} {w : Bool} : wants ops e ⟨d, op, t, p, a, some (j, w)⟩ = guardOn (ops.map Oper.dst) e j w := by
  rw [wants_some, guardOn, nth_map]
  cases nth ops j with
  | none => rfl
  | some p => cases hd : p.dst <;> simp [hd]
theorem WOps_dst {draw : Bool} {ops ops' os : List Oper} {e : Env} {h : H} {Q : Env → H → Prop} (he : ops.map Oper.dst = ops'.map Oper.dst) (hw : WOps C draw lo ops os e h Q) : WOps C draw lo ops' os e h Q := by
  induction os generalizing e h with
  | nil => rw [WOps_nil'] at hw ⊢; exact hw
  | cons o os ih =>
    have hwants : wants ops e o = wants ops' e o := by
      obtain ⟨d, op, t, p, a, g⟩ := o
      cases g with
      | none => rfl
      | some g => obtain ⟨j, w⟩ := g; rw [wants_guard, wants_guard, he]
    rw [WOps_cons] at hw ⊢
    rw [← hwants]
    split
    · rename_i ht
      rw [if_pos ht] at hw
      generalize xop C.P C.eqs lo (ev e) o.op h = r at hw ⊢
      match r, hw with
      | some (.val v, h1), hw => exact ih hw
      | some (.call f args, h1), hw => exact WCall.mono hw fun v h'' hq => ih hq
    · rename_i ht
      rw [if_neg ht] at hw
      exact ih hw
def mkO (d : Option Nat) : Oper := ⟨d, .move (.const undef), 0, "", #[], none⟩
theorem map_mkO (gs : List (Option Nat)) : (gs.map mkO).map Oper.dst = gs := by induction gs with | nil => rfl | cons g gs ih => simp only [List.map_cons, ih]; rfl
def WG (C : Cx) (draw : Bool) (lo : Nat) (gs : List (Option Nat)) (os : List Oper) (e : Env) (h : H) (Q : Env → H → Prop) : Prop := WOps C draw lo (gs.map mkO) os e h Q
theorem WG_iff {draw : Bool} {ops os : List Oper} {Q : Env → H → Prop} : WOps C draw lo ops os e h Q = WG C draw lo (ops.map Oper.dst) os e h Q :=
  propext ⟨WOps_dst (map_mkO _).symm, WOps_dst (map_mkO _)⟩
theorem WG_region {id : Nat} {ops : Array Oper} {Q : X → Env → H → Prop} : W C lo (.region id ops false) e h Q = WG C false lo (ops.toList.map Oper.dst) ops.toList e h (Q .normal) := by rw [W_region_iff, WG_iff]
theorem WG_nil {draw : Bool} {gs : List (Option Nat)} {Q : Env → H → Prop} : WG C draw lo gs [] e h Q = Q e h := WOps_nil'
def wgo (C : Cx) (draw : Bool) (lo : Nat) (gs : List (Option Nat)) (rest : List Oper) (d : Option Nat) (e : Env) (Q : Env → H → Prop) : Option (Out × H) → Prop
  | some (.val v, h') => WG C draw lo gs rest (eput e d v) h' Q
  | some (.call f args, h') => WCall C (if draw then max lo h'.n else lo) f args h' fun v h'' => WG C draw lo gs rest (eput e d v) h'' Q
  | none => False
theorem wgo_val {draw : Bool} {gs : List (Option Nat)} {rest : List Oper} {d : Option Nat} {Q : Env → H → Prop} {v : Value} {h' : H} : wgo C draw lo gs rest d e Q (some (.val v, h')) = WG C draw lo gs rest (eput e d v) h' Q := rfl
theorem wgo_call {draw : Bool} {gs : List (Option Nat)} {rest : List Oper} {d : Option Nat} {Q : Env → H → Prop} {f : FuncId} {args : List Value} {h' : H} : wgo C draw lo gs rest d e Q (some (.call f args, h')) = WCall C (if draw then max lo h'.n else lo) f args h' fun v h'' => WG C draw lo gs rest (eput e d v) h'' Q := rfl
theorem WG_none {draw : Bool} {gs : List (Option Nat)} {rest : List Oper} {d : Option Nat} {op : Op} {t : TypeId} {p : String} {a : Array Edge} {Q : Env → H → Prop} : WG C draw lo gs (⟨d, op, t, p, a, none⟩ :: rest) e h Q = wgo C draw lo gs rest d e Q (xop C.P C.eqs lo (ev e) op h) := by
  unfold WG
  rw [WOps_cons, wants_none, if_pos rfl]
  generalize xop C.P C.eqs lo (ev e) op h = r
  match r with
  | some (.val v, h1) => rfl
  | some (.call f args, h1) => rfl
  | none => rfl
def wgi (C : Cx) (draw : Bool) (lo : Nat) (gs : List (Option Nat)) (rest : List Oper) (d : Option Nat) (op : Op) (e : Env) (h : H) (Q : Env → H → Prop) : Bool → Prop
  | true => wgo C draw lo gs rest d e Q (xop C.P C.eqs lo (ev e) op h)
  | false => WG C draw lo gs rest (eput e d undef) h Q
theorem wgi_true {draw : Bool} {gs : List (Option Nat)} {rest : List Oper} {d : Option Nat} {op : Op} {Q : Env → H → Prop} : wgi C draw lo gs rest d op e h Q true = wgo C draw lo gs rest d e Q (xop C.P C.eqs lo (ev e) op h) := rfl
theorem wgi_false {draw : Bool} {gs : List (Option Nat)} {rest : List Oper} {d : Option Nat} {op : Op} {Q : Env → H → Prop} : wgi C draw lo gs rest d op e h Q false = WG C draw lo gs rest (eput e d undef) h Q := rfl
theorem WG_some {draw : Bool} {gs : List (Option Nat)} {rest : List Oper} {d : Option Nat} {op : Op} {t : TypeId} {p : String} {a : Array Edge} {j : Nat} {w : Bool} {Q : Env → H → Prop} : WG C draw lo gs (⟨d, op, t, p, a, some (j, w)⟩ :: rest) e h Q = wgi C draw lo gs rest d op e h Q (guardOn gs e j w) := by
  unfold WG
  rw [WOps_cons, wants_guard, map_mkO]
  cases guardOn gs e j w with
  | false => rfl
  | true =>
    rw [if_pos rfl]
    show _ = wgo C draw lo gs rest d e Q _
    generalize xop C.P C.eqs lo (ev e) op h = r
    match r with
    | some (.val v, h1) => rfl
    | some (.call f args, h1) => rfl
    | none => rfl
theorem bb_tt : (true == true) = true := rfl
theorem bb_tf : (true == false) = false := rfl
theorem bb_ft : (false == true) = false := rfl
theorem bb_ff : (false == false) = true := rfl
theorem W_calmG {id : Nat} {ops : Array Oper} {Q : X → Env → H → Prop} (hc : noConf C.P ops.toList = true) (hw : WG C true lo (ops.toList.map Oper.dst) ops.toList e h (Q .normal)) : W C lo (.region id ops true) e h Q :=
  W_calm hc (by rw [WG_iff]; exact hw)
abbrev Tr := List (Option Nat × Option Nat)
theorem WOpsT_cons {ops rest : List Oper} {o : Oper} {Q : Env → H → Tr → Prop} : WOpsT C lo ops (o :: rest) e h Q =
    if wants ops e o = true then
      (match xop C.P C.eqs lo (ev e) o.op h with
      | some (.val v, h') => WOpsT C lo ops rest (eput e o.dst v) h' fun e' h' tr => Q e' h' ((rdOf C.P (ev e) o.op, tgOf C.P (ev e) o.op) :: tr)
      | some (.call f args, h') => WCall C (max lo h'.n) f args h' fun v h'' => WOpsT C lo ops rest (eput e o.dst v) h'' fun e' h' tr => Q e' h' ((rdOf C.P (ev e) o.op, tgOf C.P (ev e) o.op) :: tr)
      | none => False)
    else WOpsT C lo ops rest (eput e o.dst undef) h fun e' h' tr => Q e' h' ((rdOf C.P (ev e) o.op, tgOf C.P (ev e) o.op) :: tr) := by
  apply propext
  constructor
  · rintro ⟨n, e2, h2, tr, h3, h4⟩
    rw [xopsT_cons] at h3
    split at h3
    · rename_i v h5 hs
      split at h3
      · rename_i e6 h6 tr6 hr
        cases h3
        unfold xstep at hs
        split at hs
        · rename_i hw
          rw [if_pos hw]
          split at hs
          · rename_i hx; rw [hx]; cases hs; exact ⟨n, e2, h2, tr6, hr, h4⟩
          · rename_i hx; rw [hx]; exact ⟨n, v, h5, hs, n, e2, h2, tr6, hr, h4⟩
          · cases hs
        · rename_i hw
          rw [if_neg hw]
          simp only [Option.some.injEq, Prod.mk.injEq] at hs
          obtain ⟨rfl, rfl⟩ := hs
          exact ⟨n, e2, h2, tr6, hr, h4⟩
      · cases h3
    · cases h3
  · intro hq
    split at hq
    · rename_i hw
      split at hq
      · rename_i hx; exact WOpsT_val hw hx hq
      · rename_i hx
        have := xop_call_same hx
        subst this
        exact WOpsT_call hw hx hq
      · exact hq.elim
    · rename_i hw
      exact WOpsT_skip (by simpa using hw) hq
theorem WOpsT_nil' {ops : List Oper} {Q : Env → H → Tr → Prop} : WOpsT C lo ops [] e h Q = Q e h [] := propext WOpsT_nil
theorem WOpsT_dst {ops ops' os : List Oper} {e : Env} {h : H} {Q : Env → H → Tr → Prop} (he : ops.map Oper.dst = ops'.map Oper.dst) (hw : WOpsT C lo ops os e h Q) : WOpsT C lo ops' os e h Q := by
  induction os generalizing e h Q with
  | nil => rw [WOpsT_nil'] at hw ⊢; exact hw
  | cons o os ih =>
    have hwants : wants ops e o = wants ops' e o := by
      obtain ⟨d, op, t, p, a, g⟩ := o
      cases g with
      | none => rfl
      | some g => obtain ⟨j, w⟩ := g; rw [wants_guard, wants_guard, he]
    rw [WOpsT_cons] at hw ⊢
    rw [← hwants]
    split
    · rename_i ht
      rw [if_pos ht] at hw
      generalize xop C.P C.eqs lo (ev e) o.op h = r at hw ⊢
      match r, hw with
      | some (.val v, h1), hw => exact ih hw
      | some (.call f args, h1), hw => exact WCall.mono hw fun v h'' hq => ih hq
    · rename_i ht
      rw [if_neg ht] at hw
      exact ih hw
def WT (C : Cx) (lo : Nat) (gs : List (Option Nat)) (os : List Oper) (e : Env) (h : H) (pre : Tr) (Q : Env → H → Tr → Prop) : Prop := WOpsT C lo (gs.map mkO) os e h fun e h tr => Q e h (pre ++ tr)
theorem W_drawnG {id : Nat} {ops : Array Oper} {Q : X → Env → H → Prop} (hw : WT C lo (ops.toList.map Oper.dst) ops.toList e h [] fun e h tr => okTrace ops.toList tr = true ∧ Q .normal e h) : W C lo (.region id ops true) e h Q :=
  W_drawn (WOpsT_dst (map_mkO _) hw)
theorem WT_nil {gs : List (Option Nat)} {pre : Tr} {Q : Env → H → Tr → Prop} : WT C lo gs [] e h pre Q = Q e h pre := by
  unfold WT
  rw [WOpsT_nil', List.append_nil]
def wto (C : Cx) (lo : Nat) (gs : List (Option Nat)) (rest : List Oper) (d : Option Nat) (e : Env) (pre : Tr) (Q : Env → H → Tr → Prop) : Option (Out × H) → Prop
  | some (.val v, h') => WT C lo gs rest (eput e d v) h' pre Q
  | some (.call f args, h') => WCall C (max lo h'.n) f args h' fun v h'' => WT C lo gs rest (eput e d v) h'' pre Q
  | none => False
theorem wto_val {gs : List (Option Nat)} {rest : List Oper} {d : Option Nat} {pre : Tr} {Q : Env → H → Tr → Prop} {v : Value} {h' : H} : wto C lo gs rest d e pre Q (some (.val v, h')) = WT C lo gs rest (eput e d v) h' pre Q := rfl
theorem wto_call {gs : List (Option Nat)} {rest : List Oper} {d : Option Nat} {pre : Tr} {Q : Env → H → Tr → Prop} {f : FuncId} {args : List Value} {h' : H} : wto C lo gs rest d e pre Q (some (.call f args, h')) = WCall C (max lo h'.n) f args h' fun v h'' => WT C lo gs rest (eput e d v) h'' pre Q := rfl
theorem WT_none {gs : List (Option Nat)} {rest : List Oper} {d : Option Nat} {op : Op} {t : TypeId} {p : String} {a : Array Edge} {pre : Tr} {Q : Env → H → Tr → Prop} :
    WT C lo gs (⟨d, op, t, p, a, none⟩ :: rest) e h pre Q = wto C lo gs rest d e (pre ++ [(rdOf C.P (ev e) op, tgOf C.P (ev e) op)]) Q (xop C.P C.eqs lo (ev e) op h) := by
  unfold WT
  rw [WOpsT_cons, wants_none, if_pos rfl]
  generalize xop C.P C.eqs lo (ev e) op h = r
  match r with
  | some (.val v, h1) => simp only [wto, WT, List.append_assoc, List.cons_append, List.nil_append]
  | some (.call f args, h1) => simp only [wto, WT, List.append_assoc, List.cons_append, List.nil_append]
  | none => rfl
def wti (C : Cx) (lo : Nat) (gs : List (Option Nat)) (rest : List Oper) (d : Option Nat) (op : Op) (e : Env) (h : H) (pre : Tr) (Q : Env → H → Tr → Prop) : Bool → Prop
  | true => wto C lo gs rest d e pre Q (xop C.P C.eqs lo (ev e) op h)
  | false => WT C lo gs rest (eput e d undef) h pre Q
theorem wti_true {gs : List (Option Nat)} {rest : List Oper} {d : Option Nat} {op : Op} {pre : Tr} {Q : Env → H → Tr → Prop} : wti C lo gs rest d op e h pre Q true = wto C lo gs rest d e pre Q (xop C.P C.eqs lo (ev e) op h) := rfl
theorem wti_false {gs : List (Option Nat)} {rest : List Oper} {d : Option Nat} {op : Op} {pre : Tr} {Q : Env → H → Tr → Prop} : wti C lo gs rest d op e h pre Q false = WT C lo gs rest (eput e d undef) h pre Q := rfl
theorem WT_some {gs : List (Option Nat)} {rest : List Oper} {d : Option Nat} {op : Op} {t : TypeId} {p : String} {a : Array Edge} {j : Nat} {w : Bool} {pre : Tr} {Q : Env → H → Tr → Prop} :
    WT C lo gs (⟨d, op, t, p, a, some (j, w)⟩ :: rest) e h pre Q = wti C lo gs rest d op e h (pre ++ [(rdOf C.P (ev e) op, tgOf C.P (ev e) op)]) Q (guardOn gs e j w) := by
  unfold WT
  rw [WOpsT_cons, wants_guard, map_mkO]
  cases guardOn gs e j w with
  | false => simp only [wti, WT, List.append_assoc, List.cons_append, List.nil_append, Bool.false_eq_true, if_false]
  | true =>
    rw [if_pos rfl]
    show _ = wto C lo gs rest d e _ Q _
    generalize xop C.P C.eqs lo (ev e) op h = r
    match r with
    | some (.val v, h1) => simp only [wto, WT, List.append_assoc, List.cons_append, List.nil_append]
    | some (.call f args, h1) => simp only [wto, WT, List.append_assoc, List.cons_append, List.nil_append]
    | none => rfl
end
end Go.Vx
