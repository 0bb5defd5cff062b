/- Rules for reasoning about the interpreter. -/
import Derived.Test.YtbndpenalacjaaaVxFun
namespace Go.Vx
section
variable (C : Cx)
def RunLe (r r' : Nat → Code → Env → H → Option (X × Env × H)) : Prop := ∀ lo c e h x, r lo c e h = some x → r' lo c e h = some x
variable {C}
theorem xcall_le {r r' : Nat → Code → Env → H → Option (X × Env × H)} (hr : RunLe r r') {lo : Nat} {f : FuncId} {args : List Value} {h : H} {x : Value × H}
    (hx : xcall C r lo f args h = some x) : xcall C r' lo f args h = some x := by
  unfold xcall at hx ⊢
  split at hx
  · exact hx
  · split at hx
    · split at hx
      · cases hx
      · split at hx
        · cases hx
        · split at hx
          · rename_i h1
            rw [hr _ _ _ _ _ h1]; exact hx
          · rename_i h1
            rw [hr _ _ _ _ _ h1]; exact hx
          · cases hx
    · cases hx
def CallLe (r r' : Nat → FuncId → List Value → H → Option (Value × H)) : Prop := ∀ lo f args h x, r lo f args h = some x → r' lo f args h = some x
theorem xstep_le {r r' : Nat → FuncId → List Value → H → Option (Value × H)} (hr : CallLe r r') {draw : Bool} {lo : Nat} {ops : List Oper} {o : Oper} {e : Env} {h : H} {x : Value × H}
    (hx : xstep C r draw lo ops o e h = some x) : xstep C r' draw lo ops o e h = some x := by
  unfold xstep at hx ⊢
  split at hx
  · rename_i hw
    rw [if_pos hw]
    split at hx
    · exact hx
    · exact hr _ _ _ _ _ hx
    · cases hx
  · rename_i hw
    rw [if_neg hw]; exact hx
theorem xops_le {r r' : Nat → FuncId → List Value → H → Option (Value × H)} (hr : CallLe r r') {draw : Bool} {lo : Nat} {ops : List Oper} : ∀ {os : List Oper} {e : Env} {h : H} {x : Env × H},
    xops C r draw lo ops os e h = some x → xops C r' draw lo ops os e h = some x
  | [], e, h, x, hx => hx
  | o :: os, e, h, x, hx => by
    rw [xops_cons] at hx ⊢
    split at hx
    · rename_i h1
      rw [xstep_le hr h1]; exact xops_le hr hx
    · cases hx
theorem xopsT_le {r r' : Nat → FuncId → List Value → H → Option (Value × H)} (hr : CallLe r r') {lo : Nat} {ops : List Oper} : ∀ {os : List Oper} {e : Env} {h : H} {x : Env × H × List (Option Nat × Option Nat)},
    xopsT C r lo ops os e h = some x → xopsT C r' lo ops os e h = some x
  | [], e, h, x, hx => hx
  | o :: os, e, h, x, hx => by
    rw [xopsT_cons] at hx ⊢
    split at hx
    · rename_i h1
      rw [xstep_le hr h1]
      split at hx
      · rename_i h2
        simp only [xopsT_le hr h2]; exact hx
      · cases hx
    · cases hx
theorem exStep_le {r r' : Nat → Code → Env → H → Option (X × Env × H)} (hr : RunLe r r') : RunLe (exStep C r) (exStep C r') := by
  intro lo c e h x hx
  have hc : CallLe (xcall C r) (xcall C r') := fun lo f args h x hx => xcall_le hr hx
  unfold exStep at hx ⊢
  have seq : ∀ (a a' : Option (X × Env × H)) (k k' : Env → H → Option (X × Env × H)), (∀ x, a = some x → a' = some x) → (∀ e h x, k e h = some x → k' e h = some x) → exSeq a k = some x → exSeq a' k' = some x := by
    intro a a' k k' ha hk hx
    unfold exSeq at hx ⊢
    split at hx
    · rw [ha _ rfl]; exact hk _ _ _ hx
    · rename_i hne
      rw [ha _ hx]
      obtain ⟨x, e, h⟩ := x
      cases x with
      | normal => exact absurd hx (hne e h)
      | _ => rfl
  split at hx
  · exact hx
  · unfold exRegion at hx ⊢
    split at hx
    · split at hx
      · rename_i h1; simp only [xops_le hc h1]; exact hx
      · cases hx
    · split at hx
      · rename_i h1; simp only [xopsT_le hc h1]; exact hx
      · cases hx
  · exact seq _ _ _ _ (fun x h1 => hr _ _ _ _ _ h1) (fun e h x h1 => hr _ _ _ _ _ h1) hx
  · unfold exCond at hx ⊢
    split at hx
    · exact hr _ _ _ _ _ hx
    · exact hr _ _ _ _ _ hx
    · cases hx
  · rename_i id c
    cases h1 : r lo c e h with
    | none => rw [h1] at hx; simp [exBlock] at hx
    | some y => rw [h1] at hx; rw [hr _ _ _ _ _ h1]; exact hx
  · exact seq _ _ _ _ (fun x h1 => hr _ _ _ _ _ h1) (fun e h x h1 => hr _ _ _ _ _ h1) hx
  · exact hx
  · exact hx
  · cases hx
theorem ex_le : ∀ {n m : Nat}, n ≤ m → RunLe (ex C n) (ex C m)
  | 0, m, _ => fun lo c e h x hx => by rw [ex_zero] at hx; cases hx
  | n + 1, 0, h => by omega
  | n + 1, m + 1, h => fun lo c e h' x hx => by
    rw [ex_succ] at hx ⊢
    exact exStep_le (ex_le (by omega)) lo c e h' x hx
def W (C : Cx) (lo : Nat) (c : Code) (e : Env) (h : H) (Q : X → Env → H → Prop) : Prop := ∃ n x e' h', ex C n lo c e h = some (x, e', h') ∧ Q x e' h'
def WOps (C : Cx) (draw : Bool) (lo : Nat) (ops os : List Oper) (e : Env) (h : H) (Q : Env → H → Prop) : Prop := ∃ n e' h', xops C (xcall C (ex C n)) draw lo ops os e h = some (e', h') ∧ Q e' h'
def WCall (C : Cx) (lo : Nat) (f : FuncId) (args : List Value) (h : H) (Q : Value → H → Prop) : Prop := ∃ n v h', xcall C (ex C n) lo f args h = some (v, h') ∧ Q v h'
variable {lo : Nat} {e : Env} {h : H}
theorem W.mono {c : Code} {Q Q' : X → Env → H → Prop} (hw : W C lo c e h Q) (hq : ∀ x e h, Q x e h → Q' x e h) : W C lo c e h Q' :=
  let ⟨n, x, e', h', h1, h2⟩ := hw; ⟨n, x, e', h', h1, hq _ _ _ h2⟩
theorem WCall.mono {f : FuncId} {args : List Value} {Q Q' : Value → H → Prop} (hw : WCall C lo f args h Q) (hq : ∀ v h, Q v h → Q' v h) : WCall C lo f args h Q' :=
  let ⟨n, v, h', h1, h2⟩ := hw; ⟨n, v, h', h1, hq _ _ h2⟩
theorem W_skip {Q : X → Env → H → Prop} (hq : Q .normal e h) : W C lo .skip e h Q := ⟨1, _, _, _, rfl, hq⟩
theorem W_ret {Q : X → Env → H → Prop} (hq : Q .ret e h) : W C lo .ret e h Q := ⟨1, _, _, _, rfl, hq⟩
theorem W_exit {Q : X → Env → H → Prop} {id : Nat} (hq : Q (.exit id) e h) : W C lo (.exit id) e h Q := ⟨1, _, _, _, rfl, hq⟩
def Then (k : Env → H → Prop) (Q : X → Env → H → Prop) : X → Env → H → Prop
  | .normal, e, h => k e h
  | x, e, h => Q x e h
theorem seq_of {n : Nat} {c : Code} {k : Nat → Env → H → Option (X × Env × H)} (hk : ∀ n m : Nat, n ≤ m → ∀ e h x, k n e h = some x → k m e h = some x)
    {Q : X → Env → H → Prop} {x : X} {e' : Env} {h' : H} (h1 : ex C n lo c e h = some (x, e', h')) (h2 : Then (fun e h => ∃ m x e' h', k m e h = some (x, e', h') ∧ Q x e' h') Q x e' h') :
    ∃ m x e' h', exSeq (ex C m lo c e h) (k m) = some (x, e', h') ∧ Q x e' h' := by
  cases x with
  | normal =>
    obtain ⟨m, x2, e2, h2', h3, h4⟩ := h2
    refine ⟨max n m, x2, e2, h2', ?_, h4⟩
    rw [ex_le (Nat.le_max_left n m) _ _ _ _ _ h1]
    exact hk m _ (Nat.le_max_right n m) _ _ _ h3
  | exit id => exact ⟨n, _, e', h', by rw [h1]; rfl, h2⟩
  | ret => exact ⟨n, _, e', h', by rw [h1]; rfl, h2⟩
theorem W_seq {a b : Code} {Q : X → Env → H → Prop} (hw : W C lo a e h (Then (fun e h => W C lo b e h Q) Q)) : W C lo (.seq a b) e h Q := by
  obtain ⟨n, x, e', h', h1, h2⟩ := hw
  obtain ⟨m, x2, e2, h2', h3, h4⟩ := seq_of (k := fun m e h => ex C m lo b e h) (fun n m hnm e h x hx => ex_le hnm _ _ _ _ _ hx) h1 h2
  exact ⟨m + 1, x2, e2, h2', by rw [ex_succ]; exact h3, h4⟩
theorem W_loop {c : Code} {Q : X → Env → H → Prop} (hw : W C lo c e h (Then (fun e h => W C lo (.loop c) e h Q) Q)) : W C lo (.loop c) e h Q := by
  obtain ⟨n, x, e', h', h1, h2⟩ := hw
  obtain ⟨m, x2, e2, h2', h3, h4⟩ := seq_of (k := fun m e h => ex C m lo (.loop c) e h) (fun n m hnm e h x hx => ex_le hnm _ _ _ _ _ hx) h1 h2
  exact ⟨m + 1, x2, e2, h2', by rw [ex_succ]; exact h3, h4⟩
theorem W_cond {t : Operand} {a b : Code} {Q : X → Env → H → Prop} {v : Bool} (hv : ev e t = .bool v) (hw : W C lo (if v = true then a else b) e h Q) : W C lo (.cond t a b) e h Q := by
  obtain ⟨n, x, e', h', h1, h2⟩ := hw
  refine ⟨n + 1, x, e', h', ?_, h2⟩
  rw [ex_succ]
  show exCond (ev e t) _ _ = _
  rw [hv]
  cases v
  · exact h1
  · exact h1
def Out1 (id : Nat) (Q : X → Env → H → Prop) : X → Env → H → Prop
  | .exit i, e, h => if i = id then Q .normal e h else Q (.exit i) e h
  | x, e, h => Q x e h
theorem W_block {id : Nat} {c : Code} {Q : X → Env → H → Prop} (hw : W C lo c e h (Out1 id Q)) : W C lo (.block id c) e h Q := by
  obtain ⟨n, x, e', h', h1, h2⟩ := hw
  cases x with
  | normal => exact ⟨n + 1, _, e', h', by rw [ex_succ]; show exBlock id (ex C n lo c e h) = _; rw [h1]; rfl, h2⟩
  | ret => exact ⟨n + 1, _, e', h', by rw [ex_succ]; show exBlock id (ex C n lo c e h) = _; rw [h1]; rfl, h2⟩
  | exit i =>
    by_cases hi : i = id
    · subst hi
      simp only [Out1, if_true] at h2
      exact ⟨n + 1, _, e', h', by rw [ex_succ]; show exBlock i (ex C n lo c e h) = _; rw [h1]; simp [exBlock], h2⟩
    · simp only [Out1, if_neg hi] at h2
      exact ⟨n + 1, _, e', h', by
        rw [ex_succ]; show exBlock id (ex C n lo c e h) = _; rw [h1]
        have : Nat.beq i id = false := by cases hb : Nat.beq i id with
          | true => exact absurd (Nat.eq_of_beq_eq_true hb) hi
          | false => rfl
        simp [exBlock, this], h2⟩
theorem W_region {id : Nat} {ops : Array Oper} {Q : X → Env → H → Prop} (hw : WOps C false lo ops.toList ops.toList e h (Q .normal)) : W C lo (.region id ops false) e h Q := by
  obtain ⟨n, e', h', h1, h2⟩ := hw
  exact ⟨n + 1, .normal, e', h', by rw [ex_succ]; show exRegion C (ex C n) lo ops.toList false e h = _; unfold exRegion; simp only [h1], h2⟩
theorem WOps_nil {draw : Bool} {ops : List Oper} {Q : Env → H → Prop} : WOps C draw lo ops [] e h Q ↔ Q e h := by
  constructor
  · rintro ⟨n, e', h', h1, h2⟩; rw [xops_nil] at h1; cases h1; exact h2
  · intro hq; exact ⟨0, e, h, rfl, hq⟩
theorem WOps_val {draw : Bool} {ops rest : List Oper} {o : Oper} {Q : Env → H → Prop} {v : Value} {h' : H} (hw : wants ops e o = true) (hx : xop C.P C.eqs lo (ev e) o.op h = some (.val v, h'))
    (hq : WOps C draw lo ops rest (eput e o.dst v) h' Q) : WOps C draw lo ops (o :: rest) e h Q := by
  obtain ⟨n, e2, h2, h3, h4⟩ := hq
  refine ⟨n, e2, h2, ?_, h4⟩
  rw [xops_cons]
  unfold xstep
  rw [if_pos hw, hx]
  exact h3
theorem WOps_skip {draw : Bool} {ops rest : List Oper} {o : Oper} {Q : Env → H → Prop} (hw : wants ops e o = false)
    (hq : WOps C draw lo ops rest (eput e o.dst undef) h Q) : WOps C draw lo ops (o :: rest) e h Q := by
  obtain ⟨n, e2, h2, h3, h4⟩ := hq
  refine ⟨n, e2, h2, ?_, h4⟩
  rw [xops_cons]
  unfold xstep
  rw [if_neg (by rw [hw]; simp)]
  exact h3
theorem WOps_call {draw : Bool} {ops rest : List Oper} {o : Oper} {Q : Env → H → Prop} {f : FuncId} {args : List Value} (hw : wants ops e o = true) (hx : xop C.P C.eqs lo (ev e) o.op h = some (.call f args, h))
    (hq : WCall C (if draw then max lo h.n else lo) f args h fun v h' => WOps C draw lo ops rest (eput e o.dst v) h' Q) : WOps C draw lo ops (o :: rest) e h Q := by
  obtain ⟨n, v, h1, h2, n2, e2, h3, h4, h5⟩ := hq
  refine ⟨max n n2, e2, h3, ?_, h5⟩
  rw [xops_cons]
  unfold xstep
  rw [if_pos hw, hx]
  simp only
  rw [xcall_le (ex_le (Nat.le_max_left n n2)) h2]
  exact xops_le (fun lo f args h x hx => xcall_le (ex_le (Nat.le_max_right n n2)) hx) h4
theorem WCall_fn {f : FuncId} {args : List Value} {fn : Func} {c : Code} {Q : Value → H → Prop} (ht : C.told f = none) (hf : Nat.ble (f + 1) C.top = true) (hfn : nth C.P.funcs.toList f = some fn) (hb : fn.body = some c)
    (hw : W C lo c (args ++ List.replicate (fn.ntmps - args.length) undef) h fun x e h' => (x = .normal ∨ x = .ret) ∧ ∃ vs, xresults C e h' fn.results.toList = some vs ∧ Q (one vs) h') : WCall C lo f args h Q := by
  obtain ⟨n, x, e', h', h1, hx, vs, h2, h3⟩ := hw
  refine ⟨n, one vs, h', ?_, h3⟩
  unfold xcall
  rw [ht]
  simp only [hf, hfn, hb, h1]
  rcases hx with rfl | rfl <;> simp only [h2]
theorem WCall_told {f : FuncId} {args : List Value} {g : Nat → List Value → H → Option (Value × H)} {v : Value} {h' : H} {Q : Value → H → Prop} (ht : C.told f = some g) (hg : g lo args h = some (v, h')) (hq : Q v h') :
    WCall C lo f args h Q := ⟨0, v, h', by unfold xcall; rw [ht]; exact hg, hq⟩
def WOpsT (C : Cx) (lo : Nat) (ops os : List Oper) (e : Env) (h : H) (Q : Env → H → List (Option Nat × Option Nat) → Prop) : Prop :=
  ∃ n e' h' tr, xopsT C (xcall C (ex C n)) lo ops os e h = some (e', h', tr) ∧ Q e' h' tr
theorem WOpsT_nil {ops : List Oper} {Q : Env → H → List (Option Nat × Option Nat) → Prop} : WOpsT C lo ops [] e h Q ↔ Q e h [] := by
  constructor
  · rintro ⟨n, e', h', tr, h1, h2⟩; rw [xopsT_nil] at h1; cases h1; exact h2
  · intro hq; exact ⟨0, e, h, [], rfl, hq⟩
theorem WOpsT_val {ops rest : List Oper} {o : Oper} {Q : Env → H → List (Option Nat × Option Nat) → Prop} {v : Value} {h' : H} (hw : wants ops e o = true) (hx : xop C.P C.eqs lo (ev e) o.op h = some (.val v, h'))
    (hq : WOpsT C lo ops rest (eput e o.dst v) h' fun e' h' tr => Q e' h' ((rdOf C.P (ev e) o.op, tgOf C.P (ev e) o.op) :: tr)) : WOpsT C lo ops (o :: rest) e h Q := by
  obtain ⟨n, e2, h2, tr, h3, h4⟩ := hq
  refine ⟨n, e2, h2, _, ?_, h4⟩
  rw [xopsT_cons]
  unfold xstep
  rw [if_pos hw, hx]
  simp only [h3]
theorem WOpsT_skip {ops rest : List Oper} {o : Oper} {Q : Env → H → List (Option Nat × Option Nat) → Prop} (hw : wants ops e o = false)
    (hq : WOpsT C lo ops rest (eput e o.dst undef) h fun e' h' tr => Q e' h' ((rdOf C.P (ev e) o.op, tgOf C.P (ev e) o.op) :: tr)) : WOpsT C lo ops (o :: rest) e h Q := by
  obtain ⟨n, e2, h2, tr, h3, h4⟩ := hq
  refine ⟨n, e2, h2, _, ?_, h4⟩
  rw [xopsT_cons]
  unfold xstep
  rw [if_neg (by rw [hw]; simp)]
  simp only [h3]
theorem WOpsT_call {ops rest : List Oper} {o : Oper} {Q : Env → H → List (Option Nat × Option Nat) → Prop} {f : FuncId} {args : List Value} (hw : wants ops e o = true) (hx : xop C.P C.eqs lo (ev e) o.op h = some (.call f args, h))
    (hq : WCall C (max lo h.n) f args h fun v h' => WOpsT C lo ops rest (eput e o.dst v) h' fun e' h' tr => Q e' h' ((rdOf C.P (ev e) o.op, tgOf C.P (ev e) o.op) :: tr)) : WOpsT C lo ops (o :: rest) e h Q := by
  obtain ⟨n, v, h1, h2, n2, e2, h3, tr, h4, h5⟩ := hq
  refine ⟨max n n2, e2, h3, _, ?_, h5⟩
  rw [xopsT_cons]
  unfold xstep
  rw [if_pos hw, hx]
  simp only [if_true]
  rw [xcall_le (ex_le (Nat.le_max_left n n2)) h2]
  simp only [xopsT_le (fun lo f args h x hx => xcall_le (ex_le (Nat.le_max_right n n2)) hx) h4]
theorem W_drawn {id : Nat} {ops : Array Oper} {Q : X → Env → H → Prop} (hw : WOpsT C lo ops.toList ops.toList e h fun e h tr => okTrace ops.toList tr = true ∧ Q .normal e h) : W C lo (.region id ops true) e h Q := by
  obtain ⟨n, e', h', tr, h1, h2, h3⟩ := hw
  exact ⟨n + 1, .normal, e', h', by rw [ex_succ]; show exRegion C (ex C n) lo ops.toList true e h = _; unfold exRegion; simp only [h1, h2, if_true], h3⟩
theorem rd_isRd {P : Program} {ρ : Operand → Value} {op : Op} {r : Nat} (h : rdOf P ρ op = some r) : isRd P op = true := by
  cases op <;> simp only [rdOf] at h <;> try (cases h; done)
  case load t a => rfl
  case convert s d x =>
    split at h
    · rename_i hc; exact hc
    · cases h
theorem tg_isMut {P : Program} {ρ : Operand → Value} {op : Op} {t : Nat} (h : tgOf P ρ op = some t) : isMut P op = true := by
  cases hm : isMut P op with
  | true => rfl
  | false => rw [tg_none hm] at h; cases h
theorem trace_of {r : Nat → FuncId → List Value → H → Option (Value × H)} {ops : List Oper} : ∀ {os : List Oper} {e : Env} {h : H} {e' : Env} {h' : H}, xops C r true lo ops os e h = some (e', h') →
    ∃ tr, xopsT C r lo ops os e h = some (e', h', tr) ∧ tr.length = os.length ∧ ∀ (i : Nat) (o : Oper) (x : Option Nat × Option Nat), os[i]? = some o → tr[i]? = some x → (∀ r, x.1 = some r → isRd C.P o.op = true) ∧ ∀ t, x.2 = some t → isMut C.P o.op = true
  | [], e, h, e', h', hx => by
    rw [xops_nil] at hx; cases hx
    exact ⟨[], rfl, rfl, fun i o x h => by simp at h⟩
  | o :: os, e, h, e', h', hx => by
    rw [xops_cons] at hx
    split at hx
    · rename_i v h1 hs
      obtain ⟨tr, h2, h3, h4⟩ := trace_of hx
      refine ⟨(rdOf C.P (ev e) o.op, tgOf C.P (ev e) o.op) :: tr, by rw [xopsT_cons, hs]; simp only [h2], by simp [h3], fun i o' x ho hx' => ?_⟩
      cases i with
      | zero =>
        simp at ho hx'
        subst ho; subst hx'
        exact ⟨fun r hr => rd_isRd hr, fun t ht => tg_isMut ht⟩
      | succ i => simp at ho hx'; exact h4 i o' x ho hx'
    · cases hx
theorem rds_of : ∀ {tr : List (Option Nat × Option Nat)} {k i r : Nat}, (i, r) ∈ rdsOf tr k → ∃ j t, i = k + j ∧ tr[j]? = some (some r, t)
  | [], k, i, r, h => by simp [rdsOf] at h
  | (x, y) :: tr, k, i, r, h => by
    cases x with
    | none =>
      simp only [rdsOf] at h
      obtain ⟨j, t, h1, h2⟩ := rds_of h
      exact ⟨j + 1, t, by omega, by simpa using h2⟩
    | some q =>
      simp only [rdsOf, List.mem_cons] at h
      rcases h with h | h
      · cases h; exact ⟨0, y, rfl, rfl⟩
      · obtain ⟨j, t, h1, h2⟩ := rds_of h
        exact ⟨j + 1, t, by omega, by simpa using h2⟩
theorem tgs_of : ∀ {tr : List (Option Nat × Option Nat)} {k i t : Nat}, (i, t) ∈ tgsOf tr k → ∃ j r, i = k + j ∧ tr[j]? = some (r, some t)
  | [], k, i, r, h => by simp [tgsOf] at h
  | (x, y) :: tr, k, i, r, h => by
    cases y with
    | none =>
      simp only [tgsOf] at h
      obtain ⟨j, t, h1, h2⟩ := tgs_of h
      exact ⟨j + 1, t, by omega, by simpa using h2⟩
    | some q =>
      simp only [tgsOf, List.mem_cons] at h
      rcases h with h | h
      · cases h; exact ⟨0, x, rfl, rfl⟩
      · obtain ⟨j, t, h1, h2⟩ := tgs_of h
        exact ⟨j + 1, t, by omega, by simpa using h2⟩
theorem W_calm {id : Nat} {ops : Array Oper} {Q : X → Env → H → Prop} (hc : noConf C.P ops.toList = true) (hw : WOps C true lo ops.toList ops.toList e h (Q .normal)) : W C lo (.region id ops true) e h Q := by
  obtain ⟨n, e', h', h1, h2⟩ := hw
  obtain ⟨tr, h3, h4, h5⟩ := trace_of h1
  refine W_drawn ⟨n, e', h', tr, h3, ?_, h2⟩
  unfold okTrace
  cases hts : tgsOf tr 0 with
  | nil => rfl
  | cons t0 ts =>
    simp only [okPairs, List.all_eq_true]
    intro y hy x hx
    rw [← hts] at hy
    obtain ⟨i, r⟩ := x
    obtain ⟨j, t⟩ := y
    obtain ⟨i', _, e1, g1⟩ := rds_of hx
    obtain ⟨j', _, e2, g2⟩ := tgs_of hy
    simp only [Nat.zero_add] at e1 e2
    subst e1; subst e2
    have li : i < ops.toList.length := by rw [← h4]; apply Classical.byContradiction; intro hc; rw [List.getElem?_eq_none (by omega)] at g1; cases g1
    have lj : j < ops.toList.length := by rw [← h4]; apply Classical.byContradiction; intro hc; rw [List.getElem?_eq_none (by omega)] at g2; cases g2
    have a1 := (h5 i _ _ (List.getElem?_eq_getElem li) g1).1 r rfl
    have a2 := (h5 j _ _ (List.getElem?_eq_getElem lj) g2).2 t rfl
    unfold noConf at hc
    simp only [List.all_eq_true, Bool.or_eq_true, Bool.not_eq_true'] at hc
    rcases hc _ (mem_zipIdx (List.getElem?_eq_getElem li)) with h | h
    · rw [a1] at h; cases h
    · rcases h _ (mem_zipIdx (List.getElem?_eq_getElem lj)) with (h | h) | h
      · rw [a2] at h; cases h
      · simp only [apartTr, h, Bool.true_or]
      · simp only [apartTr, h, Bool.or_true, Bool.true_or]
end
end Go.Vx
