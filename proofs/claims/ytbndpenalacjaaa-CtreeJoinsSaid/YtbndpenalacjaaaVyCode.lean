/- Regions, code and calls among values as they are. -/
import Derived.Test.YtbndpenalacjaaaVyApp
namespace Go.Vx
def YC (C : Cx) (draw : Bool) (f : FuncId) (args : List YV) (s : Sto) (K : YV → Sto → Prop) : Prop :=
  ∀ (lo : Nat) (m : Mp) (R : Nat → Prop) (h : H) (vals : List Value), SRep lo m R h s → L2 (VRep m R h) args vals →
    WCall C (if draw then max lo h.n else lo) f vals h fun v h' => ∃ m' R' s' y, K y s' ∧ SRep lo m' R' h' s' ∧ VRep m' R' h' y v ∧ Stp m R h s m' R' h' s' ∧ MpLe m m' ∧ (draw = true → s' = s ∧ m' = m ∧ ∀ b, R' b → b < h.n → R b)
def ygo (C : Cx) (draw : Bool) (K : YV → Sto → Prop) : Option (YOut × Sto) → Prop
  | some (.val v, s) => K v s
  | some (.call f args, s) => YC C draw f args s K
  | none => False
def yput (e : List YV) (d : Option Nat) (v : YV) : List YV := match d with | some d => e.set d v | none => e
def ygb (w : Bool) : Option YV → Option Bool
  | some (.c (.p (.d (.bool b)))) => some (b == w)
  | some (.tup []) => some false
  | _ => none
noncomputable def ygd (e : List YV) (w : Bool) : Option (Option Nat) → Option Bool
  | some (some d) => ygb w (nth e d)
  | _ => some false
noncomputable def yguard (gs : List (Option Nat)) (e : List YV) (j : Nat) (w : Bool) : Option Bool := ygd e w (nth gs j)
def ygi (A B : Prop) : Option Bool → Prop
  | some true => A
  | some false => B
  | none => False
noncomputable def YG (C : Cx) (draw : Bool) (gs : List (Option Nat)) : List Oper → List YV → Sto → (List YV → Sto → Prop) → Prop
  | [], e, s, Q => Q e s
  | ⟨d, op, _, _, _, none⟩ :: rest, e, s, Q => ygo C draw (fun v s => YG C draw gs rest (yput e d v) s Q) (yop C.P C.eqs (yv e) op s)
  | ⟨d, op, _, _, _, some (j, w)⟩ :: rest, e, s, Q => ygi (ygo C draw (fun v s => YG C draw gs rest (yput e d v) s Q) (yop C.P C.eqs (yv e) op s)) (YG C draw gs rest (yput e d (.tup [])) s Q) (yguard gs e j w)
def YThen (k : List YV → Sto → Prop) (Q : X → List YV → Sto → Prop) : X → List YV → Sto → Prop
  | .normal, e, s => k e s
  | x, e, s => Q x e s
def YOut1 (id : Nat) (Q : X → List YV → Sto → Prop) : X → List YV → Sto → Prop
  | .exit i, e, s => if i = id then Q .normal e s else Q (.exit i) e s
  | x, e, s => Q x e s
def ycond (A B : Prop) : YV → Prop
  | .c (.p (.d (.bool true))) => A
  | .c (.p (.d (.bool false))) => B
  | _ => False
def Lift (C : Cx) (pin : Nat) (c : Code) (e : List YV) (s : Sto) (Q : X → List YV → Sto → Prop) : Prop :=
  ∀ (lo : Nat) (m : Mp) (R : Nat → Prop) (h : H) (env : Env), SRep lo m R h s → L2 (VRep m R h) e env →
    W C lo c env h fun x env' h' => ∃ m' R' e' s', Q x e' s' ∧ SRep lo m' R' h' s' ∧ L2 (VRep m' R' h') e' env' ∧ Stp m R h s m' R' h' s' ∧ ∀ (i b : Nat), i < pin → m[i]? = some (some b) → m'[i]? = some (some b)
def YL (C : Cx) (pin : Nat) (c : Code) (e : List YV) (s : Sto) (Q : X → List YV → Sto → Prop) : Prop := Lift C pin (.loop c) e s Q
def YD (C : Cx) (pin : Nat) (id : Nat) (ops : Array Oper) (e : List YV) (s : Sto) (Q : X → List YV → Sto → Prop) : Prop := Lift C pin (.region id ops true) e s Q
noncomputable def YW (C : Cx) (pin : Nat) : Code → List YV → Sto → (X → List YV → Sto → Prop) → Prop
  | .skip, e, s, Q => Q .normal e s
  | .ret, e, s, Q => Q .ret e s
  | .exit id, e, s, Q => Q (.exit id) e s
  | .seq a b, e, s, Q => YW C pin a e s (YThen (fun e s => YW C pin b e s Q) Q)
  | .cond t a b, e, s, Q => ycond (YW C pin a e s Q) (YW C pin b e s Q) (yv e t)
  | .block id c, e, s, Q => YW C pin c e s (YOut1 id Q)
  | .region _ ops false, e, s, Q => YG C false (ops.toList.map Oper.dst) ops.toList e s (Q .normal)
  | .region id ops true, e, s, Q => YD C pin id ops e s Q
  | .loop c, e, s, Q => YL C pin c e s Q
  | _, _, _, _ => False
section
variable {C : Cx} {lo pin : Nat} {m m' : Mp} {R R' : Nat → Prop} {h h' : H} {s s' : Sto} {e : List YV} {env : Env}
theorem L2.vmono {e : List YV} {env : List Value} (hl : L2 (VRep m R h) e env) (hm : MpLe m m') (hr : ∀ b, R b → R' b) (hg : ∀ b, R b → h'.get b = h.get b) : L2 (VRep m' R' h') e env :=
  hl.mono fun _ _ hp => hp.mono hm hr hg
theorem L2.yput {v : YV} {v' : Value} (hl : L2 (VRep m R h) e env) (hv : VRep m R h v v') (d : Option Nat) : L2 (VRep m R h) (yput e d v) (eput env d v') := by
  cases d with
  | none => exact hl
  | some d => exact hl.set hv d
theorem yguard_sound {gs : List (Option Nat)} {j : Nat} {w b : Bool} (hl : L2 (VRep m R h) e env) (hy : yguard gs e j w = some b) : guardOn gs env j w = b := by
  unfold yguard ygd at hy
  unfold guardOn
  split at hy
  · rename_i d hd
    rw [hd]
    simp only
    rw [nth_eq] at hy ⊢
    unfold ygb at hy
    split at hy
    · rename_i b' hb
      cases hy
      obtain ⟨v, h1, h2⟩ := hl.get hb
      rw [h1]
      generalize hu : Value.bool b' = u at h2
      cases h2
      subst hu
      rfl
    · rename_i hb
      cases hy
      obtain ⟨v, h1, vs, rfl, h2⟩ := hl.get hb
      rw [h1]
    · cases hy
  · rename_i hne
    cases hy
    split
    · rename_i d hd; exact absurd hd (hne d)
    · rfl
theorem WG.mono {draw : Bool} {gs : List (Option Nat)} {os : List Oper} {Q Q' : Env → H → Prop} (hw : WG C draw lo gs os env h Q) (hq : ∀ e h, Q e h → Q' e h) : WG C draw lo gs os env h Q' :=
  let ⟨n, e', h', h1, h2⟩ := hw; ⟨n, e', h', h1, hq _ _ h2⟩
theorem YG_sound {draw : Bool} {gs : List (Option Nat)} : ∀ {os : List Oper} {e : List YV} {s : Sto} {Q : List YV → Sto → Prop} {m : Mp} {R : Nat → Prop} {h : H} {env : Env}, YG C draw gs os e s Q → SRep lo m R h s → L2 (VRep m R h) e env →
    WG C draw lo gs os env h fun env' h' => ∃ m' R' e' s', Q e' s' ∧ SRep lo m' R' h' s' ∧ L2 (VRep m' R' h') e' env' ∧ Stp m R h s m' R' h' s' ∧ MpLe m m'
  | [], e, s, Q, m, R, h, env, hy, hs, he => by
    rw [WG_nil]
    exact ⟨m, R, e, s, hy, hs, he, Stp.refl _ _ _ _, MpLe.refl _⟩
  | ⟨d, op, t, p, a, g⟩ :: rest, e, s, Q, m, R, h, env, hy, hs, he => by
    have go : ygo C draw (fun v s => YG C draw gs rest (yput e d v) s Q) (yop C.P C.eqs (yv e) op s) →
        wgo C draw lo gs rest d env (fun env' h' => ∃ m' R' e' s', Q e' s' ∧ SRep lo m' R' h' s' ∧ L2 (VRep m' R' h') e' env' ∧ Stp m R h s m' R' h' s' ∧ MpLe m m') (xop C.P C.eqs lo (ev env) op h) := by
      intro hy0
      cases hr : yop C.P C.eqs (yv e) op s with
      | none => rw [hr] at hy0; exact hy0.elim
      | some r =>
        obtain ⟨out, s1⟩ := r
        rw [hr] at hy0
        rcases yop_sound hs (yv_sound he) hr with ⟨y, v', h1, rfl, hx, m1, R1, hs1, hv1, st, hm, _⟩ | ⟨f, args, vals, rfl, rfl, hx, ha⟩
        · rw [hx, wgo_val]
          have he1 := he.vmono (m' := m1) (h' := h1) (R' := R1) hm st.rd (hs.keepR st)
          refine WG.mono (YG_sound (draw := draw) (gs := gs) (os := rest) (Q := Q) hy0 hs1 (he1.yput hv1 d)) ?_
          rintro env2 h2 ⟨m2, R2, e2, s2, q, k1, k2, k3, k4⟩
          exact ⟨m2, R2, e2, s2, q, k1, k2, st.trans k3, fun i b hb => k4 i b (hm i b hb)⟩
        · rw [hx, wgo_call]
          refine WCall.mono (hy0 lo m R h vals hs ha) ?_
          rintro v h1 ⟨m1, R1, s2, y, hk, hs1, hv1, st, hm, _⟩
          have he1 := he.vmono (m' := m1) (h' := h1) (R' := R1) hm st.rd (hs.keepR st)
          refine WG.mono (YG_sound hk hs1 (he1.yput hv1 d)) ?_
          rintro env2 h2 ⟨m2, R2, e2, s2, q, k1, k2, k3, k4⟩
          exact ⟨m2, R2, e2, s2, q, k1, k2, st.trans k3, fun i b hb => k4 i b (hm i b hb)⟩
    cases g with
    | none =>
      rw [WG_none]
      exact go hy
    | some g =>
      obtain ⟨j, w⟩ := g
      rw [WG_some]
      have hy' : ygi (ygo C draw (fun v s => YG C draw gs rest (yput e d v) s Q) (yop C.P C.eqs (yv e) op s)) (YG C draw gs rest (yput e d (.tup [])) s Q) (yguard gs e j w) := hy
      cases hg : yguard gs e j w with
      | none => rw [hg] at hy'; exact hy'.elim
      | some b =>
        rw [hg] at hy'
        rw [yguard_sound he hg]
        cases b with
        | true => rw [wgi_true]; exact go hy'
        | false =>
          rw [wgi_false]
          exact YG_sound hy' hs (he.yput (v := .tup []) ⟨[], rfl, L2.nil⟩ d)
end
end Go.Vx
