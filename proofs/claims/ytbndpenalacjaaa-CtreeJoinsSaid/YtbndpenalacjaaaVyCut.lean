/- Where ways come together again: a condition's branches are run up to what is wanted behind them. -/
import Derived.Test.YtbndpenalacjaaaVyRun
set_option linter.unusedVariables false
namespace Go.Vx
section
variable {C : Cx} {pin : Nat}
theorem YC.mono {draw : Bool} {f : FuncId} {args : List YV} {s : Sto} {K K' : YV → Sto → Prop} (hc : YC C draw f args s K) (hk : ∀ v s, K v s → K' v s) : YC C draw f args s K' :=
  fun lo m R h vals hs ha => (hc lo m R h vals hs ha).mono fun v h' ⟨m', R', s', y, k1, k2⟩ => ⟨m', R', s', y, hk _ _ k1, k2⟩
theorem ygo_mono {draw : Bool} {K K' : YV → Sto → Prop} (hk : ∀ v s, K v s → K' v s) : ∀ {r : Option (YOut × Sto)}, ygo C draw K r → ygo C draw K' r
  | some (.val v, s), h => hk v s h
  | some (.call f args, s), h => YC.mono h hk
  | none, h => h.elim
theorem ygi_mono {A A' B B' : Prop} (h1 : A → A') (h2 : B → B') : ∀ {g : Option Bool}, ygi A B g → ygi A' B' g
  | some true, h => h1 h
  | some false, h => h2 h
  | none, h => h.elim
theorem YG_mono {draw : Bool} {gs : List (Option Nat)} {Q Q' : List YV → Sto → Prop} (hq : ∀ e s, Q e s → Q' e s) : ∀ {os : List Oper} {e : List YV} {s : Sto}, YG C draw gs os e s Q → YG C draw gs os e s Q'
  | [], e, s, h => hq e s h
  | ⟨d, op, _, _, _, none⟩ :: rest, e, s, h => ygo_mono (fun v s h => YG_mono hq h) h
  | ⟨d, op, _, _, _, some (j, w)⟩ :: rest, e, s, h => ygi_mono (fun h => ygo_mono (fun v s h => YG_mono hq h) h) (fun h => YG_mono hq h) h
theorem YW_mono : ∀ {c : Code} {e : List YV} {s : Sto} {Q Q' : X → List YV → Sto → Prop}, (∀ x e s, Q x e s → Q' x e s) → YW C pin c e s Q → YW C pin c e s Q'
  | .skip, e, s, Q, Q', hq, h => hq _ _ _ h
  | .ret, e, s, Q, Q', hq, h => hq _ _ _ h
  | .exit id, e, s, Q, Q', hq, h => hq _ _ _ h
  | .seq a b, e, s, Q, Q', hq, h => YW_mono (c := a) (fun x e s h => by
      cases x with
      | normal => exact YW_mono (c := b) hq h
      | ret => exact hq _ _ _ h
      | exit i => exact hq _ _ _ h) h
  | .cond t a b, e, s, Q, Q', hq, h => by
    have h' : ycond (YW C pin a e s Q) (YW C pin b e s Q) (yv e t) := h
    show ycond (YW C pin a e s Q') (YW C pin b e s Q') (yv e t)
    generalize yv e t = u at h' ⊢
    unfold ycond at h' ⊢
    split at h'
    · exact YW_mono (c := a) hq h'
    · exact YW_mono (c := b) hq h'
    · exact h'.elim
  | .block id c, e, s, Q, Q', hq, h => YW_mono (c := c) (fun x e s h => by
      cases x with
      | normal => exact hq _ _ _ h
      | ret => exact hq _ _ _ h
      | exit i =>
        have h' : if i = id then Q .normal e s else Q (.exit i) e s := h
        show if i = id then Q' .normal e s else Q' (.exit i) e s
        split at h'
        · rename_i hi; rw [if_pos hi]; exact hq _ _ _ h'
        · rename_i hi; rw [if_neg hi]; exact hq _ _ _ h') h
  | .region id ops false, e, s, Q, Q', hq, h => YG_mono (Q := Q .normal) (Q' := Q' .normal) (fun e s h => hq _ _ _ h) h
  | .region id ops true, e, s, Q, Q', hq, h => Lift.mono h hq
  | .loop c, e, s, Q, Q', hq, h => Lift.mono h hq
theorem ythen_n {k : List YV → Sto → Prop} {Q : Post} {e : List YV} {s : Sto} : YThen k Q .normal e s = k e s := rfl
theorem kf_cut1 {c : Code} {fs : List Fr} {Q : Post} (P : List YV → Sto → Prop) (h2 : ∀ e s, P e s → kf C pin fs Q .normal e s) : ∀ (x : X) (e : List YV) (s : Sto), kf C pin [.seq c] (YThen P (kf C pin fs Q)) x e s → kf C pin (.seq c :: fs) Q x e s
  | .normal, e, s, h => YW_mono (fun x e s h => by
      cases x with
      | normal => exact h2 _ _ h
      | ret => exact h
      | exit i => exact h) h
  | .ret, e, s, h => h
  | .exit i, e, s, h => h
variable {draw : Bool} {gs : List (Option Nat)} {d : Option Nat} {os : List Oper} {fs fs' : List Fr} {Q Q' : Post} {e : List YV} {s : Sto}
theorem Rg_kmono (hk : ∀ x e s, kf C pin fs Q x e s → kf C pin fs' Q' x e s) (h : Rg C pin draw gs os fs Q e s) : Rg C pin draw gs os fs' Q' e s := YG_mono (hk _) h
theorem Ro_kmono (hk : ∀ x e s, kf C pin fs Q x e s → kf C pin fs' Q' x e s) {r : Option (YOut × Sto)} (h : Ro C pin draw gs d os fs Q e r) : Ro C pin draw gs d os fs' Q' e r := ygo_mono (fun v s h => Rg_kmono hk h) h
theorem Ri_kmono (hk : ∀ x e s, kf C pin fs Q x e s → kf C pin fs' Q' x e s) {op : Op} {g : Option Bool} (h : Ri C pin draw gs d op os fs Q e s g) : Ri C pin draw gs d op os fs' Q' e s g := ygi_mono (fun h => Ro_kmono hk h) (fun h => Rg_kmono hk h) h
theorem Rcall_kmono (hk : ∀ x e s, kf C pin fs Q x e s → kf C pin fs' Q' x e s) {f : FuncId} {args : List YV} (h : Rcall C pin draw gs d os fs Q e f args s) : Rcall C pin draw gs d os fs' Q' e f args s := YC.mono h fun v s h => Rg_kmono hk h
theorem Ri_cut {c : Code} (P : List YV → Sto → Prop) {op : Op} {g : Option Bool} (h1 : Ri C pin draw gs d op os [.seq c] (YThen P (kf C pin fs Q)) e s g) (h2 : ∀ e s, P e s → kf C pin fs Q .normal e s) : Ri C pin draw gs d op os (.seq c :: fs) Q e s g := Ri_kmono (kf_cut1 P h2) h1
theorem Rcall_cut {c : Code} (P : List YV → Sto → Prop) {f : FuncId} {args : List YV} (h1 : Rcall C pin draw gs d os [.seq c] (YThen P (kf C pin fs Q)) e f args s) (h2 : ∀ e s, P e s → kf C pin fs Q .normal e s) : Rcall C pin draw gs d os (.seq c :: fs) Q e f args s := Rcall_kmono (kf_cut1 P h2) h1
theorem gs_mk {e : List YV} {F : (Nat → YV) → List YV} (h : e = F (fun k => nthD e (.c .top) k)) : ∃ g, e = F g := ⟨_, h⟩
end
end Go.Vx
