/- Code as a whole, loops, functions. -/
import Derived.Test.YtbndpenalacjaaaVyCode
set_option linter.unusedVariables false
namespace Go.Vx
section
variable {C : Cx} {lo pin : Nat} {m m' : Mp} {R R' : Nat → Prop} {h h' : H} {s s' : Sto} {e : List YV} {env : Env}
theorem Lift.mono {c : Code} {Q Q' : X → List YV → Sto → Prop} (hl : Lift C pin c e s Q) (hq : ∀ x e s, Q x e s → Q' x e s) : Lift C pin c e s Q' :=
  fun lo m R h env hs he => (hl lo m R h env hs he).mono fun x env' h' ⟨m', R', e', s', k1, k2⟩ => ⟨m', R', e', s', hq _ _ _ k1, k2⟩
theorem YW_sound : ∀ {c : Code} {e : List YV} {s : Sto} {Q : X → List YV → Sto → Prop}, YW C pin c e s Q → Lift C pin c e s Q
  | .skip, e, s, Q, hy => fun lo m R h env hs he => by rw [W_skip_iff]; exact ⟨m, R, e, s, hy, hs, he, Stp.refl _ _ _ _, fun _ _ _ hb => hb⟩
  | .ret, e, s, Q, hy => fun lo m R h env hs he => by rw [W_ret_iff]; exact ⟨m, R, e, s, hy, hs, he, Stp.refl _ _ _ _, fun _ _ _ hb => hb⟩
  | .exit id, e, s, Q, hy => fun lo m R h env hs he => by rw [W_exit_iff]; exact ⟨m, R, e, s, hy, hs, he, Stp.refl _ _ _ _, fun _ _ _ hb => hb⟩
  | .seq a b, e, s, Q, hy => fun lo m R h env hs he => by
    rw [W_seq_iff]
    refine (YW_sound (c := a) hy lo m R h env hs he).mono ?_
    rintro x env1 h1 ⟨m1, R1, e1, s1, q, hs1, he1, st, hp⟩
    cases x with
    | normal =>
      refine (YW_sound (c := b) q lo m1 R1 h1 env1 hs1 he1).mono ?_
      rintro x env2 h2 ⟨m2, R2, e2, s2, q, hs2, he2, st2, hp2⟩
      exact ⟨m2, R2, e2, s2, q, hs2, he2, st.trans st2, fun i b hi hb => hp2 i b hi (hp i b hi hb)⟩
    | exit id => exact ⟨m1, R1, e1, s1, q, hs1, he1, st, hp⟩
    | ret => exact ⟨m1, R1, e1, s1, q, hs1, he1, st, hp⟩
  | .cond t a b, e, s, Q, hy => fun lo m R h env hs he => by
    rw [W_cond_iff]
    have hy' : ycond (YW C pin a e s Q) (YW C pin b e s Q) (yv e t) := hy
    have ht := yv_sound he t
    generalize yv e t = u at hy' ht
    unfold ycond at hy'
    split at hy'
    · generalize ev env t = w at ht
      cases ht
      exact ⟨true, rfl, by rw [if_pos rfl]; exact YW_sound (c := a) hy' lo m R h env hs he⟩
    · generalize ev env t = w at ht
      cases ht
      exact ⟨false, rfl, by rw [if_neg (by simp)]; exact YW_sound (c := b) hy' lo m R h env hs he⟩
    · exact hy'.elim
  | .block id c, e, s, Q, hy => fun lo m R h env hs he => by
    rw [W_block_iff]
    refine (YW_sound (c := c) hy lo m R h env hs he).mono ?_
    rintro x env1 h1 ⟨m1, R1, e1, s1, q, k⟩
    cases x with
    | normal => exact ⟨m1, R1, e1, s1, q, k⟩
    | ret => exact ⟨m1, R1, e1, s1, q, k⟩
    | exit i =>
      show if i = id then _ else _
      have q' : if i = id then Q .normal e1 s1 else Q (.exit i) e1 s1 := q
      split at q'
      · rename_i hi; rw [if_pos hi]; exact ⟨m1, R1, e1, s1, q', k⟩
      · rename_i hi; rw [if_neg hi]; exact ⟨m1, R1, e1, s1, q', k⟩
  | .region id ops false, e, s, Q, hy => fun lo m R h env hs he => by
    rw [WG_region]
    refine (YG_sound (Q := Q .normal) hy hs he).mono ?_
    rintro env1 h1 ⟨m1, R1, e1, s1, q, hs1, he1, st, hp⟩
    exact ⟨m1, R1, e1, s1, q, hs1, he1, st, fun i b _ hb => hp i b hb⟩
  | .region id ops true, e, s, Q, hy => hy
  | .loop c, e, s, Q, hy => hy
theorem YD_calm {id : Nat} {ops : Array Oper} {Q : X → List YV → Sto → Prop} (hc : noConf C.P ops.toList = true) (hy : YG C true (ops.toList.map Oper.dst) ops.toList e s (Q .normal)) : YD C pin id ops e s Q :=
  fun lo m R h env hs he => W_calmG hc ((YG_sound hy hs he).mono fun env1 h1 ⟨m1, R1, e1, s1, q, hs1, he1, st, hp⟩ => ⟨m1, R1, e1, s1, q, hs1, he1, st, fun i b _ hb => hp i b hb⟩)
end
noncomputable def slotIx : List Nat → Nat → Option Nat
  | [], _ => none
  | k :: ks, i => match Nat.beq k i with | true => some 0 | false => (match slotIx ks i with | some j => some (j + 1) | none => none)
theorem slotIx_some : ∀ {ks : List Nat} {i j : Nat}, slotIx ks i = some j → ks[j]? = some i
  | [], i, j, h => by cases h
  | k :: ks, i, j, h => by
    unfold slotIx at h
    split at h
    · rename_i hb; cases h; rw [Nat.eq_of_beq_eq_true hb]; rfl
    · split at h
      · rename_i j' hj; cases h; rw [List.getElem?_cons_succ]; exact slotIx_some hj
      · cases h
theorem slotIx_none : ∀ {ks : List Nat} {i : Nat}, slotIx ks i = none → i ∉ ks
  | [], i, _ => by simp
  | k :: ks, i, h => by
    unfold slotIx at h
    split at h
    · cases h
    · rename_i hb
      split at h
      · cases h
      · rename_i hj
        simp only [List.mem_cons, not_or]
        exact ⟨fun he => (by rw [he, show Nat.beq k k = true from Nat.beq_refl k] at hb; cases hb), slotIx_none hj⟩
noncomputable def renC (ks : List Nat) (s : Sto) : Ce → Ce
  | .p c => .p c
  | .own id sz off len => (match slotIx ks id with
    | some j => .own j sz off len
    | none => (match yrow s (.c (.own id sz off len)) with | some (z, els) => .p (.row z els) | none => .top))
  | .ptr id sz i off => (match slotIx ks id with | some j => .ptr j sz i off | none => .top)
  | .rp cs => .rp cs
  | .top => .top
noncomputable def renB (ks : List Nat) (s : Sto) : YV → YV
  | .c c => .c (renC ks s c)
  | .agg cs => .agg (cs.map (renC ks s))
  | .tup xs => .tup xs
noncomputable def renV (ks : List Nat) (s : Sto) : YV → YV
  | .c c => .c (renC ks s c)
  | .agg cs => .agg (cs.map (renC ks s))
  | .tup xs => .tup (xs.map (renB ks s))
noncomputable def renE (ks : List Nat) (s : Sto) : Ent → Ent
  | .dead => .dead
  | .box cs => .box (cs.map (renC ks s))
  | .row sz els => .row sz els
noncomputable def renS (ks : List Nat) (s : Sto) : Sto := ks.map fun k => match nth s k with | some e => renE ks s e | none => .dead
noncomputable def yren (ks : List Nat) (s : Sto) : List Bool → List YV → List YV
  | _, [] => []
  | [], vs => vs.map fun _ => .c .top
  | true :: bs, v :: vs => renV ks s v :: yren ks s bs vs
  | false :: bs, _ :: vs => .c .top :: yren ks s bs vs
section
variable {C : Cx} {lo pin : Nat} {m m' : Mp} {R R' : Nat → Prop} {h h' : H} {s s' : Sto} {e : List YV} {env : Env}
def renR (ks : List Nat) (m : Mp) (R : Nat → Prop) (s : Sto) (b : Nat) : Prop := R b ∨ ∃ (i sz : Nat) (els : List (List PC)), i ∉ ks ∧ s[i]? = some (.row sz els) ∧ m[i]? = some (some b)
def renM (ks : List Nat) (m : Mp) : Mp := ks.map fun k => match m[k]? with | some x => x | none => none
theorem renM_get {ks : List Nat} {j k : Nat} (hk : ks[j]? = some k) {b : Nat} (hb : m[k]? = some (some b)) : (renM ks m)[j]? = some (some b) := by
  rw [renM, List.getElem?_map, hk]; simp [hb]
theorem renM_inv {ks : List Nat} {j b : Nat} (hb : (renM ks m)[j]? = some (some b)) : ∃ k, ks[j]? = some k ∧ m[k]? = some (some b) := by
  rw [renM, List.getElem?_map] at hb
  cases hk : ks[j]? with
  | none => rw [hk] at hb; cases hb
  | some k =>
    rw [hk] at hb
    simp only [Option.map_some, Option.some.injEq] at hb
    split at hb
    · rename_i x hx; subst hb; exact ⟨k, rfl, hx⟩
    · cases hb
theorem renC_sound (hs : SRep lo m R h s) {ks : List Nat} {c : Ce} {v : Value} (hc : CRep m R h c v) : CRep (renM ks m) (renR ks m R s) h (renC ks s c) v := by
  cases c with
  | p c => exact PRep.mono hc (fun _ h => .inl h) fun _ _ => rfl
  | own id sz off len =>
    show CRep _ _ _ (match slotIx ks id with | some j => _ | none => _) v
    cases hj : slotIx ks id with
    | some j => exact ⟨hc.1, hc.2.imp (fun x => x) fun ⟨b, h1, h2⟩ => ⟨b, renM_get (slotIx_some hj) h1, h2⟩⟩
    | none =>
      simp only
      cases hr : yrow s (.c (.own id sz off len)) with
      | none => trivial
      | some r =>
        obtain ⟨z, els⟩ := r
        simp only
        have hr' := hr
        rcases yrow_sound (x := .c (.own id sz off len)) hs hc hr with ⟨rfl, rfl⟩ | ⟨b, o, blk, rfl, k1, k2⟩
        · exact PRep.nil
        · unfold yrow at hr'
          simp only at hr'
          rw [nth_eq] at hr'
          split at hr'
          · rename_i z0 els0 he
            rcases hc with ⟨hz, ⟨hc, _⟩ | ⟨b', hm, hc⟩⟩
            · cases hc
            · injection hc with hc _ _; injection hc with hc; injection hc with hc _ _; subst hc
              exact (k2.mono (fun _ h => .inl h) fun _ _ => rfl).prep (.inr ⟨id, z0, els0, slotIx_none hj, he, hm⟩) k1
          · cases hr'
  | ptr id sz i off =>
    show CRep _ _ _ (match slotIx ks id with | some j => _ | none => _) v
    cases hj : slotIx ks id with
    | some j => obtain ⟨b, h1, h2⟩ := hc; exact ⟨b, renM_get (slotIx_some hj) h1, h2⟩
    | none => trivial
  | rp cs => obtain ⟨b, o, blk, h1, h2, h3, h4, h5⟩ := hc; exact ⟨b, o, blk, .inl h1, h2, h3, h4, h5.prep_mono (fun _ h => .inl h) fun _ _ => rfl⟩
  | top => trivial
theorem renCs_sound (hs : SRep lo m R h s) {ks : List Nat} {cs : List Ce} {vs : List Value} (hl : L2 (CRep m R h) cs vs) : L2 (CRep (renM ks m) (renR ks m R s) h) (cs.map (renC ks s)) vs :=
  L2.mapl (hl.mono fun _ _ hp => renC_sound hs hp)
theorem renB_sound (hs : SRep lo m R h s) {ks : List Nat} {x : YV} {v : Value} (hx : BRep m R h x v) : BRep (renM ks m) (renR ks m R s) h (renB ks s x) v := by
  cases x with
  | c c => exact renC_sound hs hx
  | agg cs => obtain ⟨vs, h1, h2⟩ := hx; exact ⟨vs, h1, renCs_sound hs h2⟩
  | tup xs => exact hx
theorem renV_sound (hs : SRep lo m R h s) {ks : List Nat} {x : YV} {v : Value} (hx : VRep m R h x v) : VRep (renM ks m) (renR ks m R s) h (renV ks s x) v := by
  cases x with
  | c c => exact renC_sound hs hx
  | agg cs => obtain ⟨vs, h1, h2⟩ := hx; exact ⟨vs, h1, renCs_sound hs h2⟩
  | tup xs => obtain ⟨vs, h1, h2⟩ := hx; exact ⟨vs, h1, L2.mapl (h2.mono fun _ _ hp => renB_sound hs hp)⟩
theorem yren_sound (hs : SRep lo m R h s) {ks : List Nat} : ∀ {bs : List Bool} {e : List YV} {env : List Value}, L2 (VRep m R h) e env → L2 (VRep (renM ks m) (renR ks m R s) h) (yren ks s bs e) env
  | [], [], env, he => by
    cases env with
    | nil => exact L2.nil
    | cons v vs => exact absurd he.1 (by simp)
  | _ :: _, [], env, he => by
    cases env with
    | nil => exact L2.nil
    | cons v vs => exact absurd he.1 (by simp)
  | _, x :: xs, [], he => absurd he.1 (by simp)
  | [], x :: xs, v :: vs, he => L2.mapl (R := VRep (renM ks m) (renR ks m R s) h) (f := fun _ => YV.c .top) (he.mono fun _ _ _ => trivial)
  | true :: bs, x :: xs, v :: vs, he => (yren_sound hs he.tail).cons (renV_sound hs he.head)
  | false :: bs, x :: xs, v :: vs, he => (yren_sound hs he.tail).cons (VRep.top _)
theorem nodup_get {α : Type} : ∀ {ks : List α}, ks.Nodup → ∀ {i j : Nat} {k : α}, ks[i]? = some k → ks[j]? = some k → i = j
  | [], _, i, j, k, hi, _ => by simp at hi
  | a :: ks, hn, 0, 0, k, _, _ => rfl
  | a :: ks, hn, 0, j + 1, k, hi, hj => by
    simp at hi hj; subst hi
    exact absurd (List.mem_of_getElem? hj) (List.nodup_cons.mp hn).1
  | a :: ks, hn, i + 1, 0, k, hi, hj => by
    simp at hi hj; subst hj
    exact absurd (List.mem_of_getElem? hi) (List.nodup_cons.mp hn).1
  | a :: ks, hn, i + 1, j + 1, k, hi, hj => by
    simp at hi hj
    rw [nodup_get (List.nodup_cons.mp hn).2 hi hj]
theorem renS_sound (hs : SRep lo m R h s) {ks : List Nat} (hn : ks.Nodup) : SRep lo (renM ks m) (renR ks m R s) h (renS ks s) ∧ Stp m R h s (renM ks m) (renR ks m R s) h (renS ks s) := by
  have hget : ∀ (j : Nat) (f : Ent), (renS ks s)[j]? = some f → f ≠ .dead → ∃ (k : Nat) (g : Ent), ks[j]? = some k ∧ s[k]? = some g ∧ g ≠ .dead ∧ f = renE ks s g := by
    intro j f hj hf
    rw [renS, List.getElem?_map] at hj
    cases hk : ks[j]? with
    | none => rw [hk] at hj; cases hj
    | some k =>
      rw [hk] at hj
      simp only [Option.map_some, Option.some.injEq, nth_eq] at hj
      split at hj
      · rename_i g hg
        subst hj
        exact ⟨k, g, rfl, hg, fun hd => by subst hd; exact hf rfl, rfl⟩
      · exact absurd hj.symm hf
  have hblk : ∀ b, Blks (renM ks m) (renS ks s) b → ∃ (k : Nat) (g : Ent), k ∈ ks ∧ s[k]? = some g ∧ g ≠ .dead ∧ m[k]? = some (some b) := by
    rintro b ⟨j, f, g1, g2, g3⟩
    obtain ⟨k, g, k1, k2, k3, _⟩ := hget j f g1 g2
    obtain ⟨k', q1, q2⟩ := renM_inv g3
    rw [k1] at q1; cases q1
    exact ⟨k, g, List.mem_of_getElem? k1, k2, k3, q2⟩
  refine ⟨⟨by simp [renM, renS], fun j f mb h1 h2 => ?_, fun i j f g b h1 h2 hf hg h3 h4 => ?_, fun b hb hr => ?_, fun b hb => ?_, hs.lo⟩,
    ⟨Nat.le_refl _, fun _ _ _ => rfl, fun b hb _ => ?_, fun b hb => .inl hb, fun b hb _ => ?_⟩⟩
  · by_cases hd : f = .dead
    · subst hd; trivial
    obtain ⟨k, g, k1, k2, k3, rfl⟩ := hget j f h1 hd
    rw [renM, List.getElem?_map, k1] at h2
    simp only [Option.map_some, Option.some.injEq] at h2
    have hk := lt_of_some k2
    rw [← hs.len] at hk
    have hmk : m[k]? = some m[k] := List.getElem?_eq_getElem hk
    rw [hmk] at h2
    simp only at h2
    subst h2
    have hE := hs.ent k g _ k2 hmk
    cases g with
    | dead => trivial
    | box cs => obtain ⟨b, vs, e1, e2, e3, e4⟩ := hE; exact ⟨b, vs, e1, e2, e3, renCs_sound hs e4⟩
    | row sz els =>
      rcases hE with hE | ⟨b, vs, e1, e2, e3, e4⟩
      · exact .inl hE
      · exact .inr ⟨b, vs, e1, e2, e3, e4.mono (fun _ h => .inl h) fun _ _ => rfl⟩
  · obtain ⟨k, f', k1, k2, k3, _⟩ := hget i f h1 hf
    obtain ⟨l, g', l1, l2, l3, _⟩ := hget j g h2 hg
    obtain ⟨_, q1, q2⟩ := renM_inv h3
    obtain ⟨_, q3, q4⟩ := renM_inv h4
    rw [k1] at q1; cases q1
    rw [l1] at q3; cases q3
    have := hs.inj k l f' g' b k2 l2 k3 l3 q2 q4
    subst this
    exact nodup_get hn k1 l1
  · obtain ⟨k, g, k1, k2, k3, k4⟩ := hblk b hb
    rcases hr with hr | ⟨i, sz, els, i1, i2, i3⟩
    · exact hs.own b ⟨k, g, k2, k3, k4⟩ hr
    · have := hs.inj k i g _ b k2 i2 k3 (by simp) k4 i3
      subst this; exact i1 k1
  · rcases hb with hb | ⟨i, sz, els, i1, i2, i3⟩
    · exact hs.rd b hb
    · exact hs.blkLt ⟨i, _, i2, by simp, i3⟩
  · obtain ⟨k, g, k1, k2, k3, k4⟩ := hblk b hb
    exact ⟨k, g, k2, k3, k4⟩
  · exact hb.imp (fun x => x) fun ⟨i, sz, els, i1, i2, i3⟩ => ⟨i, _, i2, by simp, i3⟩
def pinned (pin : Nat) (ks : List Nat) : Prop := ∀ i, i < pin → ks[i]? = some i
theorem pinned_zero (ks : List Nat) : pinned 0 ks := fun i hi => by omega
theorem pinned_one (ks : List Nat) : pinned 1 (0 :: ks) := fun i hi => by
  have h0 : i = 0 := by omega
  subst h0; rfl
theorem Lift.ren {c : Code} {Q : X → List YV → Sto → Prop} {ks : List Nat} {bs : List Bool} (hn : ks.Nodup) (hp : pinned pin ks) (hy : Lift C pin c (yren ks s bs e) (renS ks s) Q) : Lift C pin c e s Q :=
  fun lo m R h env hs he => by
    obtain ⟨g1, g2⟩ := renS_sound hs hn
    refine (hy lo _ _ h env g1 (yren_sound hs he)).mono ?_
    rintro x env1 h1 ⟨m1, R1, e1, s1, q, hs1, he1, st, hpp⟩
    exact ⟨m1, R1, e1, s1, q, hs1, he1, g2.trans st, fun i b hi hb => hpp i b hi (renM_get (hp i hi) hb)⟩
def YNext (I : Nat → List YV → Sto → Prop) (bs : List Bool) (pin d : Nat) (e : List YV) (s : Sto) : Prop := ∃ d' ks, d' < d ∧ ks.Nodup ∧ pinned pin ks ∧ I d' (yren ks s bs e) (renS ks s)
theorem YL_inv {c : Code} {Q : X → List YV → Sto → Prop} (I : Nat → List YV → Sto → Prop) (bs : List Bool) (d : Nat) (ks : List Nat) (hn : ks.Nodup) (hp : pinned pin ks) (h0 : I d (yren ks s bs e) (renS ks s))
    (round : ∀ d e s, I d e s → YW C pin c e s (YThen (YNext I bs pin d) Q)) : YL C pin c e s Q := by
  refine Lift.ren (bs := bs) hn hp ?_
  generalize yren ks s bs e = e0 at h0 ⊢
  generalize renS ks s = s0 at h0 ⊢
  clear hn hp
  induction d using Nat.strongRecOn generalizing e0 s0 with
  | _ d ih =>
    intro lo m R h env hs he
    refine W_loop ((YW_sound (round d e0 s0 h0) lo m R h env hs he).mono ?_)
    rintro x env1 h1 ⟨m1, R1, e1, s1, q, hs1, he1, st, hpp⟩
    cases x with
    | normal =>
      obtain ⟨d', ks', hd, hn', hp', hI⟩ := q
      refine (Lift.ren hn' hp' (ih d' hd _ _ hI) lo m1 R1 h1 env1 hs1 he1).mono ?_
      rintro x env2 h2 ⟨m2, R2, e2, s2, q, hs2, he2, st2, hpp2⟩
      exact ⟨m2, R2, e2, s2, q, hs2, he2, st.trans st2, fun i b hi hb => hpp2 i b hi (hpp i b hi hb)⟩
    | exit i => exact ⟨m1, R1, e1, s1, q, hs1, he1, st, hpp⟩
    | ret => exact ⟨m1, R1, e1, s1, q, hs1, he1, st, hpp⟩
theorem set_same {α : Type} {xs : List α} {i : Nat} {x : α} (h : xs[i]? = some x) : xs.set i x = xs := by
  apply List.ext_getElem?
  intro j
  rw [List.getElem?_set]
  split
  · rename_i hj; subst hj; rw [if_pos (lt_of_some h), h]
  · rfl
theorem Lift.nil {c : Code} {Q : X → List YV → Sto → Prop} (t sz : Nat) (h0 : sz ≠ 0) (ht : e[t]? = some (.c (.p (.d (.slice none 0 0))))) (hy : Lift C pin c (e.set t (.c (.own s.length sz 0 0))) (s ++ [.row sz []]) Q) : Lift C pin c e s Q :=
  fun lo m R h env hs he => by
    obtain ⟨g1, g2⟩ := hs.push0 sz
    obtain ⟨v, hv, hr⟩ := he.get ht
    have he1 : L2 (VRep (m ++ [none]) R h) (e.set t (.c (.own s.length sz 0 0))) env := by
      have h2 := (he.vmono (m' := m ++ [none]) (R' := R) (h' := h) (MpLe.push _ _) (fun _ h => h) fun _ _ => rfl).set (a := .c (.own s.length sz 0 0)) (b := v) (by
        generalize hu : Value.slice none 0 0 = u at hr
        cases hr; subst hu
        exact ⟨h0, .inl ⟨rfl, rfl, rfl⟩⟩) t
      rw [set_same hv] at h2
      exact h2
    refine (hy lo _ _ h env g1 he1).mono ?_
    rintro x env1 h1 ⟨m1, R1, e1, s1, q, hs1, he1, st, hpp⟩
    exact ⟨m1, R1, e1, s1, q, hs1, he1, g2.trans st, fun i b hi hb => hpp i b hi (MpLe.push _ _ i b hb)⟩
theorem Lift.nil0 {c : Code} {Q : X → List YV → Sto → Prop} (t sz : Nat) (ht : e[t]? = some (.c (.p (.d (.slice none 0 0))))) (hy : Lift C pin c (e.set t (.c (.p (.row sz [])))) s Q) : Lift C pin c e s Q :=
  fun lo m R h env hs he => by
    obtain ⟨v, hv, hr⟩ := he.get ht
    have he1 : L2 (VRep m R h) (e.set t (.c (.p (.row sz [])))) env := by
      have h2 := he.set (a := .c (.p (.row sz []))) (b := v) (by
        generalize hu : Value.slice none 0 0 = u at hr
        cases hr; subst hu
        exact PRep.nil) t
      rw [set_same hv] at h2
      exact h2
    exact hy lo m R h env hs he1
end
end Go.Vx
