/- Operations that make and turn. -/
import Derived.Test.YtbndpenalacjaaaVyOp
namespace Go.Vx
section
variable {P : Program} {lo : Nat} {m : Mp} {R : Nat → Prop} {h : H} {s : Sto}
theorem yzero_inv {t : TypeId} {z : List Value} (hz : yzero P t = some z) : ∃ v, tyZero P t = some v ∧ clist v = z ∧ z.all dry = true := by
  unfold yzero at hz
  split at hz
  · rename_i v hv
    split at hz
    · rename_i hd; cases hz; exact ⟨v, hv, rfl, hd⟩
    · cases hz
  · cases hz
theorem SRep.mlen (hs : SRep lo m R h s) (x : Option Nat) : (m ++ [x])[s.length]? = some x := by rw [← hs.len]; simp
theorem made_box (hs : SRep lo m R h s) {cs : List Ce} {vs : List Value} (hl : L2 (CRep m R h) cs vs) :
    Did lo m R h s (.c (.ptr s.length 0 0 0)) (s ++ [.box cs]) (.pointer (some ⟨h.n, 0, none⟩)) (h.push ⟨true, vs⟩) := by
  refine Did.push hs ⟨h.n, vs, rfl, hs.lo, H.get_push_self _ _, hl.mono fun _ _ hp => hp.mono (MpLe.push _ _) (fun _ h => h) fun b hb => H.get_push_ne _ _ (by have := hs.rd b hb; omega)⟩ ?_
  exact ⟨h.n, hs.mlen _, by simp⟩
theorem made_row (hs : SRep lo m R h s) {sz : Nat} {els : List (List PC)} {vs : List Value} (h0 : sz ≠ 0) (he : ∀ cs, cs ∈ els → cs.length = sz) (hl : L2 (PRep R h) els.flatten vs) :
    Did lo m R h s (.c (.own s.length sz 0 els.length)) (s ++ [.row sz els]) (.slice (some ⟨h.n, 0, none⟩) els.length sz) (h.push ⟨true, vs⟩) := by
  have hk : ∀ b, R b → (h.push ⟨true, vs⟩).get b = h.get b := fun b hb => H.get_push_ne _ _ (by have := hs.rd b hb; omega)
  refine Did.push hs (.inr ⟨h.n, vs, rfl, hs.lo, H.get_push_self _ _, ⟨by rw [← flen he, hl.1]; simp, h0, he, ?_⟩⟩) ?_
  · rw [List.drop_zero, ← flen he, hl.1, List.take_length]
    exact hl.prep_mono (fun _ h => h) hk
  · exact ⟨h0, .inr ⟨h.n, hs.mlen _, by simp⟩⟩
theorem yAlloc_sound (hs : SRep lo m R h s) {t : TypeId} {out : YOut} {s' : Sto} (hy : yAlloc P t s = some (out, s')) :
    ∃ v v' h', out = .val v ∧ opAlloc P t h = some (.val v', h') ∧ Did lo m R h s v s' v' h' := by
  unfold yAlloc at hy
  split at hy
  · rename_i z hz
    obtain ⟨u, h1, h2, h3⟩ := yzero_inv hz
    cases hy
    subst h2
    exact ⟨_, _, _, rfl, by simp only [opAlloc, h1], made_box hs (L2.pds h3)⟩
  · cases hy
theorem yBox_sound (hs : SRep lo m R h s) {x : YV} {v : Value} (hv : VRep m R h x v) {out : YOut} {s' : Sto} (hy : yBox x s = some (out, s')) :
    ∃ y v' h', out = .val y ∧ opBox v h = some (.val v', h') ∧ Did lo m R h s y s' v' h' := by
  unfold yBox at hy
  split at hy
  · rename_i cs hc
    cases hy
    obtain ⟨h1, h2⟩ := hv.ycl hc
    exact ⟨_, _, _, rfl, by simp only [opBox, h2], made_box hs h1⟩
  · cases hy
theorem yfill_sound {place : Nat → Option (Nat × Nat)} {ρ : Operand → YV} {σ : Operand → Value} (hρ : ∀ o, VRep m R h (ρ o) (σ o)) : ∀ {parts : List (Nat × Operand)} {cells cs : List Ce} {vs : List Value},
    L2 (CRep m R h) cells vs → yfill place cells (parts.map fun p => (p.1, ρ p.2)) = some cs → ∃ us, lfill place vs (parts.map fun p => (p.1, σ p.2)) = some us ∧ L2 (CRep m R h) cs us
  | [], cells, cs, vs, hl, hy => by cases hy; exact ⟨vs, rfl, hl⟩
  | (i, o) :: parts, cells, cs, vs, hl, hy => by
    simp only [List.map_cons, yfill] at hy
    simp only [List.map_cons, lfill]
    split at hy
    · cases hy
    · rename_i off size hp
      split at hy
      · cases hy
      · rename_i xs hx
        split at hy
        · rename_i hc
          obtain ⟨k1, k2⟩ := (hρ o).ycl hx
          have k3 := k1.1
          have k4 := hl.1
          simp only [hp]
          rw [if_neg (by rw [k2]; simp; omega)]
          exact yfill_sound hρ (hl.splice k1) hy
        · cases hy
theorem yBuild_sound {ρ : Operand → YV} {σ : Operand → Value} (hρ : ∀ o, VRep m R h (ρ o) (σ o)) {t : TypeId} {parts : List (Nat × Operand)} {x : YV} (hy : yBuild P ρ t parts = some x) :
    ∃ v, opBuild P σ t parts = some v ∧ VRep m R h x v := by
  unfold yBuild at hy
  split at hy
  · rename_i z hz
    obtain ⟨u, h1, h2, h3⟩ := yzero_inv hz
    subst h2
    simp only [opBuild, h1]
    split at hy
    · rename_i pl hpl
      split at hy
      · rename_i cs hcs
        cases hy
        obtain ⟨us, k1, k2⟩ := yfill_sound hρ (L2.pds h3) hcs
        simp only [hpl, k1]
        exact ⟨_, rfl, us, rfl, k2⟩
      · cases hy
    · rename_i hpl
      split at hy
      · rename_i n e ha
        split at hy
        · cases hy
        · rename_i hz0
          split at hy
          · rename_i cs hcs
            cases hy
            obtain ⟨us, k1, k2⟩ := yfill_sound hρ (L2.pds h3) hcs
            simp only [hpl, ha, k1]
            rw [if_neg hz0]
            exact ⟨_, rfl, us, rfl, k2⟩
          · cases hy
      · cases hy
  · cases hy
theorem gsplice_all {α : Type} {cs vs : List α} (h : vs.length = cs.length) : gsplice cs 0 vs = vs := by
  simp [gsplice, h]
theorem zero_row {z : List Value} (hz : z.all dry = true) : ∀ n, L2 (PRep R h) (List.replicate n (z.map PC.d)).flatten (zeroRow z n)
  | 0 => L2.nil
  | n + 1 => by rw [zeroRow, List.replicate_succ, List.flatten_cons]; exact (L2.dmap hz).append (zero_row hz n)
theorem rep_len {α : Type} {n sz : Nat} {x : List α} (hx : x.length = sz) : ∀ cs, cs ∈ List.replicate n x → cs.length = sz := fun cs hc => by rw [(List.mem_replicate.mp hc).2]; exact hx
def Frz (lo : Nat) (m : Mp) (R : Nat → Prop) (h : H) (s : Sto) (R' : Nat → Prop) (s' : Sto) : Prop := SRep lo m R' h s' ∧ Stp m R h s m R' h s'
theorem Frz.refl (hs : SRep lo m R h s) : Frz lo m R h s R s := ⟨hs, Stp.refl _ _ _ _⟩
theorem yfzC_sound (hs : SRep lo m R h s) {c c' : Ce} {v : Value} {s' : Sto} (hv : CRep m R h c v) (hy : yfzC s c = some (c', s')) : ∃ R', Frz lo m R h s R' s' ∧ CRep m R' h c' v ∧ (cep c ≠ none → R' = R ∧ s' = s ∧ c' = c) := by
  unfold yfzC at hy
  split at hy
  · cases hy; exact ⟨R, Frz.refl hs, hv, fun _ => ⟨rfl, rfl, rfl⟩⟩
  · rename_i id sz off len
    split at hy
    · rename_i z els hr
      cases hy
      have hr' := hr
      unfold yrow at hr'
      simp only at hr'
      rw [nth_eq] at hr'
      split at hr'
      · rename_i z0 els0 he
        obtain ⟨g1, g2⟩ := hs.freeze he
        refine ⟨_, ⟨g1, g2⟩, ?_, fun hc => absurd rfl hc⟩
        rcases yrow_sound (x := .c (.own id sz off len)) hs hv hr with ⟨rfl, rfl⟩ | ⟨b, o, blk, rfl, k1, k2⟩
        · exact PRep.nil
        · rcases hv with ⟨hz, ⟨hc, _⟩ | ⟨b', hm, hc⟩⟩
          · cases hc
          · injection hc with hc _ _; injection hc with hc; injection hc with hc _ _; subst hc
            exact (k2.mono (fun _ h => .inl h) fun _ _ => rfl).prep (.inr hm) k1
      · cases hr'
    · cases hy
  · cases hy
theorem yfzL_sound : ∀ {cs cs' : List Ce} {vs : List Value} {R : Nat → Prop} {s s' : Sto}, SRep lo m R h s → L2 (CRep m R h) cs vs → yfzL s cs = some (cs', s') →
    ∃ R', Frz lo m R h s R' s' ∧ L2 (CRep m R' h) cs' vs ∧ (pcs cs ≠ none → R' = R ∧ s' = s ∧ cs' = cs)
  | [], cs', vs, R, s, s', hs, hl, hy => by cases hy; exact ⟨R, Frz.refl hs, hl, fun _ => ⟨rfl, rfl, rfl⟩⟩
  | c :: cs, cs', [], R, s, s', hs, hl, hy => absurd hl.1 (by simp)
  | c :: cs, cs', v :: vs, R, s, s', hs, hl, hy => by
    simp only [yfzL] at hy
    split at hy
    · rename_i c1 s1 h1
      split at hy
      · rename_i cs2 s2 h2
        cases hy
        obtain ⟨R1, ⟨a1, a2⟩, a3, a4⟩ := yfzC_sound hs hl.head h1
        obtain ⟨R2, ⟨b1, b2⟩, b3, b4⟩ := yfzL_sound a1 (hl.tail.mono fun _ _ hp => hp.mono (MpLe.refl _) a2.rd fun _ _ => rfl) h2
        refine ⟨R2, ⟨b1, a2.trans b2⟩, b3.cons (a3.mono (MpLe.refl _) b2.rd fun _ _ => rfl), fun hp => ?_⟩
        cases c with
        | p c =>
          obtain ⟨rfl, rfl, rfl⟩ := a4 (by simp [cep])
          have hp2 : pcs cs ≠ none := fun hn => hp (by simp [pcs, hn])
          obtain ⟨rfl, rfl, rfl⟩ := b4 hp2
          exact ⟨rfl, rfl, rfl⟩
        | _ => exact absurd rfl hp
      · cases hy
    · cases hy
theorem yfzV_sound (hs : SRep lo m R h s) {x x' : YV} {v : Value} {s' : Sto} (hv : VRep m R h x v) (hy : yfzV s x = some (x', s')) : ∃ R', Frz lo m R h s R' s' ∧ VRep m R' h x' v ∧ (ypc x ≠ none → R' = R ∧ s' = s ∧ x' = x) := by
  unfold yfzV at hy
  split at hy
  · rename_i c
    split at hy
    · rename_i c1 s1 h1
      cases hy
      obtain ⟨R1, a1, a3, a4⟩ := yfzC_sound hs hv h1
      refine ⟨R1, a1, a3, fun hp => ?_⟩
      cases c with
      | p c => obtain ⟨rfl, rfl, rfl⟩ := a4 (by simp [cep]); exact ⟨rfl, rfl, rfl⟩
      | _ => exact absurd rfl hp
    · cases hy
  · split at hy
    · rename_i cs1 s1 h1
      cases hy
      obtain ⟨vs, rfl, hl⟩ := hv
      obtain ⟨R1, a1, a3, a4⟩ := yfzL_sound hs hl h1
      exact ⟨R1, a1, ⟨vs, rfl, a3⟩, fun hp => by obtain ⟨rfl, rfl, rfl⟩ := a4 hp; exact ⟨rfl, rfl, rfl⟩⟩
    · cases hy
  · cases hy
def PartsRep (m : Mp) (R : Nat → Prop) (h : H) (ps : List (Nat × YV)) (vs : List (Nat × Value)) : Prop := L2 (fun (a : Nat × YV) (b : Nat × Value) => a.1 = b.1 ∧ VRep m R h a.2 b.2) ps vs
theorem yfzP_sound : ∀ {ps ps' : List (Nat × YV)} {vs : List (Nat × Value)} {R : Nat → Prop} {s s' : Sto}, SRep lo m R h s → PartsRep m R h ps vs → yfzP s ps = some (ps', s') →
    ∃ R', Frz lo m R h s R' s' ∧ PartsRep m R' h ps' vs ∧ ((∀ p, p ∈ ps → ypc p.2 ≠ none) → R' = R)
  | [], ps', vs, R, s, s', hs, hl, hy => by cases hy; exact ⟨R, Frz.refl hs, hl, fun _ => rfl⟩
  | c :: cs, cs', [], R, s, s', hs, hl, hy => absurd hl.1 (by simp)
  | (i, c) :: cs, cs', v :: vs, R, s, s', hs, hl, hy => by
    simp only [yfzP] at hy
    split at hy
    · rename_i c1 s1 h1
      split at hy
      · rename_i cs2 s2 h2
        cases hy
        obtain ⟨R1, ⟨a1, a2⟩, a3, a4⟩ := yfzV_sound hs hl.head.2 h1
        obtain ⟨R2, ⟨b1, b2⟩, b3, b4⟩ := yfzP_sound a1 (hl.tail.mono fun _ _ hp => ⟨hp.1, hp.2.mono (MpLe.refl _) a2.rd fun _ _ => rfl⟩) h2
        refine ⟨R2, ⟨b1, a2.trans b2⟩, L2.cons ⟨hl.head.1, a3.mono (MpLe.refl _) b2.rd fun _ _ => rfl⟩ b3, fun hp => ?_⟩
        obtain ⟨rfl, _, _⟩ := a4 (hp (i, c) (List.mem_cons_self ..))
        exact b4 fun p hp' => hp p (List.mem_cons_of_mem _ hp')
      · cases hy
    · cases hy
theorem yels_sound' {sz : Nat} : ∀ {ps : List (Nat × YV)} {us : List (Nat × Value)} {els els' : List (List PC)} {vs : List Value}, PartsRep m R h ps us →
    (∀ cs, cs ∈ els → cs.length = sz) → L2 (PRep R h) els.flatten vs → yels sz els ps = some els' →
    ∃ ws, lfill (fun i => some (i * sz, sz)) vs us = some ws ∧ L2 (PRep R h) els'.flatten ws ∧ els'.length = els.length ∧ ∀ cs, cs ∈ els' → cs.length = sz
  | [], us, els, els', vs, hp, he, hl, hy => by
    cases hy
    cases us with
    | nil => exact ⟨vs, rfl, hl, rfl, he⟩
    | cons u us => exact absurd hp.1 (by simp)
  | p :: ps, [], els, els', vs, hp, he, hl, hy => absurd hp.1 (by simp)
  | (i, o) :: ps, (i', u) :: us, els, els', vs, hp, he, hl, hy => by
    obtain ⟨hi', hu⟩ := hp.head
    simp only at hi' hu
    subst hi'
    simp only [yels] at hy
    simp only [lfill]
    split at hy
    · cases hy
    · rename_i xs hx
      split at hy
      · rename_i hc
        obtain ⟨c1, c2⟩ := hc
        obtain ⟨k1, k2⟩ := hu.ypc hx
        have k3 := k1.1
        have k4 := hl.1
        rw [flen he] at k4
        have hm : i * sz + sz ≤ els.length * sz := by rw [← Nat.succ_mul]; exact Nat.mul_le_mul_right _ c2
        have hi : els[i]? = some els[i] := List.getElem?_eq_getElem c2
        have h0 := he _ (List.mem_of_getElem? hi)
        have hset := fset he hi (off := 0) (vs := xs) (by omega)
        rw [gsplice_all (by omega), Nat.add_zero] at hset
        rw [if_neg (by rw [k2]; simp; omega)]
        have he2 : ∀ cs, cs ∈ els.set i xs → cs.length = sz := fun cs hm => by
          rcases List.mem_or_eq_of_mem_set hm with hm | rfl
          · exact he cs hm
          · exact c1
        obtain ⟨ws, g1, g2, g3, g4⟩ := yels_sound' (vs := splice vs (i * sz) (clist u)) hp.tail he2 (by rw [hset]; exact hl.splice k1) hy
        exact ⟨ws, g1, g2, by rw [g3]; simp, g4⟩
      · cases hy
theorem yBuildSlice_sound (hs : SRep lo m R h s) {ρ : Operand → YV} {σ : Operand → Value} (hρ : ∀ o, VRep m R h (ρ o) (σ o)) {t : TypeId} {len : Nat} {parts : Array (Nat × Operand)} {out : YOut} {s' : Sto}
    (hy : yBuildSlice P ρ t len parts.toList s = some (out, s')) : ∃ y v' h', out = .val y ∧ opBuildSlice P σ t len parts.toList h = some (.val v', h') ∧ Did' lo m R h s y s' v' h' (yfrz ρ (.buildSlice t len parts)) := by
  unfold yBuildSlice at hy
  split at hy
  · rename_i e he
    split at hy
    · rename_i z hz
      obtain ⟨u, h1, h2, h3⟩ := yzero_inv hz
      subst h2
      unfold yBuildRow at hy
      split at hy
      · rename_i ps s1 hps
        have hpr : PartsRep m R h (parts.toList.map fun p => (p.1, ρ p.2)) (parts.toList.map fun p => (p.1, σ p.2)) := by
          refine ⟨by simp, fun i a b ha hb => ?_⟩
          rw [List.getElem?_map] at ha hb
          cases hp : parts.toList[i]? with
          | none => rw [hp] at ha; cases ha
          | some p => rw [hp] at ha hb; cases ha; cases hb; exact ⟨rfl, hρ p.2⟩
        obtain ⟨R1, ⟨a1, a2⟩, a3, a4⟩ := yfzP_sound hs hpr hps
        split at hy
        · rename_i hc
          split at hy
          · rename_i els hels
            cases hy
            have hlen : ∀ cs, cs ∈ List.replicate len ((clist u).map PC.d) → cs.length = tySz P e := rep_len (by simp [hc.1])
            obtain ⟨us, k1, k2, k3, k4⟩ := yels_sound' a3 hlen (zero_row h3 len) hels
            simp only [opBuildSlice, he, h1, k1]
            rw [if_pos hc]
            have hn : els.length = len := by rw [k3]; simp
            obtain ⟨m', p1, p2, p3, p4⟩ := made_row a1 (by have := hc.2.1; omega) k4 k2
            rw [hn] at p2
            refine ⟨_, _, _, rfl, rfl, m', R1, p1, p2, a2.trans p3, p4, fun hf => a4 fun p hp hn => ?_⟩
            obtain ⟨q, hq, rfl⟩ := List.mem_map.mp hp
            simp only [yfrz] at hf
            have := List.any_eq_false.mp hf q hq
            simp only at hn
            rw [hn] at this
            simp at this
          · cases hy
        · cases hy
      · cases hy
    · cases hy
  · cases hy
theorem yMake_sound (hs : SRep lo m R h s) {t : TypeId} {l c : YV} {vl vc : Value} (hl : VRep m R h l vl) (hc : VRep m R h c vc) {out : YOut} {s' : Sto} (hy : yMake P t l c s = some (out, s')) :
    ∃ y v' h', out = .val y ∧ opMake P t vl vc h = some (.val v', h') ∧ Did lo m R h s y s' v' h' := by
  unfold yMake at hy
  split at hy
  · rename_i e l' c' he h1 h2
    obtain ⟨rfl, _⟩ := hl.dv h1
    obtain ⟨rfl, _⟩ := hc.dv h2
    split at hy
    · rename_i z hz
      obtain ⟨u, g1, g2, g3⟩ := yzero_inv hz
      subst g2
      split at hy
      · rename_i hcc
        cases hy
        simp only [opMake, he, g1]
        rw [if_pos hcc]
        have := made_row hs (sz := tySz P e) (by have := hcc.2.2.2.1; omega) (rep_len (by simp [hcc.2.2.1])) (zero_row (n := l'.toNat) g3)
        rw [List.length_replicate] at this
        exact ⟨_, _, _, rfl, rfl, this⟩
      · cases hy
    · cases hy
  · cases hy
theorem yStore_sound (hs : SRep lo m R h s) {t : TypeId} {a v : YV} {va vv : Value} (ha : VRep m R h a va) (hv : VRep m R h v vv) {out : YOut} {s' : Sto} (hy : yStore P t s a v = some (out, s')) :
    ∃ y v' h', out = .val y ∧ opStore (xstore P lo t h va vv) = some (.val v', h') ∧ Did lo m R h s y s' v' h' := by
  unfold yStore at hy
  split at hy
  · rename_i id sz i off
    obtain ⟨b, hm, rfl⟩ := ha
    rw [nth_eq] at hy
    split at hy
    · rename_i cs he
      obtain ⟨b', vs, e1, e2, h3, h4⟩ := hs.ent _ _ _ he hm
      cases e1
      split at hy
      · split at hy
        · rename_i xs hx
          split at hy
          · rename_i hc
            obtain ⟨c1, c2, c3⟩ := hc
            cases hy
            obtain ⟨k1, k2⟩ := hv.ycl hx
            have k3 := k1.1
            have k4 := h4.1
            simp only [xstore, H.getK_eq, h3]
            rw [if_pos ⟨trivial, e2, by omega, by omega, k2, c3⟩]
            have hR : ∀ c, R c → (h.put b (some ⟨true, splice vs (0 * 0 + off) (clist vv)⟩)).get c = h.get c := fun c hc => H.get_put_ne _ (H.get_lt h3) fun he' => by
              subst he'; exact hs.own c ⟨_, _, he, by simp, hm⟩ hc
            obtain ⟨g1, g2⟩ := hs.set (e' := .box (gsplice cs off xs)) (x := some ⟨true, splice vs (0 * 0 + off) (clist vv)⟩) he (by simp) hm
              ⟨b, _, rfl, e2, H.get_put_self _ h3, L2.mono (R := CRep m R h) (by rw [Nat.zero_mul, Nat.zero_add]; exact h4.splice k1) fun _ _ hp => hp.mono (MpLe.refl _) (fun _ h => h) hR⟩
            exact ⟨_, _, _, rfl, rfl, m, g1, VRep.top _, g2, MpLe.refl _⟩
          · cases hy
        · cases hy
      · cases hy
    · rename_i z els he
      split at hy
      · rename_i hz
        subst hz
        split at hy
        · rename_i cs xs hi hx
          split at hy
          · rename_i hc
            obtain ⟨c1, c2, c3⟩ := hc
            cases hy
            rcases hs.ent _ _ _ he hm with ⟨e1, _⟩ | ⟨b', vs, e1, e2, h3, h4⟩
            · cases e1
            cases e1
            obtain ⟨k1, k2⟩ := hv.ypc hx
            have k3 := k1.1
            obtain ⟨k4, k5, _⟩ := h4.elem hi
            have hlt := lt_of_some hi
            have hbd := h4.bound
            have hmm : i * z + z ≤ els.length * z := by rw [← Nat.succ_mul]; exact Nat.mul_le_mul_right _ hlt
            simp only [xstore, H.getK_eq, h3]
            rw [if_pos ⟨trivial, e2, by omega, by omega, k2, c3⟩]
            have hR : ∀ c, R c → (h.put b (some ⟨true, splice vs (i * z + off) (clist vv)⟩)).get c = h.get c := fun c hc => H.get_put_ne _ (H.get_lt h3) fun he' => by
              subst he'; exact hs.own c ⟨_, _, he, by simp, hm⟩ hc
            have hlay : Lay R h (splice vs (i * z + off) (clist vv)) 0 z (els.set i (gsplice cs off xs)) := by
              have hsl : (splice vs (i * z + off) (clist vv)).length = vs.length := gsplice_length (by omega)
              refine ⟨by rw [hsl]; simpa using h4.bound, h4.pos, fun c hc => ?_, ?_⟩
              · rcases List.mem_or_eq_of_mem_set hc with hc | rfl
                · exact h4.each c hc
                · rw [gsplice_length c2, k5]
              · rw [fset h4.each hi (by omega), List.length_set, List.drop_zero]
                have h5 := h4.at_
                rw [List.drop_zero] at h5
                have h6 := h5.splice k1 (off := i * z + off)
                have h7 : (splice vs (i * z + off) (clist vv)).take (els.length * z) = gsplice (vs.take (els.length * z)) (i * z + off) (clist vv) := by
                  unfold splice gsplice
                  rw [List.take_append, List.take_append, List.take_take, List.take_take, List.drop_take]
                  simp only [List.length_append, List.length_take]
                  rw [Nat.min_eq_right (by omega), Nat.min_eq_left (by omega)]
                  rw [List.take_of_length_le (l := clist vv) (by omega), Nat.min_eq_left (by omega)]
                rw [h7]; exact h6
            obtain ⟨g1, g2⟩ := hs.set (e' := .row z (els.set i (gsplice cs off xs))) (x := some ⟨true, splice vs (i * z + off) (clist vv)⟩) he (by simp) hm
              (.inr ⟨b, _, rfl, e2, H.get_put_self _ h3, hlay.mono (fun _ h => h) hR⟩)
            exact ⟨_, _, _, rfl, rfl, m, g1, VRep.top _, g2, MpLe.refl _⟩
          · cases hy
        · cases hy
      · cases hy
    · cases hy
  · cases hy
theorem byteCells_all (b : ByteArray) : (byteCells b).all dry = true := by
  rw [byteCells, List.all_map, List.all_eq_true]; intro x _; rfl
theorem bytes_row (b : ByteArray) : L2 (PRep R h) ((byteCells b).map fun v => [PC.d v]).flatten (byteCells b) := by
  have : ((byteCells b).map fun v => [PC.d v]).flatten = (byteCells b).map PC.d := by
    induction byteCells b with
    | nil => rfl
    | cons x xs ih => simp [ih]
  rw [this]; exact L2.dmap (byteCells_all b)
theorem bytes_each (b : ByteArray) : ∀ cs, cs ∈ ((byteCells b).map fun v => [PC.d v]) → cs.length = 1 := fun cs hc => by
  obtain ⟨v, _, rfl⟩ := List.mem_map.mp hc; rfl
theorem ybytes_sound : ∀ {els : List (List PC)} {l vs : List Value}, ybytes els = some l → L2 (PRep R h) els.flatten vs → vs = l
  | [], l, vs, hy, hl => by
    cases hy
    cases vs with
    | nil => rfl
    | cons v vs => exact absurd hl.1 (by simp)
  | e :: els, l, vs, hy, hl => by
    unfold ybytes at hy
    split at hy
    · cases ‹_ :: _ = []›
    · rename_i v r heq
      cases heq
      split at hy
      · rename_i l' hl'
        cases hy
        cases vs with
        | nil => exact absurd hl.1 (by simp)
        | cons u us =>
          have h1 := hl.head
          cases h1
          rw [ybytes_sound hl' (vs := us) hl.tail]
      · cases hy
    · cases hy
theorem yConvert_sound (hs : SRep lo m R h s) {sT d : TypeId} {x : YV} {v : Value} (hv : VRep m R h x v) {out : YOut} {s' : Sto} (hy : yConvert P sT d x s = some (out, s')) :
    ∃ y v' h', out = .val y ∧ opRes2 (xconvert P lo sT d v h) = some (.val v', h') ∧ Did lo m R h s y s' v' h' := by
  unfold yConvert at hy
  split at hy
  · rename_i k k' n h1 h2 h3
    obtain ⟨rfl, _⟩ := hv.dv h3
    cases hy
    exact ⟨_, _, _, rfl, by simp only [xconvert, h1, h2]; rfl, Did.same hs (VRep.yd rfl)⟩
  · rename_i b h1 h2 h3
    obtain ⟨rfl, _⟩ := hv.dv h3
    cases hy
    exact ⟨_, _, _, rfl, by simp only [xconvert, h1, h2]; rfl, Did.same hs (VRep.yd rfl)⟩
  · rename_i e b h1 h2 h3
    obtain ⟨rfl, _⟩ := hv.dv h3
    split at hy
    · rename_i hc
      cases hy
      refine ⟨_, _, _, rfl, by simp only [xconvert, h1, h2]; rw [if_pos hc]; rfl, ?_⟩
      have := made_row hs (sz := 1) (by decide) (bytes_each b) (bytes_row b)
      rw [List.length_map, byteCells_length] at this
      exact this
    · cases hy
  · rename_i e h1 h2 h3
    obtain ⟨rfl, _⟩ := hv.dv h3
    split at hy
    · rename_i hc
      cases hy
      exact ⟨_, _, _, rfl, by simp only [xconvert, h1, h2]; rw [if_pos hc]; rfl, Did.same hs (VRep.yd rfl)⟩
    · cases hy
  · rename_i e h1 h2 h3
    split at hy
    · rename_i hc
      split at hy
      · rename_i els hr
        split at hy
        · rename_i l hl
          split at hy
          · rename_i b hb
            cases hy
            rcases yrow_sound hs hv hr with ⟨rfl, rfl⟩ | ⟨b', off, blk, rfl, k1, k2⟩
            · cases hl
              cases hb
              exact ⟨_, _, _, rfl, by simp only [xconvert, h1, h2]; rw [if_pos hc]; rfl, Did.same hs (VRep.yd rfl)⟩
            · have k3 := k2.bound
              have k4 := ybytes_sound hl k2.at_
              rw [Nat.mul_one] at k4 k3
              exact ⟨_, _, _, rfl, by simp only [xconvert, h1, h2, H.getK_eq, k1]; rw [if_pos hc, if_pos k3, k4, hb]; rfl, Did.same hs (VRep.yd rfl)⟩
          · cases hy
        · cases hy
      · cases hy
    · cases hy
  · cases hy
end
end Go.Vx
