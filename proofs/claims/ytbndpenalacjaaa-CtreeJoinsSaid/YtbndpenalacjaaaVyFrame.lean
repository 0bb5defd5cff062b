/- Calls that are handed some of the run's own; results of a call's own; nil rows in results. -/
import Derived.Test.YtbndpenalacjaaaVyRun
set_option linter.unusedVariables false
namespace Go.Vx
def refC (k : Nat) : Ce → Bool
  | .own id _ _ _ | .ptr id _ _ _ => Nat.blt id k
  | _ => true
def refE (k : Nat) : Ent → Bool
  | .box cs => cs.all (refC k)
  | _ => true
def refV (k : Nat) : YV → Bool
  | .c c => refC k c
  | .agg cs => cs.all (refC k)
  | .tup _ => false
section
variable {C : Cx} {lo k : Nat} {m m' : Mp} {R R' : Nat → Prop} {h h' : H} {s s' : Sto}
theorem take_get {α : Type} {xs : List α} {i k : Nat} {x : α} (h : (xs.take k)[i]? = some x) : i < k ∧ xs[i]? = some x := by
  rw [List.getElem?_take] at h
  split at h
  · exact ⟨by assumption, h⟩
  · cases h
theorem get_take {α : Type} {xs : List α} {i k : Nat} {x : α} (hi : i < k) (h : xs[i]? = some x) : (xs.take k)[i]? = some x := by
  rw [List.getElem?_take, if_pos hi]; exact h
theorem CRep.cut {c : Ce} {v : Value} (hc : CRep m R h c v) (hr : refC k c = true) : CRep (m.take k) R h c v := by
  have key : ∀ id, Nat.blt id k = true → id < k := fun id hb => by simpa [Nat.blt_eq] using hb
  cases c with
  | p c => exact hc
  | own id sz off len => exact ⟨hc.1, hc.2.imp (fun x => x) fun ⟨b, h1, h2⟩ => ⟨b, get_take (key id hr) h1, h2⟩⟩
  | ptr id sz i off => obtain ⟨b, h1, h2⟩ := hc; exact ⟨b, get_take (key id hr) h1, h2⟩
  | rp cs => exact hc
  | top => trivial
theorem L2.cut {cs : List Ce} {vs : List Value} (hl : L2 (CRep m R h) cs vs) (hr : cs.all (refC k) = true) : L2 (CRep (m.take k) R h) cs vs :=
  ⟨hl.1, fun i a b ha hb => (hl.2 i a b ha hb).cut (List.all_eq_true.mp hr a (List.mem_of_getElem? ha))⟩
theorem VRep.cut {x : YV} {v : Value} (hx : VRep m R h x v) (hr : refV k x = true) : VRep (m.take k) R h x v := by
  cases x with
  | c c => exact CRep.cut (c := c) hx hr
  | agg cs => obtain ⟨vs, h1, h2⟩ := hx; exact ⟨vs, h1, h2.cut hr⟩
  | tup xs => cases hr
theorem ERep.cut {e : Ent} {mb : Option Nat} (he : ERep lo m R h e mb) (hr : refE k e = true) : ERep lo (m.take k) R h e mb := by
  cases e with
  | dead => trivial
  | box cs => obtain ⟨b, vs, h1, h2, h3, h4⟩ := he; exact ⟨b, vs, h1, h2, h3, h4.cut hr⟩
  | row sz els => exact he
theorem Blks.cut {b : Nat} (hb : Blks (m.take k) (s.take k) b) : ∃ (i : Nat) (e : Ent), i < k ∧ s[i]? = some e ∧ e ≠ .dead ∧ m[i]? = some (some b) := by
  obtain ⟨i, e, h1, h2, h3⟩ := hb
  exact ⟨i, e, (take_get h1).1, (take_get h1).2, h2, (take_get h3).2⟩
theorem SRep.cut (hs : SRep lo m R h s) (hr : (s.take k).all (refE k) = true) : SRep lo (m.take k) R h (s.take k) where
  len := by simp [hs.len]
  ent i e mb h1 h2 := (hs.ent i e mb (take_get h1).2 (take_get h2).2).cut (List.all_eq_true.mp hr e (List.mem_of_getElem? h1))
  inj i j e f b h1 h2 he hf h3 h4 := hs.inj i j e f b (take_get h1).2 (take_get h2).2 he hf (take_get h3).2 (take_get h4).2
  own b hb := let ⟨i, e, _, h1, h2, h3⟩ := hb.cut; hs.own b ⟨i, e, h1, h2, h3⟩
  rd := hs.rd
  lo := hs.lo
theorem YC_frame {f : FuncId} {args : List YV} {K K0 : YV → Sto → Prop} (k : Nat) (hk : k ≤ s.length) (ha : args.all (refV k) = true) (hr : (s.take k).all (refE k) = true) (h0 : YC C false f args (s.take k) K0)
    (hK : ∀ y s', K0 y s' → s'.length = k ∧ K y (s' ++ s.drop k)) : YC C false f args s K := by
  intro lo m R h vals hs hargs
  have hs0 := hs.cut hr
  have ha0 : L2 (VRep (m.take k) R h) args vals := ⟨hargs.1, fun i a b h1 h2 => (hargs.2 i a b h1 h2).cut (List.all_eq_true.mp ha a (List.mem_of_getElem? h1))⟩
  refine (h0 lo _ R h vals hs0 ha0).mono ?_
  rintro v h' ⟨m1, R', s1, y, hK0, hs1, hv, st, hm, _⟩
  obtain ⟨hl1, hKy⟩ := hK y s1 hK0
  have hm1 : m1.length = k := by rw [hs1.len, hl1]
  have hmk : k ≤ m.length := by rw [hs.len]; exact hk

  have low : ∀ {α : Type} {xs ys : List α} {i : Nat}, i < xs.length → (xs ++ ys)[i]? = xs[i]? := fun h => List.getElem?_append_left h
  have high : ∀ (i : Nat), k ≤ i → (m1 ++ m.drop k)[i]? = m[i]? := fun i hi => by
    rw [List.getElem?_append_right (by omega), hm1, List.getElem?_drop]; congr 1; omega
  have highs : ∀ (i : Nat), k ≤ i → (s1 ++ s.drop k)[i]? = s[i]? := fun i hi => by
    rw [List.getElem?_append_right (by omega), hl1, List.getElem?_drop]; congr 1; omega
  have hle : MpLe m (m1 ++ m.drop k) := fun i b hib => by
    by_cases hi : i < k
    · have := hm i b (get_take hi hib)
      rw [low (by omega)]; exact this
    · rw [high i (by omega)]; exact hib
  have hle1 : MpLe m1 (m1 ++ m.drop k) := fun i b hib => by rw [low (lt_of_some hib)]; exact hib
  have hsub : ∀ b, Blks (m.take k) (s.take k) b → Blks m s b := fun b hb => let ⟨i, e, _, h1, h2, h3⟩ := hb.cut; ⟨i, e, h1, h2, h3⟩
  have hoth : ∀ (j : Nat) (e : Ent) (b : Nat), k ≤ j → s[j]? = some e → e ≠ .dead → m[j]? = some (some b) → ¬ Blks (m.take k) (s.take k) b := fun j e b hj h1 h2 h3 hb => by
    obtain ⟨i, f, hi, g1, g2, g3⟩ := hb.cut
    have := hs.inj i j f e b g1 h1 g2 h2 g3 h3
    omega
  have hkR : ∀ b, R b → h'.get b = h.get b := hs0.keepR st
  have hB : ∀ b, Blks (m1 ++ m.drop k) (s1 ++ s.drop k) b → Blks m1 s1 b ∨ ∃ (j : Nat) (e : Ent), k ≤ j ∧ s[j]? = some e ∧ e ≠ .dead ∧ m[j]? = some (some b) := by
    rintro b ⟨i, e, h1, h2, h3⟩
    by_cases hi : i < k
    · rw [low (by omega)] at h1 h3
      exact .inl ⟨i, e, h1, h2, h3⟩
    · rw [highs i (by omega)] at h1
      rw [high i (by omega)] at h3
      exact .inr ⟨i, e, by omega, h1, h2, h3⟩
  refine ⟨m1 ++ m.drop k, R', s1 ++ s.drop k, y, hKy, ⟨by simp [hs1.len, hs.len], fun i e mb h1 h2 => ?_, fun i j e f b h1 h2 he hf h3 h4 => ?_, fun b hb hrb => ?_, hs1.rd, hs1.lo⟩,
    hv.mono hle1 (fun _ h => h) (fun _ _ => rfl), ⟨st.n, fun b hb hn => st.keep b hb fun hc => hn (hsub b hc), fun b hb hbn => ?_, st.rd, fun b hb hbn => (st.rd' b hb hbn).imp (fun x => x) (hsub b)⟩, hle, fun hd => by cases hd⟩
  · by_cases hi : i < k
    · rw [low (by omega)] at h1 h2
      by_cases hd : e = .dead
      · subst hd; trivial
      · exact (hs1.ent i e mb h1 h2).mono hle1 (fun _ h => h) (fun _ _ => rfl) fun _ _ => rfl
    · rw [highs i (by omega)] at h1
      rw [high i (by omega)] at h2
      by_cases hd : e = .dead
      · subst hd; trivial
      · have h3 := hs.ent i e mb h1 h2
        exact h3.mono hle st.rd hkR fun b hb => by
          subst hb
          exact st.keep b (h3.lt hd) (hoth i e b (by omega) h1 hd h2)
  · have mix : ∀ (i j : Nat) (e f : Ent), i < k → k ≤ j → (s1 ++ s.drop k)[i]? = some e → (s1 ++ s.drop k)[j]? = some f → e ≠ .dead → f ≠ .dead → (m1 ++ m.drop k)[i]? = some (some b) → (m1 ++ m.drop k)[j]? = some (some b) → False := by
      intro i j e f hi hj h1 h2 he hf h3 h4
      rw [low (by omega)] at h1 h3
      rw [highs j hj] at h2
      rw [high j hj] at h4
      have hbn := hs.blkLt ⟨j, f, h2, hf, h4⟩
      exact hoth j f b hj h2 hf h4 (st.old b ⟨i, e, h1, he, h3⟩ hbn)
    by_cases hi : i < k <;> by_cases hj : j < k
    · rw [low (by omega)] at h1 h2 h3 h4
      exact hs1.inj i j e f b h1 h2 he hf h3 h4
    · exact (mix i j e f hi (by omega) h1 h2 he hf h3 h4).elim
    · exact (mix j i f e hj (by omega) h2 h1 hf he h4 h3).elim
    · rw [highs i (by omega)] at h1
      rw [highs j (by omega)] at h2
      rw [high i (by omega)] at h3
      rw [high j (by omega)] at h4
      exact hs.inj i j e f b h1 h2 he hf h3 h4
  · rcases hB b hb with hb | ⟨j, e, hj, h1, h2, h3⟩
    · exact hs1.own b hb hrb
    · have hbn := hs.blkLt ⟨j, e, h1, h2, h3⟩
      rcases st.rd' b hrb hbn with hr | hr
      · exact hs.own b ⟨j, e, h1, h2, h3⟩ hr
      · exact hoth j e b hj h1 h2 h3 hr
  · rcases hB b hb with hb | ⟨j, e, hj, h1, h2, h3⟩
    · exact hsub b (st.old b hb hbn)
    · exact ⟨j, e, h1, h2, h3⟩
def PCallF (C : Cx) (f : FuncId) (args : List YV) (Q : YV → Prop) : Prop :=
  ∀ (lo : Nat) (R : Nat → Prop) (h : H) (vals : List Value), lo ≤ h.n → (∀ b, R b → b < h.n) → L2 (VRep [] R h) args vals →
    WCall C lo f vals h fun v h' => ∃ R' y, Q y ∧ VRep [] R' h' y v ∧ h.n ≤ h'.n ∧ (∀ b, b < h.n → h'.get b = h.get b) ∧ ∀ b, R' b → b < h'.n ∧ h.n ≤ b
theorem PCallF.pure {f : FuncId} {args : List YV} {Q : YV → Prop} (hc : PCallF C f args Q) : PCall C f args Q :=
  fun lo R h vals hl hR ha => (hc lo R h vals hl hR ha).mono fun v h' ⟨R', y, k1, k2, k3, k4, k5⟩ => ⟨R', y, k1, k2, k3, k4, fun b hb => ⟨(k5 b hb).1, fun hbn => by have := (k5 b hb).2; omega⟩⟩
def dryEls (els : List (List PC)) : Prop := ∀ cs, cs ∈ els → ∀ c, c ∈ cs → ∃ v, c = .d v
theorem PRep.dryNew {c : PC} {v : Value} (hp : PRep R h c v) (hd : ∃ u, c = .d u) : PRep R' h c v := by
  obtain ⟨u, rfl⟩ := hd
  cases hp
  exact .d (by assumption)
theorem PfF {f : FuncId} {args : List YV} {fn : Func} {c : Code} {Q : YV → Prop} (ht : C.told f = none) (hf : Nat.ble (f + 1) C.top = true) (hfn : nth C.P.funcs.toList f = some fn) (hb : fn.body = some c)
    (hy : Rw C 0 c [] (fun x e s => (x = .normal ∨ x = .ret) ∧ ∃ id sz off len els, yresults C.P e s fn.results.toList = some [.c (.own id sz off len)] ∧ yrow s (.c (.own id sz off len)) = some (sz, els) ∧ dryEls els ∧ Q (.c (.p (.row sz els))))
      (args ++ List.replicate (fn.ntmps - args.length) (.c .top)) []) : PCallF C f args Q := by
  intro lo R h vals hlo hR ha
  refine WCall_fn ht hf hfn hb ?_
  have hs : SRep lo [] R h [] := ⟨rfl, fun i e mb h1 => by simp at h1, fun i j e f b h1 => by simp at h1, fun b ⟨i, e, h1, _⟩ => by simp at h1, hR, hlo⟩
  refine (YW_sound hy lo [] R h _ hs (ha.args_top fn.ntmps)).mono ?_
  rintro x env' h' ⟨m', R', e', s', ⟨hx, id, sz, off, len, els, hvs, hrow, hdry, hQ⟩, hs', he', st, _⟩
  obtain ⟨us, k1, k2⟩ := yresults_sound (C := C) hs' he' hvs
  cases us with
  | nil => exact absurd k2.1 (by simp)
  | cons u us =>
    cases us with
    | cons u' us => exact absurd k2.1 (by simp)
    | nil =>
      have hu : CRep m' R' h' (.own id sz off len) u := k2.head
      have hkeep : ∀ b, b < h.n → h'.get b = h.get b := fun b hb => st.keep b hb fun ⟨i, e, h1, _⟩ => by simp at h1
      have hrow' := hrow
      rcases yrow_sound (x := .c (.own id sz off len)) hs' hu hrow with ⟨rfl, rfl⟩ | ⟨b, o, blk, rfl, g1, g2⟩
      · exact ⟨hx, _, k1, fun _ => False, _, hQ, PRep.nil, st.n, hkeep, fun b hb => hb.elim⟩
      · unfold yrow at hrow'
        simp only at hrow'
        rw [nth_eq] at hrow'
        split at hrow'
        · rename_i z0 els0 he
          rcases hu with ⟨hz, ⟨hc, _⟩ | ⟨b', hm, hc⟩⟩
          · cases hc
          · injection hc with hc _ _; injection hc with hc; injection hc with hc _ _; subst hc
            have hB : Blks m' s' b := ⟨id, _, he, by simp, hm⟩
            have hnew : h.n ≤ b := by
              apply Classical.byContradiction; intro hc
              obtain ⟨i, e, h1, _⟩ := st.old b hB (by omega)
              simp at h1
            refine ⟨hx, _, k1, fun c => c = b, _, hQ, ?_, st.n, hkeep, fun c hc => by subst hc; exact ⟨hs'.blkLt hB, hnew⟩⟩
            refine Lay.prep (blk := blk) rfl g1 ⟨g2.bound, g2.pos, g2.each, g2.at_.1, fun i a v h1 h2 => (g2.at_.2 i a v h1 h2).dryNew ?_⟩
            obtain ⟨cs, hcs, hac⟩ := List.mem_flatten.mp (List.mem_of_getElem? h1)
            exact hdry cs hcs a hac
        · cases hrow'
theorem SRep.callF (hs : SRep lo m R h s) (hn : h.n ≤ h'.n) (hk : ∀ b, b < h.n → h'.get b = h.get b) (hR : ∀ b, R' b → b < h'.n ∧ h.n ≤ b) :
    SRep lo m (fun b => R b ∨ R' b) h' s ∧ Stp m R h s m (fun b => R b ∨ R' b) h' s := hs.call hn hk fun b hb => ⟨(hR b hb).1, fun hbn => by have := (hR b hb).2; omega⟩
theorem YC_borrowF {draw : Bool} {f : FuncId} {args : List YV} {K : YV → Sto → Prop} {Q : YV → Prop} (hc : PCallF C f (args.map (borV s)) Q) (hp : (args.map (borV s)).all purV = true) (hk : ∀ y, Q y → K y s) : YC C draw f args s K := by
  intro lo m R h vals hs ha
  have ha' : L2 (VRep [] (fun b => R b ∨ Blks m s b) h) (args.map (borV s)) vals := by
    have h1 : L2 (VRep m (fun b => R b ∨ Blks m s b) h) (args.map (borV s)) vals := L2.mapl (ha.mono fun _ _ hp => borV_sound hs hp)
    exact ⟨h1.1, fun i a b h2 h3 => purV_rep (h1.2 i a b h2 h3) (List.all_eq_true.mp hp a (List.mem_of_getElem? h2))⟩
  have hlo : (if draw then max lo h.n else lo) ≤ h.n := by have := hs.lo; split <;> omega
  refine (hc _ _ h vals hlo (fun b hb => hb.elim (hs.rd b) hs.blkLt) ha').mono ?_
  rintro v h' ⟨R', y, hq, hv, hn, hkeep, hR⟩
  obtain ⟨g1, g2⟩ := hs.callF hn hkeep hR
  exact ⟨m, _, s, y, hk y hq, g1, hv.mono (fun i b hb => by simp at hb) (fun b hb => .inr hb) (fun _ _ => rfl), g2, MpLe.refl _, fun _ => ⟨rfl, rfl, fun b hb hbn => hb.elim (fun h => h) fun hb => by have := (hR b hb).2; omega⟩⟩
def nrmC : Nat → Ce → Ce
  | 0, c => c
  | z + 1, .p (.d (.slice none 0 0)) => .p (.row (z + 1) [])
  | _, c => c
def nrmL : List Nat → List Ce → List Ce
  | z :: zs, c :: cs => nrmC z c :: nrmL zs cs
  | _, cs => cs
def nrmV (zs : List Nat) : YV → YV
  | .agg cs => .agg (nrmL zs cs)
  | .c c => (match zs with | [z] => .c (nrmC z c) | _ => .c c)
  | v => v
theorem nrmC_sound {z : Nat} {c : Ce} {v : Value} (hc : CRep m R h c v) : CRep m R h (nrmC z c) v := by
  unfold nrmC
  split
  · exact hc
  · generalize hu : Value.slice none 0 0 = u at hc
    cases hc
    subst hu
    exact PRep.nil
  · exact hc
theorem nrmL_sound : ∀ {zs : List Nat} {cs : List Ce} {vs : List Value}, L2 (CRep m R h) cs vs → L2 (CRep m R h) (nrmL zs cs) vs
  | [], cs, vs, hl => hl
  | z :: zs, [], vs, hl => hl
  | z :: zs, c :: cs, [], hl => absurd hl.1 (by simp)
  | z :: zs, c :: cs, v :: vs, hl => (nrmL_sound hl.tail).cons (nrmC_sound hl.head)
theorem nrmV_sound {zs : List Nat} {x : YV} {v : Value} (hx : VRep m R h x v) : VRep m R h (nrmV zs x) v := by
  unfold nrmV
  split
  · obtain ⟨vs, h1, h2⟩ := hx; exact ⟨vs, h1, nrmL_sound h2⟩
  · split
    · exact nrmC_sound hx
    · exact hx
  · exact hx
theorem Yf0 (zs : List Nat) {f : FuncId} {args : List YV} {fn : Func} {c : Code} {K : YV → Sto → Prop} (ht : C.told f = none) (hf : Nat.ble (f + 1) C.top = true) (hfn : nth C.P.funcs.toList f = some fn) (hb : fn.body = some c)
    (hy : Rw C s.length c [] (fun x e s' => (x = .normal ∨ x = .ret) ∧ ∃ vs, yresults C.P e s' fn.results.toList = some vs ∧ ∃ ks, ks.Nodup ∧ pinned s.length ks ∧ K (nrmV zs (renV ks s' (yone vs))) (renS ks s')) (args ++ List.replicate (fn.ntmps - args.length) (.c .top)) s) :
    YC C false f args s K := by
  have := YC_fn (K := fun y s' => K (nrmV zs y) s') ht hf hfn hb hy
  exact fun lo m R h vals hs ha => (this lo m R h vals hs ha).mono fun v h' ⟨m', R', s', y, k1, k2, k3, k4⟩ => ⟨m', R', s', _, k1, k2, nrmV_sound k3, k4⟩
section
variable {pin : Nat} {e : List YV} {fs : List Fr} {Q : Post} {draw : Bool} {gs : List (Option Nat)} {rest : List Oper} {rs ts : List Nat} {d : Option Nat} {f : FuncId} {args args0 : List YV} {Q' : YV → Prop}
theorem Rcall_lend (hb : args.map (borV s) = args0) (hc : PCall C f args0 Q') (hp : args0.all purV = true) (hk : ∀ y, Q' y → dryY y = true ∧ Rg C pin draw gs rest fs Q (yput e d y) s) : Rcall C pin draw gs d rest fs Q e f args s :=
  YC_borrow (by rw [hb]; exact hc) (by rw [hb]; exact hp) hk
theorem Rcall_lendF (hb : args.map (borV s) = args0) (hc : PCallF C f args0 Q') (hp : args0.all purV = true) (hk : ∀ y, Q' y → Rg C pin draw gs rest fs Q (yput e d y) s) : Rcall C pin draw gs d rest fs Q e f args s :=
  YC_borrowF (by rw [hb]; exact hc) (by rw [hb]; exact hp) hk
theorem Rtcall_lendF (hb : args.map (borV s) = args0) (hc : PCallF C f args0 Q') (hp : args0.all purV = true) (hk : ∀ y, Q' y → Rt C pin gs rest rs ts fs Q (yput e d y) s) : Rtcall C pin gs d rest rs ts fs Q e f args s :=
  YC_borrowF (by rw [hb]; exact hc) (by rw [hb]; exact hp) hk
theorem Rcall_hand (k : Nat) (s0 : Sto) (h0 : s.take k = s0) {K0 : YV → Sto → Prop} (hc : YC C false f args s0 K0) (hk : k ≤ s.length) (ha : args.all (refV k) = true) (hr : s0.all (refE k) = true)
    (hK : ∀ y s', K0 y s' → s'.length = k ∧ Rg C pin false gs rest fs Q (yput e d y) (s' ++ s.drop k)) : Rcall C pin false gs d rest fs Q e f args s :=
  YC_frame k hk ha (by rw [h0]; exact hr) (by rw [h0]; exact hc) hK
end
end
end Go.Vx
