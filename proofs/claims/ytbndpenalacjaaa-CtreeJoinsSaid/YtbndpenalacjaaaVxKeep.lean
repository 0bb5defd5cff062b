/- What an operation of the interpreter leaves as it was. -/
import Derived.Test.YtbndpenalacjaaaVxOne
namespace Go.Vx
structure Keep (lo : Nat) (h h' : H) : Prop where
  n : h.n ≤ h'.n
  get : ∀ i, i < h.n → i < lo → h'.get i = h.get i
  back : ∀ i, i < h.n → ∀ b', h'.get i = some b' → ∃ b, h.get i = some b ∧ b.own = b'.own
theorem Keep.refl (lo : Nat) (h : H) : Keep lo h h := ⟨Nat.le_refl _, fun _ _ _ => rfl, fun _ _ b' hb => ⟨b', hb, rfl⟩⟩
theorem Keep.trans {lo : Nat} {a b c : H} (h : Keep lo a b) (k : Keep lo b c) : Keep lo a c :=
  ⟨Nat.le_trans h.n k.n, fun i hi hl => (k.get i (Nat.lt_of_lt_of_le hi h.n) hl).trans (h.get i hi hl), fun i hi b' hb => by
    obtain ⟨b1, h1, h2⟩ := k.back i (Nat.lt_of_lt_of_le hi h.n) b' hb
    obtain ⟨b0, h3, h4⟩ := h.back i hi b1 h1
    exact ⟨b0, h3, h4.trans h2⟩⟩
theorem Keep.lower {lo lo' : Nat} {a b : H} (h : Keep lo a b) (hl : lo' ≤ lo) : Keep lo' a b := ⟨h.n, fun i hi hl' => h.get i hi (Nat.lt_of_lt_of_le hl' hl), h.back⟩
theorem back_push {h : H} {b : Blk} : ∀ i, i < h.n → ∀ b', (h.push b).get i = some b' → ∃ b, h.get i = some b ∧ b.own = b'.own :=
  fun i hi b' hb => by rw [H.get_push_ne _ _ (by omega)] at hb; exact ⟨b', hb, rfl⟩
theorem back_refl {h : H} : ∀ i, i < h.n → ∀ b', h.get i = some b' → ∃ b, h.get i = some b ∧ b.own = b'.own := fun _ _ b' hb => ⟨b', hb, rfl⟩
theorem Keep.push (lo : Nat) (h : H) (b : Blk) : Keep lo h (h.push b) := ⟨by simp, fun i hi _ => H.get_push_ne _ _ (by omega), back_push⟩
section
variable {P : Program} {eqs : List TypeId} {lo : Nat} {ρ : Operand → Value} {h h' : H} {v : Value}
theorem xappend_keep {t xt : TypeId} {s x : Value} (hx : xappend P lo t xt s x h = some (v, h')) :
    h.n ≤ h'.n ∧ (∀ i, i < h.n → (∀ a n c, s = .slice (some a) n c → a.block = i → i < lo) → h'.get i = h.get i) ∧
      ∀ i, i < h.n → ∀ b', h'.get i = some b' → ∃ b, h.get i = some b ∧ b.own = b'.own := by
  unfold xappend at hx
  simp only [H.getK_eq] at hx
  split at hx
  · cases hx
  split at hx
  · cases hx
  split at hx
  · cases hx
  split at hx
  · cases hx
  split at hx
  · cases hx
  · split at hx
    · cases hx; exact ⟨Nat.le_refl _, fun _ _ _ => rfl, back_refl⟩
    · cases hx
  · cases s with
    | slice a n sz =>
      cases a with
      | none =>
        split at hx
        · split at hx
          · cases hx
            exact ⟨by simp, fun i hi _ => H.get_push_ne _ _ (by omega), back_push⟩
          · cases hx
        all_goals (first | (cases hx; done) | simp_all)
      | some a =>
        simp only at hx
        split at hx
        · rename_i b hg
          split at hx
          · rename_i hc
            cases hx
            refine ⟨by simp, fun i hi hne => ?_, fun i hi b' hb' => ?_⟩
            · rw [H.get_push_ne _ _ (by simp; omega), H.get_put_ne _ (H.get_lt hg)]
              intro e
              have := hne a n sz rfl e.symm
              omega
            · rw [H.get_push_ne _ _ (by simp; omega)] at hb'
              by_cases e : i = a.block
              · subst e; rw [H.get_put_self _ hg] at hb'; cases hb'
              · rw [H.get_put_ne _ (H.get_lt hg) e] at hb'; exact ⟨b', hb', rfl⟩
          · cases hx
        · cases hx
    | _ => simp at hx
theorem xstore_keep {t : TypeId} {p v : Value} (hx : xstore P lo t h p v = some h') :
    h.n ≤ h'.n ∧ (∀ i, i < h.n → (∀ a, p = .pointer (some a) → a.block = i → i < lo) → h'.get i = h.get i) ∧
      ∀ i, i < h.n → ∀ b', h'.get i = some b' → ∃ b, h.get i = some b ∧ b.own = b'.own := by
  unfold xstore at hx
  simp only [H.getK_eq] at hx
  split at hx
  · rename_i a
    split at hx
    · rename_i b hg
      split at hx
      · cases hx
        refine ⟨by simp, fun i hi hne => ?_, fun i hi b' hb' => ?_⟩
        · rw [H.get_put_ne _ (H.get_lt hg)]
          intro e
          have := hne a rfl e.symm
          omega
        · by_cases e : i = a.block
          · subst e; rw [H.get_put_self _ hg] at hb'; cases hb'; exact ⟨b, hg, rfl⟩
          · rw [H.get_put_ne _ (H.get_lt hg) e] at hb'; exact ⟨b', hb', rfl⟩
      · cases hx
    · cases hx
  · cases hx
theorem xconvert_keep {s d : TypeId} {x : Value} (hx : xconvert P lo s d x h = some (v, h')) : (h' = h ∨ ∃ b, h' = h.push b) ∨ ∃ a n sz b, (tyElem P s).isSome = true ∧ (tyElem P d).isSome = true ∧ x = .slice (some a) n sz ∧ lo ≤ a.block ∧ h.get a.block = some b ∧ h' = (h.put a.block none).push b := by
  unfold xconvert at hx
  simp only [H.getK_eq, wrapK_eq] at hx
  split at hx
  case h_4 es e a n sz hs hd =>
    right
    split at hx
    · rename_i b hg
      split at hx
      · rename_i hc
        cases hx
        exact ⟨a, n, sz, b, by simp [tyElem, hs], by simp [tyElem, hd], rfl, hc.2.2.2.1, hg, rfl⟩
      · cases hx
    · cases hx
  all_goals
    left
    (repeat' split at hx) <;> first
      | (cases hx; done)
      | (cases hx; exact .inl rfl)
      | (cases hx; exact .inr ⟨_, rfl⟩)
theorem xop_keep {op : Op} (hx : xop P eqs lo ρ op h = some (.val v, h')) :
    h.n ≤ h'.n ∧ (∀ i, i < h.n → (tgOf P ρ op = some i → i < lo) → h'.get i = h.get i) ∧ ∀ i, i < h.n → ∀ b', h'.get i = some b' → ∃ b, h.get i = some b ∧ b.own = b'.own := by
  have push : ∀ b : Blk, h.n ≤ (h.push b).n ∧ (∀ i, i < h.n → (tgOf P ρ op = some i → i < lo) → (h.push b).get i = h.get i) ∧ ∀ i, i < h.n → ∀ b', (h.push b).get i = some b' → ∃ b, h.get i = some b ∧ b.own = b'.own :=
    fun b => ⟨by simp, fun i hi _ => H.get_push_ne _ _ (by omega), back_push⟩
  have same : h.n ≤ h.n ∧ (∀ i, i < h.n → (tgOf P ρ op = some i → i < lo) → h.get i = h.get i) ∧ ∀ i, i < h.n → ∀ b', h.get i = some b' → ∃ b, h.get i = some b ∧ b.own = b'.own := ⟨Nat.le_refl _, fun _ _ _ => rfl, back_refl⟩
  cases op <;> simp only [xop] at hx <;> try (first | (cases hx; done) | (cases hx; exact same) | (obtain ⟨_, rfl⟩ := opRes_inv hx; exact same))
  case alloc t => unfold opAlloc at hx; split at hx <;> cases hx; exact push _
  case box t x => unfold opBox at hx; split at hx <;> cases hx; exact push _
  case buildSlice t n ps => unfold opBuildSlice at hx; (repeat' split at hx) <;> first | (cases hx; done) | (cases hx; exact push _)
  case makeSlice t l c => unfold opMake at hx; (repeat' split at hx) <;> first | (cases hx; done) | (cases hx; exact push _)
  case store t a x =>
    obtain ⟨hs, rfl⟩ := opStore_inv hx
    obtain ⟨h1, h3, h4⟩ := xstore_keep hs
    exact ⟨h1, fun i hi ht => h3 i hi fun a ha hb => ht (by simp only [tgOf, ha, hb]), h4⟩
  case convert s d x =>
    rcases xconvert_keep (opRes2_inv hx) with (rfl | ⟨b, rfl⟩) | ⟨a, n, sz, b, h1, h2, ha, hlo, hg, rfl⟩
    · exact same
    · exact push b
    · refine ⟨by simp, fun i hi hne => ?_, fun i hi b' hb' => ?_⟩
      · rw [H.get_push_ne _ _ (by simp; omega), H.get_put_ne _ (H.get_lt hg)]
        intro e
        have := hne (by simp only [tgOf, h1, h2, ha, Bool.and_self, if_true, e])
        omega
      · rw [H.get_push_ne _ _ (by simp; omega)] at hb'
        by_cases e : i = a.block
        · subst e; rw [H.get_put_self _ hg] at hb'; cases hb'
        · rw [H.get_put_ne _ (H.get_lt hg) e] at hb'; exact ⟨b', hb', rfl⟩
  case call c =>
    obtain ⟨callee, ⟨args⟩, ⟨argTypes⟩⟩ := c
    unfold opCall at hx
    cases callee with
    | value f =>
      simp only at hx
      unfold opCallV at hx
      split at hx
      · split at hx <;> simp at hx
      · cases hx
    | invoke r m => simp at hx
    | builtin bi =>
      cases bi <;> simp only at hx <;> try (cases hx; done)
      case len =>
        (repeat' split at hx) <;> first
          | (cases hx; done)
          | (obtain ⟨_, rfl⟩ := opRes_inv hx; exact same)
      case append =>
        split at hx
        · split at hx
          · rename_i s x
            obtain ⟨h1, h3, h4⟩ := xappend_keep (opRes2_inv hx)
            exact ⟨h1, fun i hi ht => h3 i hi fun a n c hs hb => ht (by simp only [tgOf, hs, hb]), h4⟩
          · cases hx
        · cases hx
theorem xop_light {op : Op} (hm : isMut P op = false) (hx : xop P eqs lo ρ op h = some (.val v, h')) {g : H} (hgn : g.n = h.n) (hg : ∀ r, rdOf P ρ op = some r → g.get r = h.get r) (lo' : Nat) :
    (h' = h ∧ xop P eqs lo' ρ op g = some (.val v, g)) ∨ ∃ b, h' = h.push b ∧ xop P eqs lo' ρ op g = some (.val v, g.push b) := by
  have res : ∀ r r' : Option Value, opRes h r = some (.val v, h') → (r = some v → r' = some v) → (h' = h ∧ opRes g r' = some (.val v, g)) ∨ ∃ b, h' = h.push b ∧ opRes g r' = some (.val v, g.push b) := fun r r' h1 h2 => by
    obtain ⟨h3, h4⟩ := opRes_inv h1
    left
    rw [h2 h3]
    exact ⟨h4, rfl⟩
  cases op <;> simp only [xop] at hx ⊢ <;> try (first | (cases hx; done) | (cases hx; left; exact ⟨rfl, rfl⟩) | exact res _ _ hx id)
  case store t a x => simp [isMut] at hm
  case load t a =>
    refine res _ _ hx fun hu => ?_
    unfold xload at hu ⊢
    simp only [H.getK_eq] at hu ⊢
    split at hu
    · rename_i b hb
      rw [hg b.block (by simp only [rdOf, hb])]
      exact hu
    · cases hu
  case alloc t =>
    right
    unfold opAlloc at hx ⊢
    split at hx
    · cases hx; exact ⟨_, rfl, by simp only [hgn]⟩
    · cases hx
  case box t x =>
    right
    unfold opBox at hx ⊢
    split at hx
    · cases hx
    · cases hx; exact ⟨_, rfl, by simp only [hgn]⟩
  case buildSlice t len parts =>
    right
    unfold opBuildSlice at hx ⊢
    split at hx
    · rename_i e he
      split at hx
      · rename_i z hz
        split at hx
        · rename_i hc
          split at hx
          · rename_i cs hcs
            cases hx
            refine ⟨_, rfl, ?_⟩
            simp only [if_pos hc, hgn]
          · cases hx
        · cases hx
      · cases hx
    · cases hx
  case makeSlice t l c =>
    right
    unfold opMake at hx ⊢
    split at hx
    · rename_i e l' c' he hl hc
      split at hx
      · rename_i z hz
        split at hx
        · rename_i hcc
          cases hx
          refine ⟨_, rfl, ?_⟩
          simp only [if_pos hcc, hgn]
        · cases hx
      · cases hx
    · cases hx
  case convert s d x =>
      have hu := opRes2_inv hx
      clear hx
      have conv : (h' = h ∧ xconvert P lo' s d (ρ x) g = some (v, g)) ∨ ∃ b, h' = h.push b ∧ xconvert P lo' s d (ρ x) g = some (v, g.push b) := by
        unfold xconvert at hu ⊢
        simp only [H.getK_eq, wrapK_eq] at hu ⊢
        split at hu
        · cases hu; left; exact ⟨rfl, rfl⟩
        · cases hu; left; exact ⟨rfl, rfl⟩
        · split at hu
          · rename_i hc
            cases hu; right
            refine ⟨_, rfl, ?_⟩
            simp only [if_pos hc, hgn]
          · cases hu
        · rename_i es e a n sz hs hd hx
          exfalso
          simp [isMut, tyElem, hs, hd] at hm
        · rename_i e a n sz hs hd hx
          left
          split at hu
          · rename_i hc
            split at hu
            · cases hu; refine ⟨rfl, ?_⟩; simp only [if_pos hc]
            · rename_i a
              have hga := hg a.block (by simp [rdOf, tyElem, hs, tyIsStr, hd, hx])
              simp only [if_pos hc, hga]
              split at hu
              · split at hu
                · rename_i hf
                  split at hu
                  · rename_i l hl
                    cases hu
                    refine ⟨rfl, ?_⟩
                    simp only [if_pos hf]
                  · cases hu
                · cases hu
              · cases hu
          · cases hu
        · cases hu
      rcases conv with ⟨h1, h2⟩ | ⟨b, h1, h2⟩
      · left; exact ⟨h1, by rw [h2]; rfl⟩
      · right; exact ⟨b, h1, by rw [h2]; rfl⟩
  case call c =>
    obtain ⟨callee, ⟨args⟩, ⟨argTypes⟩⟩ := c
    unfold opCall at hx ⊢
    cases callee with
    | value f =>
      simp only at hx
      unfold opCallV at hx
      split at hx
      · split at hx <;> simp at hx
      · cases hx
    | invoke r m => simp at hx
    | builtin bi =>
      cases bi <;> simp only at hx <;> try (cases hx; done)
      case len =>
        simp only
        split at hx
        · split at hx
          · exact res _ _ hx id
          · cases hx
        · cases hx
      case append => simp [isMut] at hm
end
section
variable (C : Cx)
def CallKeep (callf : Nat → FuncId → List Value → H → Option (Value × H)) : Prop := ∀ lo f args h v h', callf lo f args h = some (v, h') → Keep lo h h'
def ToldKeep : Prop := ∀ f g, C.told f = some g → ∀ lo args h v h', g lo args h = some (v, h') → Keep lo h h'
variable {C} {callf : Nat → FuncId → List Value → H → Option (Value × H)}
theorem xop_call_same {P : Program} {eqs : List TypeId} {lo : Nat} {ρ : Operand → Value} {h h' : H} {op : Op} {f : FuncId} {args : List Value} (hx : xop P eqs lo ρ op h = some (.call f args, h')) : h' = h := by
  obtain ⟨_, _, _, _, _, _, _, _, _, _, h1⟩ := xop_call hx
  exact h1
theorem xstep_keep (hc : CallKeep callf) {draw : Bool} {lo : Nat} {ops : List Oper} {o : Oper} {e : Env} {h h' : H} {v : Value}
    (hx : xstep C callf draw lo ops o e h = some (v, h')) : Keep lo h h' := by
  unfold xstep at hx
  split at hx
  · split at hx
    · rename_i v1 h1 h2
      cases hx
      obtain ⟨k1, k2, k3⟩ := xop_keep h2
      exact ⟨k1, fun i hi hl => k2 i hi fun _ => hl, k3⟩
    · rename_i f args h1 h2
      have := xop_call_same h2
      subst this
      have := hc _ _ _ _ _ _ hx
      refine this.lower ?_
      split
      · exact Nat.le_max_left _ _
      · exact Nat.le_refl _
    · cases hx
  · cases hx; exact Keep.refl _ _
theorem xops_keep (hc : CallKeep callf) {draw : Bool} {lo : Nat} {ops : List Oper} : ∀ (os : List Oper) (e e' : Env) (h h' : H), xops C callf draw lo ops os e h = some (e', h') → Keep lo h h'
  | [], e, e', h, h', hx => by rw [xops_nil] at hx; cases hx; exact Keep.refl _ _
  | o :: os, e, e', h, h', hx => by
    rw [xops_cons] at hx
    split at hx
    · rename_i v h1 h2
      exact (xstep_keep hc h2).trans (xops_keep hc os _ _ _ _ hx)
    · cases hx
theorem xopsT_keep (hc : CallKeep callf) {lo : Nat} {ops : List Oper} : ∀ (os : List Oper) (e e' : Env) (h h' : H) (tr), xopsT C callf lo ops os e h = some (e', h', tr) → Keep lo h h'
  | [], e, e', h, h', tr, hx => by rw [xopsT_nil] at hx; cases hx; exact Keep.refl _ _
  | o :: os, e, e', h, h', tr, hx => by
    rw [xopsT_cons] at hx
    split at hx
    · rename_i v h1 h2
      split at hx
      · rename_i e2 h3 tr' h4
        cases hx
        exact (xstep_keep hc h2).trans (xopsT_keep hc os _ _ _ _ _ h4)
      · cases hx
    · cases hx
theorem xcall_keep (ht : ToldKeep C) {run : Nat → Code → Env → H → Option (X × Env × H)} (hrun : ∀ lo c e h x e' h', run lo c e h = some (x, e', h') → Keep lo h h') : CallKeep (xcall C run) := by
  intro lo f args h v h' hx
  unfold xcall at hx
  split at hx
  · rename_i g hg; exact ht f g hg lo args h v h' hx
  · split at hx
    · split at hx
      · cases hx
      · split at hx
        · cases hx
        · split at hx
          · rename_i e h1 h2
            split at hx
            · cases hx; exact hrun _ _ _ _ _ _ _ h2
            · cases hx
          · rename_i e h1 h2
            split at hx
            · cases hx; exact hrun _ _ _ _ _ _ _ h2
            · cases hx
          · cases hx
    · cases hx
theorem ex_keep (ht : ToldKeep C) : ∀ n lo c e h x e' h', ex C n lo c e h = some (x, e', h') → Keep lo h h' := by
  intro n
  induction n with
  | zero => intro lo c e h x e' h' hx; rw [ex_zero] at hx; cases hx
  | succ n ih =>
    have hc := xcall_keep ht ih
    intro lo c e h x e' h' hx
    rw [ex_succ] at hx
    unfold exStep at hx
    split at hx
    · cases hx; exact Keep.refl _ _
    · unfold exRegion at hx
      split at hx
      · split at hx
        · rename_i h1; cases hx; exact xops_keep hc _ _ _ _ _ h1
        · cases hx
      · split at hx
        · rename_i h1
          split at hx
          · cases hx; exact xopsT_keep hc _ _ _ _ _ _ h1
          · cases hx
        · cases hx
    · unfold exSeq at hx
      split at hx
      · rename_i h1; exact (ih _ _ _ _ _ _ _ h1).trans (ih _ _ _ _ _ _ _ hx)
      · exact ih _ _ _ _ _ _ _ hx
    · unfold exCond at hx
      split at hx
      · exact ih _ _ _ _ _ _ _ hx
      · exact ih _ _ _ _ _ _ _ hx
      · cases hx
    · unfold exBlock at hx
      split at hx
      · rename_i h1
        split at hx <;> (cases hx; exact ih _ _ _ _ _ _ _ h1)
      · exact ih _ _ _ _ _ _ _ hx
    · unfold exSeq at hx
      split at hx
      · rename_i h1; exact (ih _ _ _ _ _ _ _ h1).trans (ih _ _ _ _ _ _ _ hx)
      · exact ih _ _ _ _ _ _ _ hx
    · cases hx; exact Keep.refl _ _
    · cases hx; exact Keep.refl _ _
    · cases hx
end
end Go.Vx
