/- Drawn regions that read beside what they turn: what is read is no block that is turned. -/
import Derived.Test.YtbndpenalacjaaaVyFn
set_option linter.unusedVariables false
namespace Go.Vx
noncomputable def ychk (s : Sto) (rs ts : List Nat) (ρ : Operand → YV) : Op → Option (List Nat × List Nat)
  | .load _ a => (match ρ a with
    | .c (.rp _) => some (rs, ts)
    | .c (.ptr id _ _ _) => (match nth s id with
      | some (.box _) => (match ts.contains id with | true => none | false => some (id :: rs, ts))
      | _ => none)
    | _ => none)
  | .store _ a _ => (match ρ a with
    | .c (.ptr id _ _ _) => (match rs.contains id with | true => none | false => some (rs, id :: ts))
    | _ => none)
  | .convert _ _ x => (match ρ x with
    | .c (.own ..) => none
    | .c .top => none
    | _ => some (rs, ts))
  | .buildSlice t len parts => (match yfrz ρ (.buildSlice t len parts) with | true => none | false => some (rs, ts))
  | _ => some (rs, ts)
def yidle : YV → Bool
  | .tup [] => true
  | .c (.p (.d _)) => true
  | _ => false
def yskip (ρ : Operand → YV) : Op → Bool
  | .load _ a => yidle (ρ a)
  | .store _ a _ => yidle (ρ a)
  | .convert _ _ x => yidle (ρ x)
  | .call { callee := .builtin .append, .. } => false
  | _ => true
def ytk (A : List Nat → List Nat → Prop) : Option (List Nat × List Nat) → Prop
  | some (rs, ts) => A rs ts
  | none => False
def yif (A : Prop) : Bool → Prop
  | true => A
  | false => False
noncomputable def YT (C : Cx) (gs : List (Option Nat)) : List Oper → List Nat → List Nat → List YV → Sto → (List YV → Sto → Prop) → Prop
  | [], _, _, e, s, Q => Q e s
  | ⟨d, op, _, _, _, none⟩ :: rest, rs, ts, e, s, Q => ytk (fun rs ts => ygo C true (fun v s => YT C gs rest rs ts (yput e d v) s Q) (yop C.P C.eqs (yv e) op s)) (ychk s rs ts (yv e) op)
  | ⟨d, op, _, _, _, some (j, w)⟩ :: rest, rs, ts, e, s, Q => ygi (ytk (fun rs ts => ygo C true (fun v s => YT C gs rest rs ts (yput e d v) s Q) (yop C.P C.eqs (yv e) op s)) (ychk s rs ts (yv e) op))
      (yif (YT C gs rest rs ts (yput e d (.tup [])) s Q) (yskip (yv e) op)) (yguard gs e j w)
section
variable {C : Cx} {P : Program} {lo pin : Nat} {m m' : Mp} {R R' : Nat → Prop} {h h' : H} {s s' : Sto} {e : List YV} {env : Env}
structure TrOk (pre : Tr) (m : Mp) (R : Nat → Prop) (h : H) (s : Sto) (rs ts : List Nat) : Prop where
  reads : ∀ r x, (some r, x) ∈ pre → R r ∨ ∃ (c : Nat) (cs : List Ce), c ∈ rs ∧ s[c]? = some (.box cs) ∧ m[c]? = some (some r)
  turns : ∀ t x, (x, some t) ∈ pre → t < h.n ∧ ¬ R t ∧ ∀ (c : Nat) (cs : List Ce), s[c]? = some (.box cs) → m[c]? = some (some t) → c ∈ ts
  pairs : ∀ r t x y, (some r, x) ∈ pre → (y, some t) ∈ pre → r ≠ t
theorem okTrace_of {pre : Tr} {ops : List Oper} (hp : ∀ r t x y, (some r, x) ∈ pre → (y, some t) ∈ pre → r ≠ t) : okTrace ops pre = true := by
  unfold okTrace
  cases hts : tgsOf pre 0 with
  | nil => rfl
  | cons t0 ts =>
    simp only [okPairs, List.all_eq_true]
    intro y hy x hx
    rw [← hts] at hy
    obtain ⟨i, r⟩ := x
    obtain ⟨j, t⟩ := y
    obtain ⟨i', _, _, g1⟩ := rds_of hx
    obtain ⟨j', _, _, g2⟩ := tgs_of hy
    have : r ≠ t := hp r t _ _ (List.mem_of_getElem? g1) (List.mem_of_getElem? g2)
    simp [apartTr, this]
theorem SRep.box (hs : SRep lo m R h s) {id : Nat} {cs : List Ce} {mb : Option Nat} (h1 : s[id]? = some (.box cs)) (h2 : m[id]? = some mb) : ∃ b, mb = some b := by
  obtain ⟨b, vs, h3, _⟩ := hs.ent _ _ _ h1 h2
  exact ⟨b, h3⟩
theorem rd_sound (hs : SRep lo m R h s) {ρ : Operand → YV} {σ : Operand → Value} (hρ : ∀ o, VRep m R h (ρ o) (σ o)) {op : Op} {rs ts rs' ts' : List Nat} (hc : ychk s rs ts ρ op = some (rs', ts')) :
    (∀ x, x ∈ rs → x ∈ rs') ∧ (∀ x, x ∈ ts → x ∈ ts') ∧ ∀ r, rdOf P σ op = some r → R r ∨ ∃ (c : Nat) (cs : List Ce), c ∈ rs' ∧ c ∉ ts ∧ s[c]? = some (.box cs) ∧ m[c]? = some (some r) := by
  cases op
  case load t a =>
    simp only [ychk] at hc
    have ha := hρ a
    split at hc
    · rename_i cs hrp
      cases hc
      rw [hrp] at ha
      refine ⟨fun _ h => h, fun _ h => h, fun r hr => ?_⟩
      obtain ⟨b, o, blk, h1, _, h3, _⟩ := ha
      simp only [rdOf, h3] at hr
      cases hr; exact .inl h1
    · rename_i id _ _ _ hptr
      rw [hptr] at ha
      rw [nth_eq] at hc
      split at hc
      · rename_i cs hb
        split at hc
        · cases hc
        · rename_i hts
          cases hc
          refine ⟨fun _ h => List.mem_cons_of_mem _ h, fun _ h => h, fun r hr => ?_⟩
          obtain ⟨b, h1, h3⟩ := ha
          simp only [rdOf, h3] at hr
          cases hr
          exact .inr ⟨id, cs, List.mem_cons_self .., by simpa using hts, hb, h1⟩
      · cases hc
    · cases hc
  case convert sT d x =>
    simp only [ychk] at hc
    have hx := hρ x
    split at hc
    · cases hc
    · cases hc
    · rename_i n1 n2
      cases hc
      refine ⟨fun _ h => h, fun _ h => h, fun r hr => ?_⟩
      simp only [rdOf] at hr
      split at hr
      · generalize hv : σ x = v at hx hr
        split at hr
        · rename_i a n c
          cases hr
          generalize ρ x = y at hx n1 n2
          cases y with
          | c c =>
            cases c with
            | p c =>
              cases c with
              | d u =>
                generalize hw : Value.slice (some a) n _ = w at hx
                cases hx
                subst hw
                rename_i hd
                simp [dry] at hd
              | row sz els =>
                rcases PRep.lay hx with ⟨h1, _⟩ | ⟨b, off, blk, h1, h2, _⟩
                · cases h1
                · injection h1 with h1 _ _; injection h1 with h1; subst h1; exact .inl h2
            | own => exact absurd rfl (n1 _ _ _ _)
            | ptr => obtain ⟨b, _, h1⟩ := hx; cases h1
            | rp => obtain ⟨b, o, blk, _, _, h1, _⟩ := hx; cases h1
            | top => exact absurd rfl n2
          | agg cs => obtain ⟨vs, h1, _⟩ := hx; cases h1
          | tup xs => obtain ⟨vs, h1, _⟩ := hx; cases h1
        · cases hr
      · cases hr
  case store t a v =>
    simp only [ychk] at hc
    split at hc
    · split at hc
      · cases hc
      · cases hc; exact ⟨fun _ h => h, fun _ h => List.mem_cons_of_mem _ h, fun r hr => by cases hr⟩
    · cases hc
  case buildSlice t len parts =>
    simp only [ychk] at hc
    split at hc
    · cases hc
    · cases hc; exact ⟨fun _ h => h, fun _ h => h, fun r hr => by cases hr⟩
  all_goals (cases hc; exact ⟨fun _ h => h, fun _ h => h, fun r hr => by cases hr⟩)
theorem tg_sound (hs : SRep lo m R h s) {eqs : List TypeId} {ρ : Operand → YV} {σ : Operand → Value} (hρ : ∀ o, VRep m R h (ρ o) (σ o)) {op : Op} {out : YOut} {rs ts rs' ts' : List Nat} (hy : yop P eqs ρ op s = some (out, s'))
    (hc : ychk s rs ts ρ op = some (rs', ts')) {t : Nat} (ht : tgOf P σ op = some t) : ∃ (a : Nat) (f : Ent), s[a]? = some f ∧ f ≠ .dead ∧ m[a]? = some (some t) ∧ ((∃ sz els, f = .row sz els) ∨ a ∉ rs ∧ a ∈ ts') := by
  cases op
  case store ty a v =>
    simp only [ychk] at hc
    have ha := hρ a
    split at hc
    · rename_i id _ _ _ hptr
      split at hc
      · cases hc
      · rename_i hrs
        cases hc
        rw [hptr] at ha
        obtain ⟨b, h1, h3⟩ := ha
        simp only [tgOf, h3] at ht
        cases ht
        simp only [yop, yStore, hptr] at hy
        rw [nth_eq] at hy
        split at hy
        · rename_i cs hb; exact ⟨id, _, hb, by simp, h1, .inr ⟨by simpa using hrs, List.mem_cons_self ..⟩⟩
        · rename_i z els hb; exact ⟨id, _, hb, by simp, h1, .inl ⟨z, els, rfl⟩⟩
        · cases hy
    · cases hc
  case convert sT d x =>
    exfalso
    simp only [tgOf] at ht
    simp only [yop, yConvert] at hy
    split at ht
    · rename_i hcond
      simp only [Bool.and_eq_true] at hcond
      generalize hv : σ x = v at ht
      split at ht
      · rename_i a n c
        have hx := hρ x
        rw [hv] at hx
        have e1 : ∃ e, P.underlying sT = some (.slice e) := by
          have h1 := hcond.1
          unfold tyElem at h1
          split at h1
          · rename_i e he; exact ⟨e, he⟩
          · cases h1
        have e2 : ∃ e, P.underlying d = some (.slice e) := by
          have h1 := hcond.2
          unfold tyElem at h1
          split at h1
          · rename_i e he; exact ⟨e, he⟩
          · cases h1
        obtain ⟨e1, h1⟩ := e1
        obtain ⟨e2, h2⟩ := e2
        have hno : ∀ b, dv (ρ x) ≠ some (.string b) := fun b hb => by have := (hx.dv hb).1; cases this
        rw [h1, h2] at hy
        split at hy
        · rename_i he _; cases he
        · rename_i he _ _; cases he
        · rename_i b _ he hb; exact absurd hb (hno _)
        · rename_i he _; cases he
        · rename_i he _; cases he
        · cases hy
      · cases ht
    · cases ht
  case call c =>
    obtain ⟨callee, args, argTypes⟩ := c
    cases callee
    case builtin bi =>
      cases bi
      case append =>
        simp only [yop, yCall] at hy
        simp only [tgOf] at ht
        split at hy
        · split at hy
          · rename_i h1 a x h2
            rw [h2] at ht
            simp only at ht
            have ha := hρ a
            unfold yAppend at hy
            split at hy
            · cases hy
            split at hy
            · cases hy
            split at hy
            · split at hy
              · cases hy
              split at hy
              · rename_i hnil
                rw [hnil] at ha
                generalize σ a = v at ha ht
                cases ha
                cases ht
              · rename_i id sz off len hown
                rw [hown] at ha
                rw [nth_eq] at hy
                split at hy
                · rename_i z els he
                  rcases ha with ⟨_, ⟨h3, _⟩ | ⟨b, hm, h3⟩⟩
                  · rw [h3] at ht; cases ht
                  · rw [h3] at ht
                    cases ht
                    exact ⟨id, _, he, by simp, hm, .inl ⟨z, els, rfl⟩⟩
                · cases hy
              · cases hy
            · cases hy
          · cases hy
        · cases hy
      all_goals cases ht
    all_goals cases ht
  all_goals cases ht
structure KeepB (s s' : Sto) : Prop where
  on : ∀ (c : Nat) (cs : List Ce), s[c]? = some (.box cs) → ∃ cs', s'[c]? = some (.box cs')
  back : ∀ (c : Nat) (cs : List Ce), s'[c]? = some (.box cs) → (∃ cs', s[c]? = some (.box cs')) ∨ s.length ≤ c ∧ ∀ (j : Nat) (f : Ent), s[j]? = some f → s'[j]? = some f
theorem KeepB.refl (s : Sto) : KeepB s s := ⟨fun c cs h => ⟨cs, h⟩, fun c cs h => .inl ⟨cs, h⟩⟩
theorem KeepB.push (s : Sto) (x : Ent) : KeepB s (s ++ [x]) := ⟨fun c cs h => ⟨cs, by rw [List.getElem?_append_left (lt_of_some h)]; exact h⟩, fun c cs h => by
  rcases some_push h with ⟨_, h⟩ | ⟨h, _⟩
  · exact .inl ⟨cs, h⟩
  · exact .inr ⟨by omega, fun j f hj => by rw [List.getElem?_append_left (lt_of_some hj)]; exact hj⟩⟩
theorem KeepB.box {id : Nat} {cs cs' : List Ce} (h1 : s[id]? = some (.box cs)) : KeepB s (s.set id (.box cs')) := ⟨fun c xs h => by
  by_cases hc : id = c
  · subst hc; exact ⟨cs', by rw [List.getElem?_set, if_pos rfl, if_pos (lt_of_some h)]⟩
  · exact ⟨xs, by rw [List.getElem?_set, if_neg hc]; exact h⟩, fun c xs h => by
  rcases some_set h with ⟨rfl, _⟩ | ⟨_, h⟩
  · exact .inl ⟨cs, h1⟩
  · exact .inl ⟨xs, h⟩⟩
theorem KeepB.row {id z : Nat} {els : List (List PC)} {x : Ent} (hx : ∀ cs, x ≠ .box cs) (h1 : s[id]? = some (.row z els)) : KeepB s (s.set id x) := ⟨fun c xs h => by
  by_cases hc : id = c
  · subst hc; rw [h1] at h; cases h
  · exact ⟨xs, by rw [List.getElem?_set, if_neg hc]; exact h⟩, fun c xs h => by
  rcases some_set h with ⟨rfl, h2⟩ | ⟨_, h2⟩
  · exact absurd h2.symm (hx xs)
  · exact .inl ⟨xs, h2⟩⟩
theorem KeepB.rowPush {id z y : Nat} {els els' : List (List PC)} (h1 : s[id]? = some (.row z els)) : KeepB s (s.set id .dead ++ [.row y els']) := ⟨fun c xs h => by
  by_cases hc : id = c
  · subst hc; rw [h1] at h; cases h
  · exact ⟨xs, by rw [List.getElem?_append_left (by simpa using lt_of_some h), List.getElem?_set, if_neg hc]; exact h⟩, fun c xs h => by
  rcases some_push h with ⟨_, h⟩ | ⟨_, h⟩
  · rcases some_set h with ⟨rfl, h2⟩ | ⟨_, h2⟩
    · cases h2
    · exact .inl ⟨xs, h2⟩
  · cases ‹Ent.box xs = Ent.row _ _›⟩
structure KeepS (s s' : Sto) : Prop where
  len : s'.length = s.length
  on : ∀ (c : Nat) (cs : List Ce), s'[c]? = some (.box cs) ↔ s[c]? = some (.box cs)
theorem KeepS.refl (s : Sto) : KeepS s s := ⟨rfl, fun _ _ => Iff.rfl⟩
theorem KeepS.trans {a b c : Sto} (h : KeepS a b) (k : KeepS b c) : KeepS a c := ⟨k.len.trans h.len, fun i cs => (k.on i cs).trans (h.on i cs)⟩
theorem KeepS.kill {id z : Nat} {els : List (List PC)} (h1 : s[id]? = some (.row z els)) : KeepS s (s.set id .dead) := ⟨by simp, fun c cs => by
  by_cases hc : id = c
  · subst hc
    rw [h1]
    constructor
    · intro h; rcases some_set h with ⟨_, h2⟩ | ⟨h2, _⟩
      · cases h2
      · exact absurd rfl h2
    · intro h; cases h
  · rw [List.getElem?_set, if_neg hc]⟩
theorem KeepS.push {s' : Sto} (h : KeepS s s') {y : Nat} (els : List (List PC)) : KeepB s (s' ++ [.row y els]) := ⟨fun c xs hx => ⟨xs, by rw [List.getElem?_append_left (by rw [h.len]; exact lt_of_some hx)]; exact (h.on c xs).mpr hx⟩, fun c xs hx => by
  rcases some_push hx with ⟨_, h2⟩ | ⟨_, h2⟩
  · exact .inl ⟨xs, (h.on c xs).mp h2⟩
  · cases h2⟩
theorem yfzC_keepS {c c' : Ce} (hy : yfzC s c = some (c', s')) : KeepS s s' := by
  unfold yfzC at hy
  split at hy
  · cases hy; exact KeepS.refl s
  · split at hy
    · rename_i hr
      cases hy
      unfold yrow at hr
      simp only at hr
      rw [nth_eq] at hr
      split at hr
      · rename_i he; exact KeepS.kill he
      · cases hr
    · cases hy
  · cases hy
theorem yfzL_keepS : ∀ {cs cs' : List Ce} {s s' : Sto}, yfzL s cs = some (cs', s') → KeepS s s'
  | [], _, s, _, hy => by cases hy; exact KeepS.refl s
  | c :: cs, _, s, _, hy => by
    simp only [yfzL] at hy
    split at hy
    · rename_i h1
      split at hy
      · rename_i h2; cases hy; exact (yfzC_keepS h1).trans (yfzL_keepS h2)
      · cases hy
    · cases hy
theorem yfzV_keepS {x x' : YV} (hy : yfzV s x = some (x', s')) : KeepS s s' := by
  unfold yfzV at hy
  split at hy
  · split at hy
    · rename_i h1; cases hy; exact yfzC_keepS h1
    · cases hy
  · split at hy
    · rename_i h1; cases hy; exact yfzL_keepS h1
    · cases hy
  · cases hy
theorem yfzP_keepS : ∀ {ps ps' : List (Nat × YV)} {s s' : Sto}, yfzP s ps = some (ps', s') → KeepS s s'
  | [], _, s, _, hy => by cases hy; exact KeepS.refl s
  | (i, c) :: cs, _, s, _, hy => by
    simp only [yfzP] at hy
    split at hy
    · rename_i h1
      split at hy
      · rename_i h2; cases hy; exact (yfzV_keepS h1).trans (yfzP_keepS h2)
      · cases hy
    · cases hy
theorem yop_keepB {eqs : List TypeId} {ρ : Operand → YV} {op : Op} {out : YOut} (hy : yop P eqs ρ op s = some (out, s')) : KeepB s s' := by
  have res : ∀ {r : Option YV}, yRes s r = some (out, s') → KeepB s s' := by
    intro r hr
    unfold yRes at hr
    split at hr
    · cases hr; exact KeepB.refl s
    · cases hr
  have new : ∀ {x : Ent} {v : YV}, yNew s x v = some (out, s') → KeepB s s' := by
    intro x v hr; cases hr; exact KeepB.push s x
  cases op <;> simp only [yop] at hy
  case move => cases hy; exact KeepB.refl s
  case assign => cases hy; exact KeepB.refl s
  case pick => exact res hy
  case alloc => unfold yAlloc at hy; split at hy; exact new hy; cases hy
  case box => unfold yBox at hy; split at hy; exact new hy; cases hy
  case build => exact res hy
  case buildSlice =>
    unfold yBuildSlice at hy
    split at hy
    · split at hy
      · unfold yBuildRow at hy
        split at hy
        · rename_i hps
          split at hy
          · split at hy
            · cases hy; exact (yfzP_keepS hps).push _
            · cases hy
          · cases hy
        · cases hy
      · cases hy
    · cases hy
  case load => exact res hy
  case store =>
    unfold yStore at hy
    split at hy
    · rw [nth_eq] at hy
      split at hy
      · rename_i he
        split at hy
        · split at hy
          · split at hy
            · cases hy; exact KeepB.box he
            · cases hy
          · cases hy
        · cases hy
      · rename_i he
        split at hy
        · split at hy
          · split at hy
            · cases hy; exact KeepB.row (by simp) he
            · cases hy
          · cases hy
        · cases hy
      · cases hy
    · cases hy
  case nilCheck => exact res hy
  case binOp => exact res hy
  case unOp => exact res hy
  case convert =>
    unfold yConvert at hy
    split at hy
    · cases hy; exact KeepB.refl s
    · cases hy; exact KeepB.refl s
    · split at hy
      · exact new hy
      · cases hy
    · split at hy
      · cases hy; exact KeepB.refl s
      · cases hy
    · split at hy
      · split at hy
        · split at hy
          · split at hy
            · cases hy; exact KeepB.refl s
            · cases hy
          · cases hy
        · cases hy
      · cases hy
    · cases hy
  case slice t x l hi mx =>
    cases mx with
    | some mx => cases hy
    | none =>
      simp only at hy
      split at hy
      · exact res hy
      · cases hy
  case fieldAddr => exact res hy
  case field => exact res hy
  case indexAddr => exact res hy
  case index => exact res hy
  case extract => exact res hy
  case makeSlice =>
    unfold yMake at hy
    split at hy
    · split at hy
      · split at hy
        · exact new hy
        · cases hy
      · cases hy
    · cases hy
  case call c =>
    unfold yCall at hy
    split at hy
    · split at hy
      · split at hy
        · cases hy; exact KeepB.refl s
        · cases hy
      · cases hy
    · split at hy
      · split at hy
        · exact res hy
        · cases hy
      · cases hy
    · split at hy
      · split at hy
        · unfold yAppend at hy
          split at hy
          · cases hy
          split at hy
          · cases hy
          split at hy
          · split at hy
            · cases hy
            split at hy
            · split at hy
              · exact new hy
              · cases hy
            · rw [nth_eq] at hy
              split at hy
              · rename_i he
                split at hy
                · cases hy; exact KeepB.rowPush he
                · cases hy
              · cases hy
            · cases hy
          · cases hy
        · cases hy
      · cases hy
    · cases hy
  all_goals cases hy
theorem TrOk.nil (s : Sto) : TrOk [] m R h s [] [] := ⟨fun r x h => by simp at h, fun t x h => by simp at h, fun r t x y h => by simp at h⟩
theorem TrOk.on {pre : Tr} {rs ts rs' ts' : List Nat} {m1 : Mp} {R1 : Nat → Prop} {h1 : H} {s1 : Sto} (k : TrOk pre m R h s rs ts) (hs : SRep lo m R h s) (hs1 : SRep lo m1 R1 h1 s1) (hm : MpLe m m1) (st : Stp m R h s m1 R1 h1 s1)
    (hk : KeepB s s1) (hrd' : ∀ b, R1 b → b < h.n → R b) (hrs : ∀ x, x ∈ rs → x ∈ rs') (hts : ∀ x, x ∈ ts → x ∈ ts') : TrOk pre m1 R1 h1 s1 rs' ts' where
  reads r x hx := (k.reads r x hx).imp (st.rd r) fun ⟨c, cs, a, b, d⟩ => let ⟨cs', e⟩ := hk.on c cs b; ⟨c, cs', hrs c a, e, hm _ _ d⟩
  turns t x hx := by
    obtain ⟨a, b, d⟩ := k.turns t x hx
    refine ⟨Nat.lt_of_lt_of_le a st.n, fun hr => b (hrd' t hr a), fun c cs g1 g2 => hts c ?_⟩
    rcases hk.back c cs g1 with ⟨cs', g3⟩ | ⟨g3, g4⟩
    · have hc := lt_of_some g3
      rw [← hs.len] at hc
      obtain ⟨b', hb'⟩ := hs.box g3 (List.getElem?_eq_getElem hc)
      have hmc : m[c]? = some (some b') := by rw [List.getElem?_eq_getElem hc, hb']
      have := hm _ _ hmc
      rw [g2] at this
      cases this
      exact d c cs' g3 hmc
    · exfalso
      obtain ⟨j, f, j1, j2, j3⟩ := st.old t ⟨c, _, g1, by simp, g2⟩ a
      have := hs1.inj c j _ f t g1 (g4 j f j1) (by simp) j2 g2 (hm _ _ j3)
      have := lt_of_some j1
      omega
  pairs := k.pairs
theorem mem_snoc {α : Type} {xs : List α} {x y : α} (h : y ∈ xs ++ [x]) : y ∈ xs ∨ y = x := by simpa using h
theorem TrOk.add {pre : Tr} {rs ts rs' ts' : List Nat} {a b : Option Nat} (k : TrOk pre m R h s rs ts) (hs : SRep lo m R h s) (hrs : ∀ x, x ∈ rs → x ∈ rs') (hts : ∀ x, x ∈ ts → x ∈ ts')
    (ha : ∀ r, a = some r → R r ∨ ∃ (c : Nat) (cs : List Ce), c ∈ rs' ∧ c ∉ ts ∧ s[c]? = some (.box cs) ∧ m[c]? = some (some r))
    (hb : ∀ t, b = some t → ∃ (i : Nat) (f : Ent), s[i]? = some f ∧ f ≠ .dead ∧ m[i]? = some (some t) ∧ ((∃ sz els, f = .row sz els) ∨ i ∉ rs ∧ i ∈ ts')) (hab : a = none ∨ b = none) : TrOk (pre ++ [(a, b)]) m R h s rs' ts' where
  reads r x hx := by
    rcases mem_snoc hx with hx | hx
    · exact (k.reads r x hx).imp (fun h => h) fun ⟨c, cs, g, j⟩ => ⟨c, cs, hrs c g, j⟩
    · cases hx
      exact (ha r rfl).imp (fun h => h) fun ⟨c, cs, g1, _, g3⟩ => ⟨c, cs, g1, g3⟩
  turns t x hx := by
    rcases mem_snoc hx with hx | hx
    · obtain ⟨p, q, d⟩ := k.turns t x hx
      exact ⟨p, q, fun c cs g1 g2 => hts c (d c cs g1 g2)⟩
    · cases hx
      obtain ⟨i, f, g1, g2, g3, g4⟩ := hb t rfl
      have hB : Blks m s t := ⟨i, f, g1, g2, g3⟩
      refine ⟨hs.blkLt hB, hs.own t hB, fun c cs q1 q2 => ?_⟩
      have := hs.inj c i _ f t q1 g1 (by simp) g2 q2 g3
      subst this
      rcases g4 with ⟨sz, els, rfl⟩ | ⟨_, g4⟩
      · rw [q1] at g1; cases g1
      · exact g4
  pairs r t x y hx hy := by
    rcases mem_snoc hx with hx1 | hx1 <;> rcases mem_snoc hy with hy1 | hy1
    · exact k.pairs r t x y hx1 hy1
    · cases hy1
      obtain ⟨i, f, g1, g2, g3, g4⟩ := hb t rfl
      have hB : Blks m s t := ⟨i, f, g1, g2, g3⟩
      rintro rfl
      rcases k.reads r x hx1 with hr | ⟨c, cs, q1, q2, q3⟩
      · exact hs.own r hB hr
      · have := hs.inj c i _ f r q2 g1 (by simp) g2 q3 g3
        subst this
        rcases g4 with ⟨sz, els, rfl⟩ | ⟨g4, _⟩
        · rw [q2] at g1; cases g1
        · exact g4 q1
    · cases hx1
      obtain ⟨p, q, d⟩ := k.turns t y hy1
      rintro rfl
      rcases ha r rfl with hr | ⟨c, cs, q1, q2, q3, q4⟩
      · exact q hr
      · exact q2 (d c cs q3 q4)
    · cases hx1
      cases hy1
      rcases hab with h | h <;> cases h
theorem rd_or_tg {ρ : Operand → Value} (op : Op) : rdOf P ρ op = none ∨ tgOf P ρ op = none := by
  cases op
  case load => exact .inr rfl
  case convert sT d x =>
    simp only [rdOf, tgOf]
    by_cases h1 : tyIsStr P d = true
    · right
      have h2 : tyElem P d = none := by
        unfold tyIsStr at h1
        unfold tyElem
        split at h1
        · rename_i he; rw [he]
        · cases h1
      simp [h2]
    · left; simp [h1]
  all_goals exact .inl rfl
theorem skip_none {ρ : Operand → YV} {σ : Operand → Value} (hρ : ∀ o, VRep m R h (ρ o) (σ o)) {op : Op} (hy : yskip ρ op = true) : rdOf P σ op = none ∧ tgOf P σ op = none := by
  have idle : ∀ o, yidle (ρ o) = true → (∀ a, σ o ≠ .pointer (some a)) ∧ ∀ a n c, σ o ≠ .slice (some a) n c := by
    intro o ho
    have hr := hρ o
    generalize ρ o = y at ho hr
    generalize σ o = v at hr
    unfold yidle at ho
    split at ho
    · obtain ⟨vs, rfl, _⟩ := hr; exact ⟨fun a => by simp, fun a n c => by simp⟩
    · cases hr
      rename_i hd
      exact ⟨fun a hq => (by subst hq; simp [dry] at hd), fun a n c hq => (by subst hq; simp [dry] at hd)⟩
    · cases ho
  cases op
  case load t a =>
    refine ⟨?_, rfl⟩
    simp only [rdOf]
    split
    · rename_i b hb; exact absurd hb ((idle a hy).1 b)
    · rfl
  case store t a v =>
    refine ⟨rfl, ?_⟩
    simp only [tgOf]
    split
    · rename_i b hb; exact absurd hb ((idle a hy).1 b)
    · rfl
  case convert sT d x =>
    have := (idle x hy).2
    simp only [rdOf, tgOf]
    exact ⟨by split <;> rfl, by split <;> rfl⟩
  case call c =>
    obtain ⟨callee, as, ats⟩ := c
    cases callee
    case builtin bi =>
      cases bi
      case append => cases hy
      all_goals exact ⟨rfl, rfl⟩
    all_goals exact ⟨rfl, rfl⟩
  all_goals exact ⟨rfl, rfl⟩
theorem WT.mono {gs : List (Option Nat)} {os : List Oper} {pre : Tr} {Q Q' : Env → H → Tr → Prop} (hw : WT C lo gs os env h pre Q) (hq : ∀ e h tr, Q e h tr → Q' e h tr) : WT C lo gs os env h pre Q' :=
  let ⟨n, e', h', tr, h1, h2⟩ := hw; ⟨n, e', h', tr, h1, hq _ _ _ h2⟩
theorem frz_chk {ρ : Operand → YV} {op : Op} {rs ts rs' ts' : List Nat} (hc : ychk s rs ts ρ op = some (rs', ts')) : yfrz ρ op = false := by
  cases op
  case buildSlice t len parts =>
    simp only [ychk] at hc
    split at hc
    · cases hc
    · assumption
  all_goals rfl
theorem YT_sound {gs : List (Option Nat)} : ∀ {os : List Oper} {rs ts : List Nat} {e : List YV} {s : Sto} {Q : List YV → Sto → Prop} {m : Mp} {R : Nat → Prop} {h : H} {env : Env} {pre : Tr}, YT C gs os rs ts e s Q → SRep lo m R h s → L2 (VRep m R h) e env → TrOk pre m R h s rs ts →
    WT C lo gs os env h pre fun env' h' tr => (∀ r t x y, (some r, x) ∈ tr → (y, some t) ∈ tr → r ≠ t) ∧ ∃ m' R' e' s', Q e' s' ∧ SRep lo m' R' h' s' ∧ L2 (VRep m' R' h') e' env' ∧ Stp m R h s m' R' h' s' ∧ MpLe m m'
  | [], rs, ts, e, s, Q, m, R, h, env, pre, hy, hs, he, hk => by
    rw [WT_nil]
    exact ⟨hk.pairs, m, R, e, s, hy, hs, he, Stp.refl _ _ _ _, MpLe.refl _⟩
  | ⟨d, op, t, p, a, g⟩ :: rest, rs, ts, e, s, Q, m, R, h, env, pre, hy, hs, he, hk => by
    have go : ytk (fun rs ts => ygo C true (fun v s => YT C gs rest rs ts (yput e d v) s Q) (yop C.P C.eqs (yv e) op s)) (ychk s rs ts (yv e) op) →
        wto C lo gs rest d env (pre ++ [(rdOf C.P (ev env) op, tgOf C.P (ev env) op)]) (fun env' h' tr => (∀ r t x y, (some r, x) ∈ tr → (y, some t) ∈ tr → r ≠ t) ∧ ∃ m' R' e' s', Q e' s' ∧ SRep lo m' R' h' s' ∧ L2 (VRep m' R' h') e' env' ∧ Stp m R h s m' R' h' s' ∧ MpLe m m')
          (xop C.P C.eqs lo (ev env) op h) := by
      intro hy0
      cases hc : ychk s rs ts (yv e) op with
      | none => rw [hc] at hy0; exact hy0.elim
      | some rt =>
      obtain ⟨rs', ts'⟩ := rt
      rw [hc] at hy0
      have hy1 : ygo C true (fun v s => YT C gs rest rs' ts' (yput e d v) s Q) (yop C.P C.eqs (yv e) op s) := hy0
      clear hy0
      obtain ⟨q1, q2, q3⟩ := rd_sound (P := C.P) hs (yv_sound he) hc
      cases hr : yop C.P C.eqs (yv e) op s with
      | none => rw [hr] at hy1; exact hy1.elim
      | some r =>
        obtain ⟨out, s1⟩ := r
        rw [hr] at hy1
        have hkb := yop_keepB hr
        have hk1 := hk.add (a := rdOf C.P (ev env) op) (b := tgOf C.P (ev env) op) hs q1 q2 q3 (fun t ht => tg_sound hs (yv_sound he) hr hc ht) (rd_or_tg op)
        rcases yop_sound hs (yv_sound he) hr with ⟨y, v', h1, rfl, hx, m1, R1, hs1, hv1, st, hm, hfz⟩ | ⟨f, args, vals, rfl, rfl, hx, ha⟩
        · rw [hx, wto_val]
          obtain rfl := hfz (frz_chk hc)
          have he1 := he.vmono (m' := m1) (h' := h1) hm st.rd (hs.keepR st)
          have hk2 := hk1.on hs hs1 hm st hkb (fun b hb _ => hb) (fun _ h => h) (fun _ h => h)
          refine WT.mono (YT_sound (rs := rs') (ts := ts') (Q := Q) hy1 hs1 (he1.yput hv1 d) hk2) ?_
          rintro env2 h2 tr ⟨k0, m2, R2, e2, s2, q, k1, k2, k3, k4⟩
          exact ⟨k0, m2, R2, e2, s2, q, k1, k2, st.trans k3, fun i b hb => k4 i b (hm i b hb)⟩
        · rw [hx, wto_call]
          refine WCall.mono (hy1 lo m R h vals hs ha) ?_
          rintro v h1 ⟨m1, R1, s2, y, hk', hs1, hv1, st, hm, hdr⟩
          obtain ⟨rfl, rfl, hR⟩ := hdr rfl
          have he1 := he.vmono (m' := m1) (h' := h1) (R' := R1) hm st.rd (hs.keepR st)
          have hk2 := hk1.on hs hs1 hm st (KeepB.refl _) hR (fun _ h => h) (fun _ h => h)
          refine WT.mono (YT_sound (Q := Q) hk' hs1 (he1.yput hv1 d) hk2) ?_
          rintro env2 h2 tr ⟨k0, m2, R2, e2, s2, q, k1, k2, k3, k4⟩
          exact ⟨k0, m2, R2, e2, s2, q, k1, k2, st.trans k3, fun i b hb => k4 i b (hm i b hb)⟩
    cases g with
    | none =>
      rw [WT_none]
      exact go hy
    | some g =>
      obtain ⟨j, w⟩ := g
      rw [WT_some]
      have hy' : ygi (ytk (fun rs ts => ygo C true (fun v s => YT C gs rest rs ts (yput e d v) s Q) (yop C.P C.eqs (yv e) op s)) (ychk s rs ts (yv e) op)) (yif (YT C gs rest rs ts (yput e d (.tup [])) s Q) (yskip (yv e) op)) (yguard gs e j w) := hy
      cases hg : yguard gs e j w with
      | none => rw [hg] at hy'; exact hy'.elim
      | some b =>
        rw [hg] at hy'
        rw [yguard_sound he hg]
        cases b with
        | true => rw [wti_true]; exact go hy'
        | false =>
          rw [wti_false]
          have hy' : yif (YT C gs rest rs ts (yput e d (.tup [])) s Q) (yskip (yv e) op) := hy'
          cases hsk : yskip (yv e) op with
          | false => rw [hsk] at hy'; exact hy'.elim
          | true =>
            rw [hsk] at hy'
            obtain ⟨n1, n2⟩ := skip_none (P := C.P) (yv_sound he) hsk
            rw [n1, n2]
            exact YT_sound (Q := Q) hy' hs (he.yput (v := .tup []) ⟨[], rfl, L2.nil⟩ d) (hk.add hs (fun _ h => h) (fun _ h => h) (fun r h => by cases h) (fun t h => by cases h) (.inl rfl))
theorem YD_trace {id : Nat} {ops : Array Oper} {e : List YV} {s : Sto} {Q : X → List YV → Sto → Prop} (hy : YT C (ops.toList.map Oper.dst) ops.toList [] [] e s (Q .normal)) : YD C pin id ops e s Q :=
  fun lo m R h env hs he => W_drawnG (WT.mono (YT_sound hy hs he (TrOk.nil s)) fun env1 h1 tr ⟨k0, m1, R1, e1, s1, q, hs1, he1, st, hp⟩ => ⟨okTrace_of k0, m1, R1, e1, s1, q, hs1, he1, st, fun i b _ hb => hp i b hb⟩)
end
end Go.Vx
