/- Rows that stand before the call, told to the interpreter's heap: by what they read as. -/
import Derived.Test.YtmbonddknackiaaVyFn
import Derived.ChangeArms
import Derived.DataReads
import Derived.SizedLaws
set_option linter.unusedVariables false
namespace Go.Vx
open Go
section
variable {P : Program} {w : World} {base : Nat} {φ φ' φ'' : Phi} {h h' h'' : H}
structure In (base : Nat) (φ : Phi) (h : H) (w : World) : Prop where
  hr : HR base φ h w
  dom : ∀ i l, φ i = some l → i < h.n
  ro : ∀ i b, h.get i = some b → b.own = false
def Gr (φ φ' : Phi) (h h' : H) : Prop := PhiLe φ φ' ∧ h.n ≤ h'.n ∧ ∀ b, b < h.n → h'.get b = h.get b
theorem Gr.refl (φ : Phi) (h : H) : Gr φ φ h h := ⟨fun _ _ h => h, Nat.le_refl _, fun _ _ => rfl⟩
theorem Gr.trans (a : Gr φ φ' h h') (b : Gr φ' φ'' h' h'') : Gr φ φ'' h h'' :=
  ⟨fun i l hi => b.1 i l (a.1 i l hi), Nat.le_trans a.2.1 b.2.1, fun i hi => (b.2.2 i (Nat.lt_of_lt_of_le hi a.2.1)).trans (a.2.2 i hi)⟩
theorem In.nil (base : Nat) (w : World) : In base (fun _ => none) ⟨0, []⟩ w :=
  ⟨⟨fun i l h => (by cases h), fun i l b h => (by cases h), fun i l b h => (by cases h), fun i j li lj bi bj _ h => (by cases h)⟩, fun i l h => (by cases h), fun i b h => absurd (H.get_lt h) (Nat.not_lt_zero i)⟩
theorem In.push (hi : In base φ h w) {l : Loc} {c : Array Value} {el : TypeId} {fr : Nat × Nat} {xs : List Value} (hw : w.heap[l.blk]? = some (.cells c el fr)) (hl : l.off + l.room ≤ c.size) (hx : xs.length ≤ l.room)
    (hc : ∀ (j : Nat) (v : Value), xs[j]? = some v → ∃ u, c[l.off + j]? = some u ∧ CR φ v u) : In base (upd φ h.n l) (h.push ⟨false, xs⟩) w ∧ Gr φ (upd φ h.n l) h (h.push ⟨false, xs⟩) := by
  have hn : φ h.n = none := by
    cases e : φ h.n with
    | none => rfl
    | some l => exact absurd (hi.dom _ _ e) (Nat.lt_irrefl _)
  have hle : PhiLe φ (upd φ h.n l) := upd_le hn
  have hro : ∀ i b, (h.push ⟨false, xs⟩).get i = some b → b.own = false := fun i b hb => by
    by_cases e : i = h.n
    · subst e; rw [H.get_push_self] at hb; cases hb; rfl
    · rw [H.get_push_ne _ _ e] at hb; exact hi.ro i b hb
  refine ⟨⟨⟨fun i l' h1 => ?_, fun i l' b h1 h2 => ?_, fun i l' b h1 h2 h3 => ?_, fun i j li lj bi bj _ _ _ h1 _ h3 => ?_⟩, fun i l' h1 => ?_, hro⟩, hle, by simp, fun b hb => H.get_push_ne _ _ (by omega)⟩
  · by_cases e : i = h.n
    · subst e; rw [upd_self] at h1; cases h1
      have := (Array.getElem?_eq_some_iff.mp hw).1
      exact this
    · rw [upd_ne _ _ e] at h1; exact hi.hr.bound i l' h1
  · by_cases e : i = h.n
    · subst e; rw [upd_self] at h1; cases h1
      rw [H.get_push_self] at h2; cases h2
      exact ⟨c, el, fr, hw, hl, hx, fun j v hv => let ⟨u, a, b⟩ := hc j v hv; ⟨u, a, b.mono hle⟩, fun h => by cases h⟩
    · rw [upd_ne _ _ e] at h1; rw [H.get_push_ne _ _ e] at h2
      exact (hi.hr.live i l' b h1 h2).mono hle
  · rw [hro i b h2] at h3; cases h3
  · rw [hro i bi h1] at h3; cases h3
  · by_cases e : i = h.n
    · subst e; simp
    · rw [upd_ne _ _ e] at h1; have := hi.dom i l' h1; simp; omega
def Laid (φ : Phi) (h : H) (us cs : List Value) (ps : List PC) : Prop := All2 (CR φ) us cs ∧ L2 (PRep (fun b => b < h.n) h) ps us
theorem Laid.mono {us cs : List Value} {ps : List PC} (hl : Laid φ h us cs ps) (g : Gr φ φ' h h') : Laid φ' h' us cs ps :=
  ⟨hl.1.mono fun _ _ hc => hc.mono g.1, hl.2.prep_mono (fun b hb => Nat.lt_of_lt_of_le hb g.2.1) fun b hb => g.2.2 b hb⟩
theorem Laid.len {us cs : List Value} {ps : List PC} (hl : Laid φ h us cs ps) : us.length = cs.length ∧ ps.length = us.length := ⟨hl.1.1, hl.2.1⟩
theorem Laid.app {us cs us' cs' : List Value} {ps ps' : List PC} (a : Laid φ h us cs ps) (b : Laid φ h us' cs' ps') : Laid φ h (us ++ us') (cs ++ cs') (ps ++ ps') := ⟨a.1.append b.1, a.2.append b.2⟩
theorem Laid.nil : Laid φ h [] [] [] := ⟨⟨rfl, fun i v h => by simp at h⟩, L2.nil⟩
theorem Laid.dry {cs : List Value} (hd : cs.all Vx.dry = true) : Laid φ h cs cs (cs.map .d) :=
  ⟨All2.same fun v hv => CR_dry (List.all_eq_true.mp hd v hv), L2.dmap hd⟩
/-- What reads as a type can be told, and its cells are so. -/
def Lays {D : Type} (enc : TypeId × Value → D) (P : Program) (w : World) (base m : Nat) (e : TypeId) (E : List PC → Prop) : Prop :=
  ∀ (cs : List Value) (x : DataW D × List MemPlace) (φ : Phi) (h : H), In base φ h w → DataW.trod enc P w 0 (fun _ => true) true m e cs = some x → (x.1.weights P e).all (· ≤ reachBytes) = true →
    ∃ (φ' : Phi) (h' : H) (us : List Value) (ps : List PC), In base φ' h' w ∧ Gr φ φ' h h' ∧ Laid φ' h' us cs ps ∧ E ps
variable {D : Type} {enc : TypeId × Value → D}
theorem lays_list {m : Nat} {e : TypeId} {E : List PC → Prop} (hE : Lays enc P w base m e E) : ∀ (css : List (List Value)) (φ : Phi) (h : H), In base φ h w → (∀ cs, cs ∈ css → ∃ x, DataW.trod enc P w 0 (fun _ => true) true m e cs = some x ∧ (x.1.weights P e).all (· ≤ reachBytes) = true) →
    ∃ (φ' : Phi) (h' : H) (us : List Value) (pss : List (List PC)), In base φ' h' w ∧ Gr φ φ' h h' ∧ Laid φ' h' us css.flatten pss.flatten ∧ pss.length = css.length ∧ (∀ (i : Nat) (ps : List PC) (cs : List Value), pss[i]? = some ps → css[i]? = some cs → ps.length = cs.length) ∧ ∀ ps, ps ∈ pss → E ps
  | [], φ, h, hi, _ => ⟨φ, h, [], [], hi, .refl _ _, .nil, rfl, fun i ps cs h => by simp at h, fun ps h => by simp at h⟩
  | cs :: css, φ, h, hi, hr => by
    obtain ⟨x, hx, hxw⟩ := hr cs (List.mem_cons_self ..)
    obtain ⟨φ1, h1, us, ps, i1, g1, l1, e1⟩ := hE cs x φ h hi hx hxw
    obtain ⟨φ2, h2, us2, pss, i2, g2, l2, n2, k2, e2⟩ := lays_list hE css φ1 h1 i1 fun cs' hc => hr cs' (List.mem_cons_of_mem _ hc)
    refine ⟨φ2, h2, us ++ us2, ps :: pss, i2, g1.trans g2, (l1.mono g2).app l2, by simp [n2], fun i p c hp hc => ?_, fun p hp => ?_⟩
    · cases i with
      | zero => simp at hp hc; subst hp hc; have := l1.len; omega
      | succ i => exact k2 i p c (by simpa using hp) (by simpa using hc)
    · rcases List.mem_cons.mp hp with rfl | hp
      · exact e1
      · exact e2 p hp
theorem all2_single {R : Value → Value → Prop} {u v : Value} (h : R u v) : All2 R [u] [v] := ⟨rfl, fun i x hx => by
  cases i with
  | zero => simp at hx; subst hx; exact ⟨v, rfl, h⟩
  | succ i => simp at hx⟩
theorem weights_mem {e : TypeId} {ds : List (DataW D)} : (DataW.weightsAll P e ds).all (· ≤ reachBytes) = true → ∀ d, d ∈ ds → (d.weights P e).all (· ≤ reachBytes) = true := by
  induction ds with
  | nil => intro _ d h; simp at h
  | cons a r ih =>
    intro h d hd
    rw [DataW.weightsAll, List.all_append, Bool.and_eq_true] at h
    rcases List.mem_cons.mp hd with rfl | hd
    · exact h.1
    · exact ih h.2 d hd
theorem lays_slice {m : Nat} {t e : TypeId} {E : List PC → Prop} (hE : Lays enc P w base m e E) (ht : P.underlying t = some (.slice e)) (hsz : 1 < P.cellsOf e) {g : Nat} (hg : ∃ c el fr, w.heap[g]? = some (.cells c el fr)) :
    Lays enc P w base (m + 1) t fun ps => ∃ els : List (List PC), ps = [.row (P.cellsOf e) els] ∧ els.length * P.bytesOf e ≤ reachBytes ∧ ∀ p, p ∈ els → E p := by
  intro cs x φ h hi hx hxw
  generalize hz : P.cellsOf e = sz at hsz
  rcases DataW.trod_slice ht hx with ⟨rfl, _⟩ | ⟨a, len, cap, elems, rest, n, hn, rfl, hxe, _, hlc, hcm, hel, he, hr, _⟩
  · exact ⟨φ, h, [.slice none 0 0], [.row _ []], hi, .refl _ _, ⟨all2_single (CR_dry rfl), L2.single PRep.nil⟩, [], rfl, by simp, by simp⟩
  · obtain rfl : m = n := by omega
    rw [hz] at he hr
    rw [hxe] at hxw
    simp only [DataW.weights, ht, List.all_cons, List.all_append, Bool.and_eq_true, decide_eq_true_eq, List.length_map] at hxw
    obtain ⟨hwt, hwe, _⟩ := hxw
    have hlb : len * P.bytesOf e ≤ reachBytes := Nat.le_trans (Nat.mul_le_mul_right _ (by omega)) hwt
    obtain ⟨hrl, hr⟩ := hr rfl
    have hread : ∀ i, i < cap → ∃ cs y, w.cells? 0 (a.add (i * sz)) sz = some cs ∧ DataW.trod enc P w 0 (fun _ => true) true m e cs = some y := by
      intro i hic
      by_cases hil : i < len
      · have h1 := he i hil
        have h2 : elems[i]? = some elems[i] := List.getElem?_eq_getElem (by omega)
        rw [h2, Option.bind_eq_some_iff] at h1
        obtain ⟨cs, h3, h4⟩ := h1
        exact ⟨cs, _, h3, h4⟩
      · have h1 := hr (i - len) (by omega)
        have h2 : rest[i - len]? = some rest[i - len] := List.getElem?_eq_getElem (by omega)
        rw [h2, Option.bind_eq_some_iff, show len + (i - len) = i by omega] at h1
        obtain ⟨cs, h3, h4⟩ := h1
        exact ⟨cs, _, h3, h4⟩
    by_cases hc0 : cap = 0
    · obtain ⟨c, el, fr, hw⟩ := hg
      obtain ⟨i1, g1⟩ := hi.push (l := ⟨g, 0, 0, false⟩) (xs := []) hw (by simp) (by simp) (fun j v hv => by simp at hv)
      obtain rfl : len = 0 := by omega
      subst hc0
      refine ⟨_, _, [.slice (some ⟨h.n, 0, none⟩) 0 sz], [.row sz []], i1, g1, ⟨all2_single ⟨⟨g, 0, 0, false⟩, a, 0, upd_self _ _ _, rfl, by simp, by simp, by simp, .inr rfl, fun h => by omega, fun _ => rfl⟩, L2.single ?_⟩, [], by simp, by simp, by simp⟩
      exact PRep.row (b := h.n) (off := 0) (els := []) (blk := ⟨false, []⟩) (by simp) (H.get_push_self _ _) (by simp) (by omega) (by simp) (by simp)
    · -- the block
      have hcell : ∀ i, i < cap → ∀ r, r < sz → ∃ v, w.cell? ((a.add (i * sz)).add r) = some v := fun i hic r hr => by
        obtain ⟨cs, _, h1, _⟩ := hread i hic
        obtain ⟨_, h2, h3⟩ := World.cells?_some h1
        exact ⟨cs[r], by rw [h3 r hr]; exact List.getElem?_eq_getElem (by omega)⟩
      obtain ⟨v0, hv0⟩ := hcell 0 (by omega) 0 (by omega)
      have ea : (a.add (0 * sz)).add 0 = a := by simp [Addr.add]
      rw [ea] at hv0
      obtain ⟨b, off, spot⟩ := a
      unfold World.cell? at hv0
      split at hv0
      rotate_left
      · cases hv0
      rename_i c el fr hw
      split at hv0
      · cases hv0
      rename_i hspot
      simp only at hspot hw hv0
      obtain rfl : spot = none := by cases spot with | none => rfl | some s => simp at hspot
      have hadd : ∀ p r, ((⟨b, off, none⟩ : Addr).add p).add r = ⟨b, off + p + r, none⟩ := fun p r => by
        unfold Addr.add; split <;> split <;> simp_all
      have hcw : ∀ k, w.cell? ⟨b, off + k, none⟩ = c[off + k]? := fun k => by simp [World.cell?, hw]
      have hroom : off + cap * sz ≤ c.size := by
        obtain ⟨v, hv⟩ := hcell (cap - 1) (by omega) (sz - 1) (by omega)
        have e1 : (cap - 1) * sz + (sz - 1) = cap * sz - 1 := by
          have : cap * sz = (cap - 1) * sz + sz := by rw [← Nat.succ_mul]; congr 1; omega
          omega
        have hpos : 0 < cap * sz := Nat.mul_pos (by omega) (by omega)
        rw [hadd, Nat.add_assoc, e1, hcw] at hv
        have := (Array.getElem?_eq_some_iff.mp hv).1
        omega
      let css : List (List Value) := (List.range len).map fun i => (w.cells? 0 ((⟨b, off, none⟩ : Addr).add (i * sz)) sz).getD []
      have hcss : ∀ i, i < len → ∃ cs, css[i]? = some cs ∧ cs.length = sz ∧ (∃ y, DataW.trod enc P w 0 (fun _ => true) true m e cs = some y ∧ (y.1.weights P e).all (· ≤ reachBytes) = true) ∧ ∀ r, r < sz → c[off + (i * sz + r)]? = cs[r]? := by
        intro i hil
        have k1 := he i hil
        have k2 : elems[i]? = some elems[i] := List.getElem?_eq_getElem (by omega)
        rw [k2, Option.bind_eq_some_iff] at k1
        obtain ⟨cs, h1, h2⟩ := k1
        obtain ⟨_, h3, h4⟩ := World.cells?_some h1
        refine ⟨cs, by simp [css, hil, h1], h3, ⟨_, h2, weights_mem hwe _ (List.mem_map_of_mem (List.getElem_mem _))⟩, fun r hr => ?_⟩
        rw [← h4 r hr, hadd, Nat.add_assoc, hcw]
      have hcl : css.length = len := by simp [css]
      have hmem : ∀ cs, cs ∈ css → cs.length = sz ∧ ∃ y, DataW.trod enc P w 0 (fun _ => true) true m e cs = some y ∧ (y.1.weights P e).all (· ≤ reachBytes) = true := fun cs hcs => by
        obtain ⟨i, hi, rfl⟩ := List.mem_iff_getElem.mp hcs
        obtain ⟨cs', h1, h2, h3, _⟩ := hcss i (by omega)
        rw [List.getElem?_eq_getElem hi] at h1
        cases h1
        exact ⟨h2, h3⟩
      obtain ⟨φ1, h1, us, pss, i1, g1, l1, n1, k1, e1⟩ := lays_list hE css φ h hi fun cs hcs => (hmem cs hcs).2
      have hpl : ∀ p, p ∈ pss → p.length = sz := fun p hp => by
        obtain ⟨i, hi, rfl⟩ := List.mem_iff_getElem.mp hp
        obtain ⟨cs', g1, g2, _⟩ := hcss i (by omega)
        rw [k1 i _ cs' (List.getElem?_eq_getElem hi) g1, g2]
      have hfl : css.flatten.length = len * sz := by rw [flen fun cs hcs => (hmem cs hcs).1, hcl]
      have hle : len * sz ≤ cap * sz := Nat.mul_le_mul_right _ hlc
      have hul : us.length = len * sz := by rw [l1.len.1, hfl]
      obtain ⟨i2, g2⟩ := i1.push (l := ⟨b, off, cap * sz, false⟩) (xs := us) hw hroom (by rw [hul]; exact hle) (fun j v hv => by
        obtain ⟨u, h2, h3⟩ := l1.1.2 j v hv
        refine ⟨u, ?_, h3⟩
        have hj : j < len * sz := by rw [← hul]; exact (List.getElem?_eq_some_iff.mp hv).1
        have hjd : j / sz < len := Nat.div_lt_of_lt_mul (by rw [Nat.mul_comm]; exact hj)
        obtain ⟨cs', k2, k3, _, k4⟩ := hcss (j / sz) hjd
        have hfa := fat (fun cs hcs => (hmem cs hcs).1) k2
        have hjr : j % sz < sz := Nat.mod_lt _ (by omega)
        have hje : j / sz * sz + j % sz = j := by rw [Nat.mul_comm]; exact Nat.div_add_mod j sz
        have := k4 (j % sz) hjr
        rw [hje] at this
        show c[off + j]? = some u
        rw [this, ← hfa, List.getElem?_take, if_pos hjr, List.getElem?_drop, hje]
        exact h2)
      refine ⟨_, _, [.slice (some ⟨h1.n, 0, none⟩) len sz], [.row sz pss], i2, g1.trans g2, ⟨all2_single ⟨⟨b, off, cap * sz, false⟩, ⟨b, off, none⟩, cap, upd_self _ _ _, rfl, hlc, hcm, by simp, .inl (by simp), fun _ => rfl, fun _ => rfl⟩, L2.single ?_⟩, pss, rfl, by rw [n1, hcl]; exact hlb, e1⟩
      have hpn : pss.length = len := by rw [n1, hcl]
      have := PRep.row (R := fun b => b < (h1.push ⟨false, us⟩).n) (h := h1.push ⟨false, us⟩) (b := h1.n) (off := 0) (sz := sz) (els := pss) (blk := ⟨false, us⟩) (by simp) (H.get_push_self _ _) (by rw [hpn]; simp [hul]) (by omega) hpl (fun k p v hp hv => by
        have l2 := (l1.mono g2).2
        exact l2.2 k p v hp (by simpa using hv))
      rw [hpn] at this
      exact this
end
end Go.Vx
