/- Texts joined: VyP2 VyS1. -/
import Derived.Test.YtbndpenalacjaaaVm36
import Derived.Test.YtbndpenalacjaaaVm38
/- How many declarations and rules the nodes of tokens have: plain law. -/
section
open Go Go.Vx Go.Proofs
set_option linter.unusedSimpArgs false
set_option linter.unusedVariables false
namespace Go.Vx.Seat
/-- How many places ahead of one are such. -/
def pre (f : Nat → Bool) (n : Nat) : Nat := ((List.range n).filter f).length
theorem pre_succ (f : Nat → Bool) (n : Nat) : pre f (n + 1) = pre f n + if f n = true then 1 else 0 := by
  rw [pre, pre, List.range_succ, List.filter_append, List.length_append]
  cases h : f n <;> simp [h]
theorem pre_none {f : Nat → Bool} {a : Nat} : ∀ {n : Nat}, (∀ p, a ≤ p → p < a + n → f p = false) → pre f (a + n) = pre f a
  | 0, _ => rfl
  | n + 1, h => by
    rw [show a + (n + 1) = (a + n) + 1 by omega, pre_succ, h (a + n) (by omega) (by omega), pre_none fun p h1 h2 => h p h1 (by omega)]
    simp
theorem pre_none' {f : Nat → Bool} {a b : Nat} (hab : a ≤ b) (h : ∀ p, a ≤ p → p < b → f p = false) : pre f b = pre f a := by
  have := pre_none (f := f) (a := a) (n := b - a) fun p h1 h2 => h p h1 (by omega)
  rwa [show a + (b - a) = b by omega] at this
theorem pre_one {f : Nat → Bool} {a b c : Nat} (h1 : a ≤ c) (h2 : c < b) (hc : f c = true) (h : ∀ p, a ≤ p → p < b → p ≠ c → f p = false) : pre f b = pre f a + 1 := by
  rw [pre_none' (a := c + 1) (by omega) fun p h3 h4 => h p (by omega) h4 (by omega), pre_succ, hc, pre_none' h1 fun p h3 h4 => h p h3 (by omega) (by omega)]
  simp
def blockAt (ts : List Tok) (k : Nat) : Bool := decide (kindAt ts k = 19) && allBlocks (openAt ts k)
def idn (l : List Tok) : Nat := (l.filter fun t => decide (t.kind = 1)).length
def Start (ts : List Tok) (i : Nat) : Prop := i = 0 ∨ partAt ts (i - 1) = true
theorem slice_snoc {ts : List Tok} {i m : Nat} {t : Tok} (h : ts[i + m]? = some t) : slice ts i (i + m + 1) = slice ts i (i + m) ++ [t] := by
  unfold slice
  rw [show i + m + 1 - i = m + 1 by omega, show i + m - i = m by omega, List.take_add_one, List.getElem?_drop, h]; rfl
theorem back_idents {ts : List Tok} {i : Nat} (hs : Start ts i) : ∀ m, i + m ≤ ts.length → (∀ p, i ≤ p → p < i + m → partAt ts p = false) → (back ts (i + m) 0 0).1 = idn (slice ts i (i + m))
  | 0, _, _ => by
    rw [show slice ts i (i + 0) = [] by simp [slice]]
    rcases hs with h | h
    · subst h; rfl
    · cases i with
      | zero => rfl
      | succ i =>
        show (back ts (i + 1) 0 0).1 = 0
        have h : partAt ts i = true := h
        rw [back, if_pos h]
  | m + 1, hl, hp => by
    have ih := back_idents hs m (by omega) fun p h1 h2 => hp p h1 (by omega)
    obtain ⟨t, ht⟩ := get_lt (show i + m < ts.length by omega)
    have hk := kindAt_some ht
    rw [show i + (m + 1) = i + m + 1 by omega, slice_snoc ht, back, if_neg (by rw [hp (i + m) (by omega) (by omega)]; simp), hk]
    have e : idn (slice ts i (i + m) ++ [t]) = idn (slice ts i (i + m)) + if t.kind = 1 then 1 else 0 := by
      rw [idn, idn, List.filter_append, List.length_append]
      by_cases h : t.kind = 1 <;> simp [h]
    rw [e]
    split
    · rename_i hq
      have : t.kind ≠ 1 := fun h => by rw [h] at hq; exact absurd hq (by decide)
      rw [if_neg this, ih]; rfl
    · split
      · rename_i h1
        rw [back_add, ih]; simp only; omega
      · rename_i h1
        rw [back_add, ih]; simp only; omega
def sumD (cs : List (Nd × Nat × Nat)) : Nat := (cs.map fun c => c.2.1).sum
def sumR (cs : List (Nd × Nat × Nat)) : Nat := (cs.map fun c => c.2.2).sum
/-- A node with so many declarations and rules, as it has to be. -/
inductive Good : Nd → Nat → Nat → Prop where
  | decl {h t : List Tok} {s m : Bool} {a l : Int} : h.length ≤ 1000000 → idn h = 1 → Good (.mk 2 h t [] false s m a l) 1 0
  | plain {h : List Tok} {s m : Bool} {a l : Int} : h.length ≤ 1000000 → Good (.mk 3 h [] [] false s m a l) 0 0
  | rule {h : List Tok} {cs : List (Nd × Nat × Nat)} {s : Bool} {a l : Int} : h.length ≤ 1000000 → cs.length ≤ 1000000 → sumD cs ≤ 1000000 → sumR cs ≤ 1000000 → (∀ c, c ∈ cs → Good c.1 c.2.1 c.2.2) → Good (.mk 1 h [] (cs.map fun c => c.1) true s false a l) (sumD cs) (1 + sumR cs)
theorem no_colon_rule {ts : List Tok} {deep i k c : Nat} (ha : ∀ p, i ≤ p → p < k → Above ts (reps deep) p ∧ ¬ stopE ts deep p) (hk : k < ts.length) (hkl : (openAt ts k).length = deep) (h19 : kindAt ts k = 19) (h1 : i ≤ c) (h2 : c < k) : docColon ts c = false := by
  rw [← Bool.not_eq_true]
  intro hd
  obtain ⟨k1, l1, b1, _⟩ := docColon_facts hd
  have hcd : (openAt ts c).length = deep := by rw [(ha c h1 h2).1.blocks b1, reps_len]
  have hdeep : 0 < deep := by omega
  have key : ∀ d p, p + d = ts.length → c < p → p ≤ k → behind ts c d p = false := by
    intro d
    induction d with
    | zero => intro p e1 e2 e3; omega
    | succ d ih =>
      intro p e1 e2 e3
      unfold behind
      by_cases hp : p = k
      · subst hp
        rw [if_pos ⟨by omega, by simp [partK, h19]⟩, h19]; rfl
      · rw [if_neg, ih (p + 1) (by omega) (by omega) (by omega)]
        rintro ⟨q1, q2⟩
        refine (ha p (by omega) (by omega)).2 ⟨by omega, ?_⟩
        simp [partK] at q2
        rcases q2 with (q2 | q2) | q2
        · exact .inr (.inl q2)
        · exact .inl ⟨q2, hdeep⟩
        · exact .inr (.inr q2)
  have := key (ts.length - (c + 1)) (c + 1) (by omega) (by omega) (by omega)
  simp [docColon] at hd
  rw [hd.2] at this
  cases this
theorem no_block {ts : List Tok} {deep i k p : Nat} (ha : ∀ p, i ≤ p → p < k → Above ts (reps deep) p ∧ ¬ stopE ts deep p) (h1 : i ≤ p) (h2 : p < k) : blockAt ts p = false := by
  rw [← Bool.not_eq_true]
  intro hb
  simp [blockAt] at hb
  obtain ⟨g1, g2⟩ := ha p h1 h2
  exact g2 ⟨by rw [g1.blocks hb.2, reps_len], .inr (.inl hb.1)⟩
theorem no_part {ts : List Tok} {deep i k p : Nat} (hd : 0 < deep) (ha : ∀ p, i ≤ p → p < k → Above ts (reps deep) p ∧ ¬ stopE ts deep p) (h1 : i ≤ p) (h2 : p < k) : partAt ts p = false := by
  rw [← Bool.not_eq_true]
  intro hpa
  obtain ⟨g1, g2⟩ := ha p h1 h2
  rw [partAt, Bool.and_eq_true] at hpa
  refine g2 ⟨by rw [g1.blocks hpa.2, reps_len], ?_⟩
  have := hpa.1
  simp [partK] at this
  rcases this with (h | h) | h
  · exact .inr (.inl h)
  · exact .inl ⟨h, hd⟩
  · exact .inr (.inr h)
theorem kind_no {ts : List Tok} {k : Nat} (h : kindAt ts k ≠ 16) : docColon ts k = false := by simp [docColon, h]
theorem kind_nob {ts : List Tok} {k : Nat} (h : kindAt ts k ≠ 19) : blockAt ts k = false := by simp [blockAt, h]
def CntOk (ts : List Tok) (n : Nat) : Prop := ∀ i deep, i ≤ ts.length → ts.length - i ≤ n → (i < ts.length → openAt ts i = reps deep) → Start ts i →
  ∃ cs : List (Nd × Nat × Nat), (nodesD ts (colonsTo ts ts.length) n i deep).1 = cs.map (fun c => c.1) ∧ (∀ c, c ∈ cs → Good c.1 c.2.1 c.2.2) ∧ cs.length + i ≤ (nodesD ts (colonsTo ts ts.length) n i deep).2 ∧
    pre (docColon ts) i + sumD cs = pre (docColon ts) (nodesD ts (colonsTo ts ts.length) n i deep).2 ∧ pre (blockAt ts) i + sumR cs = pre (blockAt ts) (nodesD ts (colonsTo ts ts.length) n i deep).2
theorem pre_le (f : Nat → Bool) (n : Nat) : pre f n ≤ n := by
  have := List.length_filter_le f (List.range n)
  simpa [pre] using this
theorem start_of {ts : List Tok} {deep k : Nat} (h : openAt ts k = reps deep) (hk : partK (kindAt ts k) = true) : Start ts (k + 1) := .inr (by
  show partAt ts k = true
  rw [partAt, hk, h, reps_blocks]; rfl)
theorem node_cnt {ts : List Tok} {n i deep : Nat} (hl : ts.length ≤ 1000000) (hb : CntOk ts n) (hi : i < ts.length) (ho : openAt ts i = reps deep) (hs : shutD ts deep i = false) (hf : ts.length - (i + 1) ≤ n) (hst : Start ts i) :
    ∃ d r, Good (nodeD ts (colonsTo ts ts.length) (nodesD ts (colonsTo ts ts.length) n) i deep).1 d r ∧
      pre (docColon ts) i + d = pre (docColon ts) (nodeD ts (colonsTo ts ts.length) (nodesD ts (colonsTo ts ts.length) n) i deep).2 ∧ pre (blockAt ts) i + r = pre (blockAt ts) (nodeD ts (colonsTo ts ts.length) (nodesD ts (colonsTo ts ts.length) n) i deep).2 ∧
      ((nodeD ts (colonsTo ts ts.length) (nodesD ts (colonsTo ts ts.length) n) i deep).2 < ts.length → shutD ts deep (nodeD ts (colonsTo ts ts.length) (nodesD ts (colonsTo ts ts.length) n) i deep).2 = false → Start ts (nodeD ts (colonsTo ts ts.length) (nodesD ts (colonsTo ts ts.length) n) i deep).2) := by
  obtain ⟨e1, ha, hstop⟩ := scan_same ts deep (ts.length - i) i (by omega) (.same ho)
  have hle := endD_le ts deep (ts.length - i) i
  have hr := nodes_same ts n
  obtain ⟨_, hprog, hlast, _⟩ := node_same hr hi ho hs hf
  unfold nodeD at hprog hlast ⊢
  simp only at hprog hlast ⊢
  generalize endD ts deep (ts.length - i) i = k at ha hstop hle hprog hlast ⊢
  have hsl : ∀ a b, (slice ts a b).length ≤ 1000000 := fun a b => slice_len ts a _ hl
  -- a leaf
  have leaf : ∀ (m : Nat) (semi : Bool), (m = k - i ∨ (m = k - i + 1 ∧ kindAt ts k ≠ 16)) → (semi = true → k < ts.length ∧ kindAt ts k = 17) →
      ∃ d r, Good (leafD ts (colD ts (colonsTo ts ts.length) deep i m) i k semi).1 d r ∧ pre (docColon ts) i + d = pre (docColon ts) (leafD ts (colD ts (colonsTo ts ts.length) deep i m) i k semi).2 ∧ pre (blockAt ts) i + r = pre (blockAt ts) (leafD ts (colD ts (colonsTo ts ts.length) deep i m) i k semi).2 := by
    intro m semi hm hsemi
    have h2 : (leafD ts (colD ts (colonsTo ts ts.length) deep i m) i k semi).2 = if semi then k + 1 else k := by unfold leafD; rfl
    have hkC : ∀ d, pre (docColon ts) k = pre (docColon ts) i + d → pre (docColon ts) i + d = pre (docColon ts) (if semi then k + 1 else k) := fun d hd => by
      cases semi with
      | false => exact hd.symm
      | true => rw [if_pos rfl, pre_succ, kind_no (by rw [(hsemi rfl).2]; decide)]; simpa using hd.symm
    have hB : pre (blockAt ts) i + 0 = pre (blockAt ts) (if semi then k + 1 else k) := by
      have := pre_none' (f := blockAt ts) hle.1 fun p h1 h2 => no_block ha h1 h2
      cases semi with
      | false => simpa using this.symm
      | true => rw [if_pos rfl, pre_succ, kind_nob (by rw [(hsemi rfl).2]; decide)]; simpa using this.symm
    rw [h2]
    cases hcd : colD ts (colonsTo ts ts.length) deep i m with
    | none =>
      have hno : ∀ p, i ≤ p → p < k → docColon ts p = false := fun p h3 h4 => by
        rw [← Bool.not_eq_true]
        intro hd
        have hb1 := (docColon_facts hd).2.2.1
        refine colD_none hcd p h3 (by omega) ⟨?_, (contains_colons ts ts.length p).mpr ⟨by omega, hd⟩⟩
        rw [(ha p h3 h4).1.blocks hb1, reps_len]
      exact ⟨0, 0, .plain (hsl _ _), hkC 0 (pre_none' hle.1 hno), hB⟩
    | some c =>
      have c1 := colD_le hcd
      have c2 := (contains_colons ts ts.length c).mp (colD_some hcd).2
      have c3 := docColon_facts c2.2
      have hck : c < k := by
        rcases hm with h | h
        · omega
        · have : c ≠ k := fun e => by subst e; exact h.2 c3.1
          omega
      have hdeep : 0 < deep := by
        have := (ha c c1.1 hck).1.blocks c3.2.2.1
        have h4 := c3.2.1
        rw [this, reps_len] at h4
        omega
      have hid : idn (slice ts i c) = 1 := by
        have := back_idents hst (c - i) (by omega) fun p h3 h4 => no_part hdeep ha h3 (by omega)
        rw [show i + (c - i) = c by omega, c3.2.2.2] at this
        exact this.symm
      refine ⟨1, 0, .decl (hsl _ _) hid, hkC 1 (pre_one c1.1 hck c2.2 fun p h3 h4 h5 => ?_), hB⟩
      rw [← Bool.not_eq_true]
      intro hd
      rcases Nat.lt_or_gt_of_ne h5 with g | g
      · exact one_colon ha h3 g hck hd c2.2
      · exact one_colon ha c1.1 g h4 c2.2 hd
  by_cases hk : k < ts.length
  · obtain ⟨hab, hlk, hkind⟩ := hstop hk
    have hok := hab.eq (by rw [reps_len]; exact hlk)
    by_cases h19 : kindAt ts k = 19
    · rw [if_pos ⟨hk, h19⟩] at hprog hlast ⊢
      obtain ⟨g1, g2, g3, g4⟩ := hr (k + 1) (deep + 1) (by omega) (by omega) fun _ => reps_block hk hok h19
      obtain ⟨cs, b1, b2, b3, b4, b5⟩ := hb (k + 1) (deep + 1) (by omega) (by omega) (fun _ => reps_block hk hok h19) (start_of hok (by rw [h19]; rfl))
      unfold ruleP at hprog hlast ⊢
      simp only at hprog hlast ⊢
      generalize nodesD ts (colonsTo ts ts.length) n (k + 1) (deep + 1) = r at g1 g2 g3 g4 b1 b3 b4 b5 hprog hlast ⊢
      have q1 := pre_le (docColon ts) r.2
      have q2 := pre_le (blockAt ts) r.2
      have p1 : pre (docColon ts) (k + 1) = pre (docColon ts) i := by
        rw [pre_succ, kind_no (by rw [h19]; decide), pre_none' hle.1 fun p h1 h2 => no_colon_rule ha hk hlk h19 h1 h2]; simp
      have p2 : pre (blockAt ts) (k + 1) = pre (blockAt ts) i + 1 := by
        rw [pre_succ, show blockAt ts k = true by simp [blockAt, h19, hok, reps_blocks], pre_none' hle.1 fun p h1 h2 => no_block ha h1 h2]; simp
      have hend : ∀ f : Nat → Bool, (r.2 < ts.length → f r.2 = false) → pre f (if r.2 < ts.length then r.2 + 1 else r.2) = pre f r.2 := fun f hf => by
        by_cases hj : r.2 < ts.length
        · rw [if_pos hj, pre_succ, hf hj]; simp
        · rw [if_neg hj]
      have h20 : r.2 < ts.length → kindAt ts r.2 = 20 := fun hj => by have := (g4 hj).2; simp [shutD] at this; exact this.1
      rw [hend (docColon ts) (fun hj => kind_no (by rw [h20 hj]; decide)), hend (blockAt ts) (fun hj => kind_nob (by rw [h20 hj]; decide)), b1]
      refine ⟨sumD cs, 1 + sumR cs, .rule (hsl _ _) (by omega) (by omega) (by omega) b2, by omega, by omega, fun hj hsj => ?_⟩
      by_cases hj2 : r.2 < ts.length
      · rw [if_pos hj2]
        exact start_of (g4 hj2).1 (by rw [h20 hj2]; rfl)
      · rw [if_neg hj2] at hj; exact absurd hj hj2
    · rw [if_neg (fun h => h19 h.2), if_pos hk] at hprog hlast ⊢
      obtain ⟨d, r, q1, q2, q3⟩ := leaf (k - i + 1) (decide (kindAt ts k = 17)) (.inr ⟨rfl, by rcases hkind with h | h | h <;> omega⟩) (fun h => ⟨hk, by simpa using h⟩)
      refine ⟨d, r, q1, q2, q3, fun hj hsj => ?_⟩
      have h2 : (leafD ts (colD ts (colonsTo ts ts.length) deep i (k - i + 1)) i k (decide (kindAt ts k = 17))).2 = if decide (kindAt ts k = 17) = true then k + 1 else k := by unfold leafD; rfl
      rw [h2] at hsj ⊢
      by_cases h17 : kindAt ts k = 17
      · rw [if_pos (by simpa using h17)]
        exact start_of hok (by rw [h17]; rfl)
      · rw [if_neg (by simpa using h17)] at hsj
        have h20 : kindAt ts k = 20 ∧ 0 < deep := by rcases hkind with h | h | h <;> first | exact h | omega
        rw [show shutD ts deep k = true by simp [shutD, h20.1, h20.2, hlk]] at hsj
        cases hsj
  · rw [if_neg (fun h => hk h.1), if_neg hk] at hprog hlast ⊢
    obtain ⟨d, r, q1, q2, q3⟩ := leaf (k - i) false (.inl rfl) (fun h => by cases h)
    refine ⟨d, r, q1, q2, q3, fun hj => ?_⟩
    have h2 : (leafD ts (colD ts (colonsTo ts ts.length) deep i (k - i)) i k false).2 = k := by unfold leafD; rfl
    rw [h2] at hj
    exact absurd hj hk
theorem nodes_cnt {ts : List Tok} (hl : ts.length ≤ 1000000) : ∀ n, CntOk ts n
  | 0 => fun i deep h1 h2 h3 h4 => ⟨[], rfl, by simp, by simp [nodesD], rfl, rfl⟩
  | n + 1 => fun i deep h1 h2 h3 h4 => by
    have ih := nodes_cnt hl n
    have hr := nodes_same ts n
    unfold nodesD
    by_cases hi : i < ts.length
    · have ho := h3 hi
      cases hs : shutD ts deep i with
      | true =>
        rw [if_neg (by simp)]
        exact ⟨[], rfl, by simp, by simp, rfl, rfl⟩
      | false =>
        rw [if_pos ⟨hi, rfl⟩]
        simp only
        obtain ⟨_, g2, g3, g4⟩ := node_same hr hi ho hs (by omega)
        obtain ⟨d, r, q1, q2, q3, q4⟩ := node_cnt hl ih hi ho hs (by omega) h4
        generalize hx : nodeD ts (colonsTo ts ts.length) (nodesD ts (colonsTo ts ts.length) n) i deep = x at g2 g3 g4 q1 q2 q3 q4 ⊢
        by_cases hgo : x.2 < ts.length ∧ shutD ts deep x.2 = false
        · obtain ⟨cs, c1, c2, c3, c4, c5⟩ := ih x.2 deep g3 (by omega) g4 (q4 hgo.1 hgo.2)
          refine ⟨(x.1, d, r) :: cs, by rw [c1]; rfl, fun c hc => ?_, by simp; omega, ?_, ?_⟩
          · rcases List.mem_cons.mp hc with rfl | hc
            · exact q1
            · exact c2 c hc
          · rw [← c4, ← q2]; simp [sumD]; omega
          · rw [← c5, ← q3]; simp [sumR]; omega
        · have e : nodesD ts (colonsTo ts ts.length) n x.2 deep = ([], x.2) := by
            cases n with
            | zero => rfl
            | succ n => rw [nodesD, if_neg hgo]
          rw [e]
          refine ⟨[(x.1, d, r)], rfl, fun c hc => ?_, by simp; omega, by simpa [sumD] using q2, by simpa [sumR] using q3⟩
          rw [List.mem_singleton.mp hc]; exact q1
    · rw [if_neg (fun h => hi h.1)]
      exact ⟨[], rfl, by simp, by simp, rfl, rfl⟩
theorem parse_end2 (ts : List Tok) : (nodesD ts (colonsTo ts ts.length) ts.length 0 0).2 = ts.length := by
  obtain ⟨_, h1, h2, h3⟩ := nodes_same ts ts.length 0 0 (by omega) (by omega) fun _ => by simp [openAt, reps]
  rcases Nat.lt_or_ge (nodesD ts (colonsTo ts ts.length) ts.length 0 0).2 ts.length with g | g
  · have := (h3 g).2
    simp [shutD] at this
  · omega
theorem parse_cnt {ts : List Tok} (hl : ts.length ≤ 1000000) : ∃ cs : List (Nd × Nat × Nat), parseD ts = cs.map (fun c => c.1) ∧ (∀ c, c ∈ cs → Good c.1 c.2.1 c.2.2) ∧ cs.length ≤ ts.length ∧ sumD cs = (colonsTo ts ts.length).length ∧ sumR cs = pre (blockAt ts) ts.length := by
  obtain ⟨cs, h1, h2, h3, h4, h5⟩ := nodes_cnt hl ts.length 0 0 (by omega) (by omega) (fun _ => by simp [openAt, reps]) (.inl rfl)
  rw [parse_end2] at h3 h4 h5
  refine ⟨cs, h1, h2, by omega, ?_, ?_⟩
  · rw [colonsTo, List.length_map]; simpa [pre] using h4
  · simpa [pre] using h5
end Go.Vx.Seat
end
/- CtreeDecls: the walk. -/
section
open Go Go.Vx Go.Proofs
set_option linter.unusedSimpArgs false
set_option linter.unusedVariables false
set_option maxRecDepth 20000
set_option maxHeartbeats 4000000
namespace Go.Vx.Seat
attribute [local congr] Rg_at Rt_at Ro_at Ri_at Rc_at Rto_at Rtk_at Rtf_at Rti_at
attribute [local irreducible] Rg Rt Ro Ri Rc Rto Rtk Rtf Rti Rw Rl Rd Rcall Rtcall kf
theorem fn18 : nth C1.P.funcs.toList 18 = some Try.f18 := by kernel_rfl
theorem fn5 : nth C1.P.funcs.toList 5 = some Try.f5 := by kernel_rfl
def CSpec : Nd → Nat → Nat → Prop
  | .mk k h t ks o s m a l, d, r => h.length ≤ 1000000 ∧ ((k = 2 ∧ idn h = 1 ∧ ks = [] ∧ o = false ∧ d = 1 ∧ r = 0) ∨ (k = 3 ∧ t = [] ∧ ks = [] ∧ o = false ∧ d = 0 ∧ r = 0) ∨
      (k = 1 ∧ t = [] ∧ o = true ∧ m = false ∧ ∃ z, r = 1 + z ∧ d ≤ 1000000 ∧ z ≤ 1000000 ∧ PCall C1 18 [.c (.p (rN ks))] fun y => y = .tup [yd (.int .i64 (d : Nat)), yd (.int .i64 (z : Nat)), yd (.bool true)]))
theorem sumD_take {cs : List (Nd × Nat × Nat)} {i : Nat} {c : Nd × Nat × Nat} (h : cs[i]? = some c) : sumD (cs.take (i + 1)) = sumD (cs.take i) + c.2.1 := by
  rw [List.take_add_one, h]; simp [sumD]
theorem sumR_take {cs : List (Nd × Nat × Nat)} {i : Nat} {c : Nd × Nat × Nat} (h : cs[i]? = some c) : sumR (cs.take (i + 1)) = sumR (cs.take i) + c.2.2 := by
  rw [List.take_add_one, h]; simp [sumR]
theorem sumD_le {cs : List (Nd × Nat × Nat)} {i : Nat} {c : Nd × Nat × Nat} (h : cs[i]? = some c) : sumD (cs.take i) + c.2.1 ≤ sumD cs := by
  rw [← sumD_take h]
  have e : sumD cs = sumD (cs.take (i + 1)) + sumD (cs.drop (i + 1)) := by
    have : cs = cs.take (i + 1) ++ cs.drop (i + 1) := (List.take_append_drop _ _).symm
    rw [sumD, sumD, sumD, ← List.sum_append, ← List.map_append, ← this]
  omega
theorem sumR_le {cs : List (Nd × Nat × Nat)} {i : Nat} {c : Nd × Nat × Nat} (h : cs[i]? = some c) : sumR (cs.take i) + c.2.2 ≤ sumR cs := by
  rw [← sumR_take h]
  have e : sumR cs = sumR (cs.take (i + 1)) + sumR (cs.drop (i + 1)) := by
    have : cs = cs.take (i + 1) ++ cs.drop (i + 1) := (List.take_append_drop _ _).symm
    rw [sumR, sumR, sumR, ← List.sum_append, ← List.map_append, ← this]
  omega
theorem idn_take {l : List Tok} {j : Nat} {t : Tok} (h : l[j]? = some t) : idn (l.take (j + 1)) = idn (l.take j) + if t.kind = 1 then 1 else 0 := by
  rw [List.take_add_one, h, idn, idn, List.filter_append, List.length_append]
  by_cases hk : t.kind = 1 <;> simp [hk]
theorem idn_le (l : List Tok) : idn l ≤ l.length := List.length_filter_le _ _
theorem fstGet {cs : List (Nd × Nat × Nat)} {i : Nat} {c : Nd × Nat × Nat} (h : cs[i]? = some c) : ((cs.map fun c => c.1).map Nd.pc)[i]? = some c.1.pc := by
  rw [List.map_map]; simp [h]
theorem count_list (cs : List (Nd × Nat × Nat)) (hl : cs.length ≤ 1000000) (hD : sumD cs ≤ 1000000) (hR : sumR cs ≤ 1000000) (hr : ∀ c, c ∈ cs → CSpec c.1 c.2.1 c.2.2) :
    PCall C1 18 [.c (.p (rN (cs.map fun c => c.1)))] fun y => y = .tup [yd (.int .i64 (sumD cs : Nat)), yd (.int .i64 (sumR cs : Nat)), yd (.bool true)] := by
  have hcl : (cs.map fun c => c.1).length = cs.length := by simp
  refine Pf (by rfl) (by rfl) fn18 (by rfl) ?_
  simp only [Try.f18, List.length_cons, List.length_nil, List.replicate, List.cons_append, List.nil_append]
  simp -implicitDefEqProofs only [↓yP, yT, Nat.reduceAdd, Nat.reduceMul, Nat.reduceSub, Nat.reduceLeDiff, Nat.reduceEqDiff, reduceCtorEq, Nat.reduceBEq]
  refine Rl_inv (fun d e s => ∃ (i : Nat), e = ([.c (.p (rN (cs.map fun c => c.1))), .c .top, .c .top, .c .top, .c .top, yd (.int .i64 (sumD (cs.take i) : Nat)), yd (.int .i64 (sumR (cs.take i) : Nat)), yd (.bool true), yd (.int .i64 (i : Nat)), .c .top, .c .top, .c .top, .c .top, .c .top, .c .top, .c .top, .c .top, .c .top, .c .top, .c .top, .c .top, .c .top, .c .top, .c .top, .c .top, .c .top, .c .top, .c .top, .c .top, .c .top, .c .top, .c .top, .c .top, .c .top, .c .top, .c .top, .c .top, .c .top, .c .top, .c .top, .c .top, .c .top, .c .top, .c .top, .c .top, .c .top, .c .top, .c .top, .c .top, .c .top, .c .top, .c .top, .c .top, .c .top, .c .top, .c .top, .c .top, .c .top, .c .top, .c .top, .c .top, .c .top, .c .top, .c .top, .c .top, .c .top, .c .top, .c .top, .c .top, .c .top, .c .top, .c .top, .c .top, .c .top, .c .top, .c .top, .c .top, .c .top, .c .top, .c .top, .c .top, .c .top, .c .top, .c .top, .c .top, .c .top, .c .top, .c .top, .c .top, .c .top, .c .top, .c .top, .c .top, .c .top, .c .top, .c .top, .c .top, .c .top, .c .top, .c .top, .c .top, .c .top, .c .top, .c .top, .c .top, .c .top, .c .top, .c .top, .c .top, .c .top, .c .top, .c .top, .c .top, .c .top, .c .top, .c .top, .c .top, .c .top, .c .top, .c .top, .c .top, .c .top, .c .top, .c .top, .c .top, .c .top, .c .top, .c .top, .c .top, .c .top, .c .top, .c .top, .c .top, .c .top, .c .top, .c .top, .c .top, .c .top, .c .top, .c .top, .c .top, .c .top, .c .top, .c .top, .c .top, .c .top, .c .top, .c .top, .c .top, .c .top]) ∧ s = [] ∧ i + d = cs.length) [true, false, false, false, false, true, true, true, true] cs.length [] (by decide) (pinned_zero _) ⟨0, by (simp only [yE, Nat.reduceEqDiff, Nat.reduceAdd, reduceCtorEq]; try rfl), by (simp only [yE, Nat.reduceEqDiff, Nat.reduceAdd, reduceCtorEq]; try rfl), by omega⟩ ?_
  rintro dd e s ⟨i, rfl, rfl, hd⟩
  by_cases hi : i < cs.length
  · obtain ⟨c, hc⟩ := get_lt hi
    have hle1 := sumD_le hc
    have hle2 := sumR_le hc
    have hsp := hr c (List.mem_of_getElem? hc)
    have hg := fstGet hc
    obtain ⟨x, dx, rx⟩ := c
    obtain ⟨k0, h0, t0, ks0, o0, s0, m0, a0, l0⟩ := x
    simp only at hle1 hle2 hsp hg
    rw [pc_mk] at hg
    obtain ⟨hh, hsp⟩ := hsp
    have t1 : leI (cs.length : Nat) (i : Nat) = false := leI_false (by omega)
    have w1 : wrapK .i64 ((i : Int) + 1) = ((i + 1 : Nat) : Int) := wrap_succ (by omega)
    simp -implicitDefEqProofs only [↓yP, yT, Nat.reduceAdd, Nat.reduceMul, Nat.reduceSub, Nat.reduceLeDiff, Nat.reduceEqDiff, reduceCtorEq, Nat.reduceBEq, hcl, t1]
    refine Rl_inv (fun d e s => ∃ (j : Nat), e = ([.c (.p (rN (cs.map fun c => c.1))), .c .top, .c .top, .c .top, .c .top, yd (.int .i64 (sumD (cs.take i) : Nat)), yd (.int .i64 (sumR (cs.take i) : Nat)), yd (.bool true), yd (.int .i64 (i : Nat)), yd (.int .i64 (idn (h0.take j) : Nat)), yd (.int .i64 (j : Nat)), .c .top, .c .top, .c .top, .c .top, .c .top, .c .top, .c .top, .c .top, .c .top, .c .top, .c .top, .c .top, .c .top, .c .top, .c .top, .c .top, .c .top, .c .top, .c .top, .c .top, .c .top, .c .top, .c .top, .c .top, .c .top, .c .top, .c .top, .c .top, .c .top, .c .top, .c .top, .c .top, .c .top, .c .top, .c .top, .c .top, .c .top, .c .top, .c .top, .c .top, .c .top, .c .top, .c .top, .c .top, .c .top, .c .top, .c .top, .c .top, .c .top, .c .top, .c .top, .c .top, .c .top, .c .top, .c .top, .c .top, .c .top, .c .top, .c .top, .c .top, .c .top, .c .top, .c .top, .c .top, .c .top, .c .top, .c .top, .c .top, .c .top, .c .top, .c .top, .c .top, .c .top, .c .top, .c .top, .c .top, .c .top, .c .top, .c .top, .c .top, .c .top, .c .top, .c .top, .c .top, .c .top, .c .top, .c .top, .c .top, .c .top, .c .top, .c .top, .c .top, .c .top, .c .top, .c .top, .c .top, .c .top, .c .top, .c .top, .c .top, .c .top, .c .top, .c .top, .c .top, .c .top, .c .top, .c .top, .c .top, .c .top, .c .top, .c .top, .c .top, .c .top, .c .top, .c .top, .c .top, .c .top, .c .top, .c .top, .c .top, .c .top, .c .top, .c .top, .c .top, .c .top, .c .top, .c .top, .c .top, .c .top, .c .top, .c .top, .c .top, .c .top, .c .top, .c .top, .c .top, .c .top, .c .top, .c .top]) ∧ s = [] ∧ j + d = h0.length) [true, false, false, false, false, true, true, true, true, true, true] h0.length [] (by decide) (pinned_zero _) ⟨0, by (simp only [yE, Nat.reduceEqDiff, Nat.reduceAdd, reduceCtorEq]; try rfl), by (simp only [yE, Nat.reduceEqDiff, Nat.reduceAdd, reduceCtorEq]; try rfl), by omega⟩ ?_
    rintro d2 e s ⟨j, rfl, rfl, hd2⟩
    by_cases hj : j < h0.length
    · obtain ⟨t, ht⟩ := get_lt hj
      have hid := idn_le (h0.take j)
      have hid2 : (h0.take j).length ≤ j := by simp; omega
      have hit := idn_take ht
      have t2 : leI (h0.length : Nat) (j : Nat) = false := leI_false (by omega)
      have v1 : wrapK .i64 ((j : Int) + 1) = ((j + 1 : Nat) : Int) := wrap_succ (by omega)
      have v2 : wrapK .i64 (((idn (h0.take j) : Nat) : Int) + 1) = ((idn (h0.take j) + 1 : Nat) : Int) := wrap_succ (by omega)
      cases q1 : eqI t.kind 1 with
      | true =>
        rw [if_pos (of_eqT q1)] at hit
        simp -implicitDefEqProofs only [↓yP, yT, Nat.reduceAdd, Nat.reduceMul, Nat.reduceSub, Nat.reduceLeDiff, Nat.reduceEqDiff, reduceCtorEq, Nat.reduceBEq, hg, t2, get_map ht, Tok.pc, q1, v1, v2, nn]
        refine ⟨d2 - 1, [], by omega, by decide, pinned_zero _, j + 1, ?_, rfl, by omega⟩
        rw [hit]
        (simp only [yE, Nat.reduceEqDiff, Nat.reduceAdd, reduceCtorEq]; try rfl)
      | false =>
        rw [if_neg (of_eqF q1)] at hit
        simp -implicitDefEqProofs only [↓yP, yT, Nat.reduceAdd, Nat.reduceMul, Nat.reduceSub, Nat.reduceLeDiff, Nat.reduceEqDiff, reduceCtorEq, Nat.reduceBEq, hg, t2, get_map ht, Tok.pc, q1, v1, nn]
        refine ⟨d2 - 1, [], by omega, by decide, pinned_zero _, j + 1, ?_, rfl, by omega⟩
        rw [hit]
        (simp only [yE, Nat.reduceEqDiff, Nat.reduceAdd, reduceCtorEq]; try rfl)
    · have t2 : leI (h0.length : Nat) (j : Nat) = true := leI_true (by omega)
      have hjj : j = h0.length := by omega
      rw [hjj, List.take_length]
      have t2' : leI (h0.length : Nat) (h0.length : Nat) = true := leI_true (by omega)
      have e0 : eqI ((([] : List Nd).length : Nat) : Int) 0 = true := rfl
      have e0' : eqI ((([] : List Tok).length : Nat) : Int) 0 = true := rfl
      have e00 : eqI ((0 : Nat) : Int) 0 = true := rfl
      have e00' : eqI 0 0 = true := rfl
      have w2 : wrapK .i64 (((sumD (cs.take i) : Nat) : Int) + 1) = ((sumD (cs.take i) + 1 : Nat) : Int) := wrap_succ (by omega)
      have w3 : wrapK .i64 (((sumR (cs.take i) : Nat) : Int) + 1) = ((sumR (cs.take i) + 1 : Nat) : Int) := wrap_succ (by omega)
      rcases hsp with ⟨rfl, g2, rfl, rfl, rfl, rfl⟩ | ⟨rfl, rfl, rfl, rfl, rfl, rfl⟩ | ⟨rfl, rfl, rfl, rfl, z, rfl, hz1, hz2, hcall⟩
      · have f1 : eqI 2 2 = true := rfl
        have f2 : eqI ((1 : Nat) : Int) 1 = true := rfl
        rw [g2]
        simp -implicitDefEqProofs only [↓yP, yT, Nat.reduceAdd, Nat.reduceMul, Nat.reduceSub, Nat.reduceLeDiff, Nat.reduceEqDiff, reduceCtorEq, Nat.reduceBEq, hg, t2', f1, f2, w1, w2, e0, e00, e00', nn]
        refine ⟨dd - 1, [], by omega, by decide, pinned_zero _, i + 1, ?_, rfl, by omega⟩
        rw [sumD_take hc, sumR_take hc]
        skip
        (simp only [yE, Nat.reduceEqDiff, Nat.reduceAdd, reduceCtorEq]; try rfl)
      · have f1 : eqI 3 2 = false := rfl
        have f2 : eqI 3 1 = false := rfl
        simp -implicitDefEqProofs only [↓yP, yT, Nat.reduceAdd, Nat.reduceMul, Nat.reduceSub, Nat.reduceLeDiff, Nat.reduceEqDiff, reduceCtorEq, Nat.reduceBEq, hg, t2', f1, f2, w1, e0, e0', e00, e00', nn]
        refine ⟨dd - 1, [], by omega, by decide, pinned_zero _, i + 1, ?_, rfl, by omega⟩
        rw [sumD_take hc, sumR_take hc]
        simp only [Nat.add_zero]
        (simp only [yE, Nat.reduceEqDiff, Nat.reduceAdd, reduceCtorEq]; try rfl)
      · have f1 : eqI 1 2 = false := rfl
        have f2 : eqI 1 1 = true := rfl
        have w4 : wrapK .i64 (((sumD (cs.take i) : Nat) : Int) + (dx : Nat)) = ((sumD (cs.take i) + dx : Nat) : Int) := wrap_nat (i := sumD (cs.take i) + dx) (by omega)
        have w5 : wrapK .i64 (((sumR (cs.take i) + 1 : Nat) : Int) + (z : Nat)) = ((sumR (cs.take i) + (1 + z) : Nat) : Int) := by
          rw [show ((sumR (cs.take i) + 1 : Nat) : Int) + (z : Nat) = ((sumR (cs.take i) + (1 + z) : Nat) : Int) by omega]; exact wrap_nat (by omega)
        simp -implicitDefEqProofs only [↓yP, yT, Nat.reduceAdd, Nat.reduceMul, Nat.reduceSub, Nat.reduceLeDiff, Nat.reduceEqDiff, reduceCtorEq, Nat.reduceBEq, hg, t2', f1, f2, nn]
        refine Rcall_pure hcall (by rfl) fun y hy => ?_
        subst hy
        simp -implicitDefEqProofs only [↓yP, yT, Nat.reduceAdd, Nat.reduceMul, Nat.reduceSub, Nat.reduceLeDiff, Nat.reduceEqDiff, reduceCtorEq, Nat.reduceBEq, hg, w1, w3, w4, w5, e0, e0', e00, e00', nn]
        refine ⟨dd - 1, [], by omega, by decide, pinned_zero _, i + 1, ?_, rfl, by omega⟩
        rw [sumD_take hc, sumR_take hc]
        skip
        (simp only [yE, Nat.reduceEqDiff, Nat.reduceAdd, reduceCtorEq]; try rfl)
  · have t1 : leI (cs.length : Nat) (i : Nat) = true := leI_true (by omega)
    obtain rfl : i = cs.length := by omega
    simp -implicitDefEqProofs only [↓yP, yT, Nat.reduceAdd, Nat.reduceMul, Nat.reduceSub, Nat.reduceLeDiff, Nat.reduceEqDiff, reduceCtorEq, Nat.reduceBEq, hcl, t1, List.take_length]
    rfl
theorem good_spec {x : Nd} {d r : Nat} (h : Good x d r) : CSpec x d r := by
  induction h with
  | decl h1 h2 => exact ⟨h1, .inl ⟨rfl, h2, rfl, rfl, rfl, rfl⟩⟩
  | plain h1 => exact ⟨h1, .inr (.inl ⟨rfl, rfl, rfl, rfl, rfl, rfl⟩)⟩
  | rule h1 h2 h3 h4 h5 ih => exact ⟨h1, .inr (.inr ⟨rfl, rfl, rfl, rfl, _, rfl, h3, h4, count_list _ h2 h3 h4 ih⟩)⟩
theorem allB_take {o : List Int} {k : Nat} {c : Int} (h : o[k]? = some c) : allBlocks (o.take (k + 1)) = (allBlocks (o.take k) && eqI c 20) := by
  rw [List.take_add_one, h]
  simp [allBlocks, eqI_eq]
theorem decls_spec (bs : List Int) : PCall C1 5 [.c (.p (rB bs))] fun y => y = yd (.bool true) := by
  refine Pf (by rfl) (by rfl) fn5 (by rfl) ?_
  simp only [Try.f5, List.length_cons, List.length_nil, List.replicate, List.cons_append, List.nil_append]
  simp -implicitDefEqProofs only [↓yP, yT, Nat.reduceAdd, Nat.reduceMul, Nat.reduceSub, Nat.reduceLeDiff, Nat.reduceEqDiff, reduceCtorEq, Nat.reduceBEq]
  refine Rcall_pure live_spec (by rfl) fun y hy => ?_
  subst hy
  by_cases hl : bs.length ≤ 300
  · have t1 : leI (bs.length : Nat) 300 = true := leI_true (by omega)
    simp -implicitDefEqProofs only [↓yP, yT, Nat.reduceAdd, Nat.reduceMul, Nat.reduceSub, Nat.reduceLeDiff, Nat.reduceEqDiff, reduceCtorEq, Nat.reduceBEq, t1]
    refine Rcall_pure (css_spec bs (by omega)) (by rfl) fun y hy => ?_
    obtain ⟨out, rfl, hc⟩ := hy
    have hol := hc.len
    obtain ⟨cs, g1, g2, g3, g4, g5⟩ := parse_cnt (ts := out) (by omega)
    have hcl := colonsTo_length out out.length
    have hbl := pre_le (blockAt out) out.length
    simp -implicitDefEqProofs only [↓yP, yT, Nat.reduceAdd, Nat.reduceMul, Nat.reduceSub, Nat.reduceLeDiff, Nat.reduceEqDiff, reduceCtorEq, Nat.reduceBEq]
    refine Rcall_pure (parseP_spec out (by omega)) (by rfl) fun y hy => ?_
    subst hy
    rw [parse_same, g1]
    simp -implicitDefEqProofs only [↓yP, yT, Nat.reduceAdd, Nat.reduceMul, Nat.reduceSub, Nat.reduceLeDiff, Nat.reduceEqDiff, reduceCtorEq, Nat.reduceBEq]
    refine Rcall_pure (count_list cs (by omega) (by omega) (by omega) fun c h => good_spec (g2 c h)) (by rfl) fun y hy => ?_
    subst hy
    rw [g4, g5]
    simp -implicitDefEqProofs only [↓yP, yT, Nat.reduceAdd, Nat.reduceMul, Nat.reduceSub, Nat.reduceLeDiff, Nat.reduceEqDiff, reduceCtorEq, Nat.reduceBEq]
    refine Rcall_pure (nest_spec out (by omega)) (by rfl) fun y hy => ?_
    subst hy
    simp -implicitDefEqProofs only [↓yP, yT, Nat.reduceAdd, Nat.reduceMul, Nat.reduceSub, Nat.reduceLeDiff, Nat.reduceEqDiff, reduceCtorEq, Nat.reduceBEq]
    refine Rl_inv (fun d e s => ∃ (i : Nat), e = ([.c .top, .c .top, .c .top, .c .top, .c (.p (rT out)), yd (.int .i64 ((colonsTo out out.length).length : Nat)), yd (.int .i64 (pre (blockAt out) out.length : Nat)), yd (.bool true), .c (.p (rII (nest out))), yd (.int .i64 (pre (blockAt out) i : Nat)), yd (.int .i64 (i : Nat)), .c .top, .c .top, .c .top, .c .top, .c .top, .c .top, .c .top, .c .top, .c .top, .c .top, .c .top, .c .top, .c .top, .c .top, .c .top, .c .top, .c .top, .c .top, .c .top, .c .top, .c .top, .c .top, .c .top, .c .top, .c .top, .c .top, .c .top, .c .top, .c .top, .c .top, .c .top, .c .top, .c .top, .c .top, .c .top, .c .top, .c .top, .c .top, .c .top, .c .top, .c .top, .c .top, .c .top, .c .top, .c .top, .c .top, .c .top, .c .top, .c .top, .c .top, .c .top, .c .top, .c .top, .c .top, .c .top, .c .top, .c .top, .c .top, .c .top, .c .top, .c .top, .c .top, .c .top, .c .top, .c .top, .c .top, .c .top, .c .top, .c .top, .c .top, .c .top, .c .top]) ∧ s = [] ∧ i + d = out.length) [false, false, false, false, true, true, true, true, true, true, true] out.length [] (by decide) (pinned_zero _) ⟨0, by (simp only [yE, Nat.reduceEqDiff, Nat.reduceAdd, reduceCtorEq]; try rfl), by (simp only [yE, Nat.reduceEqDiff, Nat.reduceAdd, reduceCtorEq]; try rfl), by omega⟩ ?_
    rintro d e s ⟨i, rfl, rfl, hd⟩
    by_cases hi : i < out.length
    · obtain ⟨t, ht⟩ := get_lt hi
      have hkk := kindAt_some ht
      have hn := nest_at out hi
      have hpi := pre_le (blockAt out) i
      have hps := pre_succ (blockAt out) i
      have hoal := openAt_length out i
      have t2 : leI (out.length : Nat) (i : Nat) = false := leI_false (by omega)
      have w1 : wrapK .i64 ((i : Int) + 1) = ((i + 1 : Nat) : Int) := wrap_succ (by omega)
      have w2 : wrapK .i64 (((pre (blockAt out) i : Nat) : Int) + 1) = ((pre (blockAt out) i + 1 : Nat) : Int) := wrap_succ (by omega)
      simp -implicitDefEqProofs only [↓yP, yT, Nat.reduceAdd, Nat.reduceMul, Nat.reduceSub, Nat.reduceLeDiff, Nat.reduceEqDiff, reduceCtorEq, Nat.reduceBEq, t2]
      refine Rl_inv (fun d2 e s => ∃ (k : Nat), e = ([.c .top, .c .top, .c .top, .c .top, .c (.p (rT out)), yd (.int .i64 ((colonsTo out out.length).length : Nat)), yd (.int .i64 (pre (blockAt out) out.length : Nat)), yd (.bool true), .c (.p (rII (nest out))), yd (.int .i64 (pre (blockAt out) i : Nat)), yd (.int .i64 (i : Nat)), yd (.bool (allBlocks ((openAt out i).take k))), yd (.int .i64 (k : Nat)), .c .top, .c .top, .c .top, .c .top, .c .top, .c .top, .c .top, .c .top, .c .top, .c .top, .c .top, .c .top, .c .top, .c .top, .c .top, .c .top, .c .top, .c .top, .c .top, .c .top, .c .top, .c .top, .c .top, .c .top, .c .top, .c .top, .c .top, .c .top, .c .top, .c .top, .c .top, .c .top, .c .top, .c .top, .c .top, .c .top, .c .top, .c .top, .c .top, .c .top, .c .top, .c .top, .c .top, .c .top, .c .top, .c .top, .c .top, .c .top, .c .top, .c .top, .c .top, .c .top, .c .top, .c .top, .c .top, .c .top, .c .top, .c .top, .c .top, .c .top, .c .top, .c .top, .c .top, .c .top, .c .top, .c .top, .c .top, .c .top, .c .top, .c .top]) ∧ s = [] ∧ k + d2 = (openAt out i).length) [false, false, false, false, true, true, true, true, true, true, true, true, true] (openAt out i).length [] (by decide) (pinned_zero _) ⟨0, by (simp only [yE, Nat.reduceEqDiff, Nat.reduceAdd, reduceCtorEq]; try rfl), by (simp only [yE, Nat.reduceEqDiff, Nat.reduceAdd, reduceCtorEq]; try rfl), by omega⟩ ?_
      rintro d2 e s ⟨k, rfl, rfl, hd2⟩
      by_cases hk : k < (openAt out i).length
      · obtain ⟨c, hcc⟩ := get_lt hk
        have hat := allB_take hcc
        have t3 : leI ((openAt out i).length : Nat) (k : Nat) = false := leI_false (by omega)
        have v1 : wrapK .i64 ((k : Int) + 1) = ((k + 1 : Nat) : Int) := wrap_succ (by omega)
        cases hal : allBlocks ((openAt out i).take k) with
        | false =>
          rw [hal, Bool.false_and] at hat
          simp -implicitDefEqProofs only [↓yP, yT, Nat.reduceAdd, Nat.reduceMul, Nat.reduceSub, Nat.reduceLeDiff, Nat.reduceEqDiff, reduceCtorEq, Nat.reduceBEq, get_map hn, e2, t3, v1, nn]
          refine ⟨d2 - 1, [], by omega, by decide, pinned_zero _, k + 1, ?_, rfl, by omega⟩
          rw [hat]
          (simp only [yE, Nat.reduceEqDiff, Nat.reduceAdd, reduceCtorEq]; try rfl)
        | true =>
          rw [hal, Bool.true_and] at hat
          simp -implicitDefEqProofs only [↓yP, yT, Nat.reduceAdd, Nat.reduceMul, Nat.reduceSub, Nat.reduceLeDiff, Nat.reduceEqDiff, reduceCtorEq, Nat.reduceBEq, get_map hn, e2, t3, get_map hcc, ei, v1, nn]
          refine ⟨d2 - 1, [], by omega, by decide, pinned_zero _, k + 1, ?_, rfl, by omega⟩
          rw [hat]
          (simp only [yE, Nat.reduceEqDiff, Nat.reduceAdd, reduceCtorEq]; try rfl)
      · have t3 : leI ((openAt out i).length : Nat) (k : Nat) = true := leI_true (by omega)
        rw [List.take_of_length_le (show (openAt out i).length ≤ k by omega)]
        cases hal : allBlocks (openAt out i) with
        | false =>
          rw [show blockAt out i = false by simp [blockAt, hal], if_neg (by simp)] at hps
          simp -implicitDefEqProofs only [↓yP, yT, Nat.reduceAdd, Nat.reduceMul, Nat.reduceSub, Nat.reduceLeDiff, Nat.reduceEqDiff, reduceCtorEq, Nat.reduceBEq, get_map hn, e2, t3, w1, nn]
          refine ⟨d - 1, [], by omega, by decide, pinned_zero _, i + 1, ?_, rfl, by omega⟩
          rw [hps]
          (simp only [yE, Nat.reduceEqDiff, Nat.reduceAdd, reduceCtorEq]; try rfl)
        | true =>
          cases q1 : eqI t.kind 19 with
          | false =>
            rw [show blockAt out i = false by simp [blockAt, hal, hkk, of_eqF q1], if_neg (by simp)] at hps
            simp -implicitDefEqProofs only [↓yP, yT, Nat.reduceAdd, Nat.reduceMul, Nat.reduceSub, Nat.reduceLeDiff, Nat.reduceEqDiff, reduceCtorEq, Nat.reduceBEq, get_map hn, e2, t3, get_map ht, Tok.pc, q1, w1, nn]
            refine ⟨d - 1, [], by omega, by decide, pinned_zero _, i + 1, ?_, rfl, by omega⟩
            rw [hps]
            (simp only [yE, Nat.reduceEqDiff, Nat.reduceAdd, reduceCtorEq]; try rfl)
          | true =>
            rw [show blockAt out i = true by simp [blockAt, hal, hkk, of_eqT q1], if_pos rfl] at hps
            simp -implicitDefEqProofs only [↓yP, yT, Nat.reduceAdd, Nat.reduceMul, Nat.reduceSub, Nat.reduceLeDiff, Nat.reduceEqDiff, reduceCtorEq, Nat.reduceBEq, get_map hn, e2, t3, get_map ht, Tok.pc, q1, w1, w2, nn]
            refine ⟨d - 1, [], by omega, by decide, pinned_zero _, i + 1, ?_, rfl, by omega⟩
            rw [hps]
            (simp only [yE, Nat.reduceEqDiff, Nat.reduceAdd, reduceCtorEq]; try rfl)
    · have t2 : leI (out.length : Nat) (i : Nat) = true := leI_true (by omega)
      obtain rfl : i = out.length := by omega
      have e1 : eqI ((colonsTo out out.length).length : Nat) ((colonsTo out out.length).length : Nat) = true := eqI_true _
      have e2 : eqI ((pre (blockAt out) out.length : Nat) : Int) (pre (blockAt out) out.length : Nat) = true := eqI_true _
      simp -implicitDefEqProofs only [↓yP, yT, Nat.reduceAdd, Nat.reduceMul, Nat.reduceSub, Nat.reduceLeDiff, Nat.reduceEqDiff, reduceCtorEq, Nat.reduceBEq, t2]
      refine Rcall_pure (colons_spec out (by omega)) (by rfl) fun y hy => ?_
      subst hy
      simp -implicitDefEqProofs only [↓yP, yT, Nat.reduceAdd, Nat.reduceMul, Nat.reduceSub, Nat.reduceLeDiff, Nat.reduceEqDiff, reduceCtorEq, Nat.reduceBEq, e1, e2]
  · have t1 : leI (bs.length : Nat) 300 = false := leI_false (by omega)
    simp -implicitDefEqProofs only [↓yP, yT, Nat.reduceAdd, Nat.reduceMul, Nat.reduceSub, Nat.reduceLeDiff, Nat.reduceEqDiff, reduceCtorEq, Nat.reduceBEq, t1]
end Go.Vx.Seat
end
