/- Texts joined: VyU1 VyU2 VyU3 VyR2. -/
import Derived.Test.YtbndpenalacjaaaVm36
import Derived.Test.YtbndpenalacjaaaVm38
import Derived.Test.YtbndpenalacjaaaVyFn
import Derived.Below
/- Rules within rules: the text's tokens, plain law. -/
section
open Go Go.Vx Go.Proofs
set_option linter.unusedSimpArgs false
set_option linter.unusedVariables false
namespace Go.Vx.Seat
/-- Letters that stand alone, and three signs. -/
def Simple (bs : List Int) : Prop := ∀ (i : Nat) (c : Int), bs[i]? = some c → (c = 58 ∨ c = 123 ∨ c = 125) ∨ ((97 ≤ c ∧ c ≤ 122) ∧ ∀ c', bs[i + 1]? = some c' → c' = 58 ∨ c' = 123 ∨ c' = 125)
def kindOf (c : Int) : Int := if c = 58 then 16 else if c = 123 then 19 else if c = 125 then 20 else 1
theorem Simple.asc {bs : List Int} (h : Simple bs) : Asc bs := fun c hc => by
  obtain ⟨i, hi⟩ := List.getElem?_of_mem hc
  rcases h i c hi with (h | h | h) | h <;> omega
theorem ascR_get {bs : List Int} {i : Nat} {c : Int} (h : bs[i]? = some c) : (ascR bs bs.length)[i]? = some ⟨c, (i : Nat)⟩ := by
  have := (List.getElem?_eq_some_iff.mp h).1
  simp [ascR, this]
  rw [List.getElem?_eq_getElem this] at h
  exact Option.some.inj h
theorem ascR_len (bs : List Int) (n : Nat) : (ascR bs n).length = n := by simp [ascR]
theorem simple_next {bs : List Int} {i : Nat} (h : ∀ c', bs[i]? = some c' → c' = 58 ∨ c' = 123 ∨ c' = 125) : (atR (ascR bs bs.length) ((i : Nat) : Int) = -1 ∨ atR (ascR bs bs.length) ((i : Nat) : Int) = 58 ∨ atR (ascR bs bs.length) ((i : Nat) : Int) = 123 ∨ atR (ascR bs bs.length) ((i : Nat) : Int) = 125) := by
  rcases hb : bs[i]? with _ | c
  · left
    have := List.getElem?_eq_none_iff.mp hb
    exact atR_out (by rw [ascR_len]; omega)
  · right
    rw [atR_get (ascR_get hb)]
    exact h c hb
theorem simple_lex {bs : List Int} (hs : Simple bs) {i : Nat} {ts : List Tok} (h : Lexed (ascR bs bs.length) i ts) : ts.length = i ∧ ∀ (j : Nat) (c : Int), j < i → bs[j]? = some c → ∃ t : Tok, ts[j]? = some t ∧ t.kind = kindOf c ∧ t.start = (j : Nat) := by
  induction h with
  | nil => exact ⟨rfl, fun j c hj => by omega⟩
  | @snoc i k ts x t h1 h2 h3 h4 h5 h6 ih =>
    obtain ⟨hl, he⟩ := ih
    have hil : i < bs.length := by have := (List.getElem?_eq_some_iff.mp h2).1; rwa [ascR_len] at this
    obtain ⟨c, hc⟩ := get_lt hil
    have hx := ascR_get hc
    rw [h2] at hx
    cases hx
    have key : k = i + 1 ∧ t.kind = kindOf c := by
      rcases hs i c hc with (e | e | e) | ⟨⟨e1, e2⟩, e3⟩
      · obtain ⟨r1, r2⟩ := h6.colon _ h2 e
        exact ⟨r2, by rw [r1, e]; rfl⟩
      · obtain ⟨r1, r2⟩ := h6.opn _ h2 e
        exact ⟨r2, by rw [r1, e]; rfl⟩
      · obtain ⟨r1, r2⟩ := h6.shut _ h2 e
        exact ⟨r2, by rw [r1, e]; rfl⟩
      · have hn := simple_next e3
        have g1 : inB (atR (ascR bs bs.length) ((i + 1 : Nat) : Int)) = false := by rcases hn with h | h | h | h <;> (rw [h]; rfl)
        have g2 : escB (ascR bs bs.length) (i + 1) = false := by unfold escB; rcases hn with h | h | h | h <;> (rw [h]; rfl)
        have g3 : atR (ascR bs bs.length) ((i + 1 : Nat) : Int) ≠ 40 := by rcases hn with h | h | h | h <;> (rw [h]; decide)
        obtain ⟨r1, r2⟩ := h6.name _ h2 e1 e2 g1 g2 g3
        exact ⟨r2, by rw [r1, kindOf, if_neg (by omega), if_neg (by omega), if_neg (by omega)]⟩
    obtain ⟨rfl, hk⟩ := key
    refine ⟨by simp [hl], fun j c' hj hc' => ?_⟩
    rcases Nat.lt_or_ge j i with g | g
    · obtain ⟨t', q1, q2, q3⟩ := he j c' g hc'
      exact ⟨t', by rw [List.getElem?_append_left (by omega)]; exact q1, q2, q3⟩
    · obtain rfl : j = i := by omega
      rw [hc] at hc'; cases hc'
      exact ⟨{ t with start := (j : Nat) }, by rw [List.getElem?_append_right (by omega), hl]; simp, hk, rfl⟩
/-- A letter and '{' so often, "b:c", and '}' so often. -/
def deepB (n s : Nat) (i : Nat) : Int := if i < 2 * n then (if i % 2 = 0 then 97 else 123) else if i = 2 * n then 98 else if i = 2 * n + 1 then 58 else if i = 2 * n + 2 then 99 else 125
structure IsDeep (n s : Nat) (bs : List Int) : Prop where
  len : bs.length = 2 * n + 3 + s
  each : ∀ i, i < 2 * n + 3 + s → bs[i]? = some (deepB n s i)
theorem IsDeep.simple {n s : Nat} {bs : List Int} (h : IsDeep n s bs) : Simple bs := fun i c hc => by
  have hi : i < 2 * n + 3 + s := by rw [← h.len]; exact (List.getElem?_eq_some_iff.mp hc).1
  rw [h.each i hi] at hc
  cases hc
  have nxt : ∀ c', bs[i + 1]? = some c' → c' = deepB n s (i + 1) ∧ i + 1 < 2 * n + 3 + s := fun c' hc' => by
    have hi1 : i + 1 < 2 * n + 3 + s := by rw [← h.len]; exact (List.getElem?_eq_some_iff.mp hc').1
    rw [h.each _ hi1] at hc'
    exact ⟨(Option.some.inj hc').symm, hi1⟩
  by_cases h1 : i < 2 * n
  · by_cases h2 : i % 2 = 0
    · right
      refine ⟨by rw [deepB, if_pos h1, if_pos h2]; omega, fun c' hc' => ?_⟩
      rw [(nxt c' hc').1, deepB, if_pos (by omega), if_neg (by omega)]; omega
    · left; rw [deepB, if_pos h1, if_neg h2]; omega
  · by_cases h2 : i = 2 * n
    · right
      refine ⟨by rw [deepB, if_neg h1, if_pos h2]; omega, fun c' hc' => ?_⟩
      rw [(nxt c' hc').1, deepB, if_neg (by omega), if_neg (by omega), if_pos (by omega)]; omega
    · by_cases h3 : i = 2 * n + 1
      · left; rw [deepB, if_neg h1, if_neg h2, if_pos h3]; omega
      · by_cases h4 : i = 2 * n + 2
        · right
          refine ⟨by rw [deepB, if_neg h1, if_neg h2, if_neg h3, if_pos h4]; omega, fun c' hc' => ?_⟩
          rw [(nxt c' hc').1, deepB, if_neg (by omega), if_neg (by omega), if_neg (by omega), if_neg (by omega)]; omega
        · left; rw [deepB, if_neg h1, if_neg h2, if_neg h3, if_neg h4]; omega
/-- The tokens of such a text. -/
structure Sheet (n s : Nat) (o : List Tok) : Prop where
  len : o.length = 2 * n + 3 + s
  start : ∀ i, i < 2 * n + 3 + s → startAt o i = (i : Nat)
  lett : ∀ j, j < n → kindAt o (2 * j) = 1
  opn : ∀ j, j < n → kindAt o (2 * j + 1) = 19
  b : kindAt o (2 * n) = 1
  colon : kindAt o (2 * n + 1) = 16
  c : kindAt o (2 * n + 2) = 1 ∨ kindAt o (2 * n + 2) = 26
  shut : ∀ q, q < s → kindAt o (2 * n + 3 + q) = 20
theorem sheet_of {n s : Nat} {bs : List Int} (h : IsDeep n s bs) {out : List Tok} (hc : CssOf bs out) : Sheet n s out := by
  obtain ⟨rs, ts, vs, h1, h2, h3, h4⟩ := hc.how
  have hs := h.simple
  have hrs := h1 hs.asc
  subst hrs
  rw [ascR_len] at h2
  obtain ⟨hl, he⟩ := simple_lex hs h2
  have heach : ∀ i, i < 2 * n + 3 + s → ∃ t : Tok, ts[i]? = some t ∧ t.kind = kindOf (deepB n s i) ∧ t.start = (i : Nat) := fun i hi => he i _ (by rw [h.len]; exact hi) (h.each i hi)
  have hq : ∀ t, t ∈ ts → quiet t.kind = false := fun t ht => by
    obtain ⟨i, hi⟩ := List.getElem?_of_mem ht
    have hil : i < 2 * n + 3 + s := by rw [← h.len, ← hl]; exact (List.getElem?_eq_some_iff.mp hi).1
    obtain ⟨t', e1, e2, _⟩ := heach i hil
    rw [hi] at e1; cases e1
    rw [e2, kindOf]
    split
    · rfl
    · split
      · rfl
      · split <;> rfl
  obtain rfl := h3 hq
  obtain ⟨hml, hm⟩ := h4
  have hkt : ∀ i, i < 2 * n + 3 + s → kindAt vs i = kindOf (deepB n s i) := fun i hi => by
    obtain ⟨t, e1, e2, _⟩ := heach i hi
    rw [kindAt_some e1, e2]
  have hcol : ∀ c, docColon vs c = true → c = 2 * n + 1 := fun c hd => by
    have hk16 : kindAt vs c = 16 := by simp [docColon] at hd; exact hd.1.1.1.1
    rcases Nat.lt_or_ge c (2 * n + 3 + s) with g | g
    · rw [hkt c g] at hk16
      have h58 : deepB n s c = 58 := by
        unfold kindOf at hk16
        split at hk16
        · assumption
        · split at hk16
          · cases hk16
          · split at hk16 <;> cases hk16
      unfold deepB at h58
      split at h58
      · split at h58 <;> cases h58
      · split at h58
        · cases h58
        · split at h58
          · assumption
          · split at h58 <;> cases h58
    · rw [kindAt, List.getElem?_eq_none (by rw [hl, h.len]; exact g)] at hk16
      cases hk16
  have hout : ∀ i, i < 2 * n + 3 + s → ∃ u : Tok, out[i]? = some u ∧ u.start = (i : Nat) ∧ (u.kind = kindOf (deepB n s i) ∨ (kindOf (deepB n s i) = 1 ∧ u.kind = 26 ∧ 2 * n + 1 < i)) := fun i hi => by
    obtain ⟨t, e1, e2, e3⟩ := heach i hi
    obtain ⟨u, f1, f2⟩ := hm i t e1
    rcases f2 with rfl | ⟨g1, g2, g3, c, g4, g5⟩
    · exact ⟨u, f1, e3, .inl e2⟩
    · refine ⟨u, f1, by rw [g3, e3], .inr ⟨?_, g2, by have := hcol c g5; omega⟩⟩
      rw [← e2]
      rcases g1 with g1 | g1
      · exact g1
      · exfalso
        rw [e2] at g1
        unfold kindOf at g1
        split at g1
        · cases g1
        · split at g1
          · cases g1
          · split at g1 <;> cases g1
  have hk : ∀ i, i < 2 * n + 3 + s → i ≤ 2 * n + 1 ∨ kindOf (deepB n s i) ≠ 1 → kindAt out i = kindOf (deepB n s i) := fun i hi hor => by
    obtain ⟨u, f1, _, f3⟩ := hout i hi
    rw [kindAt_some f1]
    rcases f3 with f3 | ⟨f3, _, f4⟩
    · exact f3
    · rcases hor with hor | hor
      · omega
      · exact absurd f3 hor
  have d0 : ∀ j, j < n → deepB n s (2 * j) = 97 := fun j hj => by rw [deepB, if_pos (by omega), if_pos (by omega)]
  have d1 : ∀ j, j < n → deepB n s (2 * j + 1) = 123 := fun j hj => by rw [deepB, if_pos (by omega), if_neg (by omega)]
  have d2 : deepB n s (2 * n) = 98 := by rw [deepB, if_neg (by omega), if_pos rfl]
  have d3 : deepB n s (2 * n + 1) = 58 := by rw [deepB, if_neg (by omega), if_neg (by omega), if_pos rfl]
  have d4 : deepB n s (2 * n + 2) = 99 := by rw [deepB, if_neg (by omega), if_neg (by omega), if_neg (by omega), if_pos rfl]
  have d5 : ∀ q, deepB n s (2 * n + 3 + q) = 125 := fun q => by rw [deepB, if_neg (by omega), if_neg (by omega), if_neg (by omega), if_neg (by omega)]
  refine ⟨by rw [hml, hl, h.len], fun i hi => ?_, fun j hj => ?_, fun j hj => ?_, ?_, ?_, ?_, fun q hq => ?_⟩
  · obtain ⟨u, f1, f2, _⟩ := hout i hi
    rw [startAt_some f1, f2]
  · rw [hk _ (by omega) (.inl (by omega)), d0 j hj]; rfl
  · rw [hk _ (by omega) (.inl (by omega)), d1 j hj]; rfl
  · rw [hk _ (by omega) (.inl (by omega)), d2]; rfl
  · rw [hk _ (by omega) (.inl (by omega)), d3]; rfl
  · obtain ⟨u, f1, _, f3⟩ := hout (2 * n + 2) (by omega)
    rw [kindAt_some f1]
    rw [d4] at f3
    rcases f3 with f3 | ⟨_, f3, _⟩
    · exact .inl f3
    · exact .inr f3
  · rw [hk _ (by omega) (.inr (by rw [d5]; decide)), d5]; rfl
end Go.Vx.Seat
end
/- Rules within rules: the nodes, plain law. -/
section
open Go Go.Vx Go.Proofs
set_option linter.unusedSimpArgs false
set_option linter.unusedVariables false
namespace Go.Vx.Seat
theorem reps_plain {ts : List Tok} {deep k : Nat} (hk : k < ts.length) (ho : openAt ts k = reps deep) (h : kindAt ts k = 1 ∨ kindAt ts k = 16 ∨ kindAt ts k = 26) : openAt ts (k + 1) = reps deep := by
  have ht : ts[k]? = some ts[k] := List.getElem?_eq_getElem hk
  have hn : ¬ (reps deep).getLast? = some (kindAt ts k) := by
    rw [← ho]; exact not_last (by rcases h with h | h | h <;> rw [h] <;> simp [Shuts])
  have hc : ¬ closes (kindAt ts k) > 0 := by rcases h with h | h | h <;> rw [h] <;> decide
  rw [openAt_succ ht, ← kindAt_some ht, nestStep, ho, if_neg hn, if_neg hc]
theorem slice_one' {ts : List Tok} {k : Nat} (h : k < ts.length) : (slice ts k (k + 1)).length = 1 := by simp [slice]; omega
section
variable {n s : Nat} {o : List Tok} (hs : Sheet n s o)
include hs
theorem open_lett : ∀ j, j ≤ n → openAt o (2 * j) = reps j
  | 0, _ => by simp [openAt, reps]
  | j + 1, hj => by
    have ih := open_lett j (by omega)
    have h1 := reps_plain (k := 2 * j) (by have := hs.len; omega) ih (.inl (hs.lett j (by omega)))
    have h2 := reps_block (k := 2 * j + 1) (by have := hs.len; omega) h1 (hs.opn j (by omega))
    exact h2
theorem open_sign (j : Nat) (hj : j < n) : openAt o (2 * j + 1) = reps j := reps_plain (by have := hs.len; omega) (open_lett hs j (by omega)) (.inl (hs.lett j hj))
theorem open_b1 : openAt o (2 * n + 1) = reps n := reps_plain (by have := hs.len; omega) (open_lett hs n (by omega)) (.inl hs.b)
theorem open_b2 : openAt o (2 * n + 2) = reps n := reps_plain (k := 2 * n + 1) (by have := hs.len; omega) (open_b1 hs) (.inr (.inl hs.colon))
theorem open_b3 : openAt o (2 * n + 3) = reps n := reps_plain (k := 2 * n + 2) (by have := hs.len; omega) (open_b2 hs) (hs.c.elim .inl fun h => .inr (.inr h))
theorem open_shut (hsn : s ≤ n) : ∀ q, q ≤ s → openAt o (2 * n + 3 + q) = reps (n - q)
  | 0, _ => open_b3 hs
  | q + 1, hq => by
    have ih := open_shut hsn q (by omega)
    rw [show n - q = (n - (q + 1)) + 1 by omega] at ih
    exact reps_shut (k := 2 * n + 3 + q) (by have := hs.len; omega) ih (hs.shut q (by omega))
theorem deep_colon (hsn : s ≤ n) (hn : 0 < n) : docColon o (2 * n + 1) = true := by
  have hlen := hs.len
  have h1 := open_b1 hs
  have hback : back o (2 * n + 1) 0 0 = (1, 0) := by
    have p0 : partAt o (2 * n) = false := by rw [partAt, hs.b]; rfl
    have p1 : partAt o (2 * n - 1) = true := by
      have := open_sign hs (n - 1) (by omega)
      have hk := hs.opn (n - 1) (by omega)
      rw [show 2 * (n - 1) + 1 = 2 * n - 1 by omega] at this hk
      rw [partAt, this, hk, reps_blocks]; rfl
    rw [back, if_neg (by rw [p0]; simp), hs.b, if_neg (by decide), if_pos rfl, show 2 * n = (2 * n - 1) + 1 by omega, back, if_pos p1]
  have hbeh : behind o (2 * n + 1) (o.length - (2 * n + 1 + 1)) (2 * n + 1 + 1) = true := by
    rw [show o.length - (2 * n + 1 + 1) = s + 1 by omega, behind, if_neg, show 2 * n + 1 + 1 + 1 = 2 * n + 3 by omega]
    · cases s with
      | zero => rfl
      | succ s =>
        rw [behind, if_pos]
        · rw [show kindAt o (2 * n + 3) = 20 from hs.shut 0 (by omega)]; rfl
        · rw [open_b3 hs, h1, show kindAt o (2 * n + 3) = 20 from hs.shut 0 (by omega)]; exact ⟨rfl, rfl⟩
    · rintro ⟨_, h⟩
      rw [show 2 * n + 1 + 1 = 2 * n + 2 by omega] at h
      rcases hs.c with e | e <;> (rw [e] at h; exact absurd h (by decide))
  simp [docColon, hs.colon, h1, reps_len, reps_blocks, hback, hbeh]
  intro e; have := reps_len n; rw [e] at this; simp at this; omega
theorem only_colon {c : Nat} (h : docColon o c = true) (hsn : s ≤ n) : c = 2 * n + 1 ∧ 0 < n := by
  have hlen := hs.len
  obtain ⟨k1, l1, _, _⟩ := docColon_facts h
  have hc : c < 2 * n + 3 + s := by
    rcases Nat.lt_or_ge c (2 * n + 3 + s) with g | g
    · exact g
    · rw [kindAt, List.getElem?_eq_none (by omega)] at k1; cases k1
  have he : c = 2 * n + 1 := by
    by_cases h1 : c < 2 * n
    · exfalso
      by_cases h2 : c % 2 = 0
      · have := hs.lett (c / 2) (by omega)
        rw [show 2 * (c / 2) = c by omega] at this; omega
      · have := hs.opn (c / 2) (by omega)
        rw [show 2 * (c / 2) + 1 = c by omega] at this; omega
    · by_cases h2 : c = 2 * n
      · have := hs.b; rw [← h2] at this; omega
      · by_cases h3 : c = 2 * n + 1
        · exact h3
        · by_cases h4 : c = 2 * n + 2
          · have := hs.c; rw [← h4] at this; omega
          · have := hs.shut (c - (2 * n + 3)) (by omega)
            rw [show 2 * n + 3 + (c - (2 * n + 3)) = c by omega] at this; omega
  subst he
  rw [open_b1 hs, reps_len] at l1
  exact ⟨rfl, by omega⟩
omit hs in
/-- Rules one within the other, so many. -/
inductive Chain (n s : Nat) : Nat → List Nd → Prop where
  | leaf {k : Int} {h t : List Tok} {o r m : Bool} {a l : Int} : (k = 2 ↔ 0 < n) → Chain n s 0 [.mk k h t [] o r m a l]
  | rule {m : Nat} {h : List Tok} {ks : List Nd} {l : Int} : h.length = 1 → Chain n s m ks → Chain n s (m + 1) [.mk 1 h [] ks true (decide (m + 1 ≤ s)) false ((2 * (n - (m + 1)) + 1 : Nat) : Int) l]
omit hs in
theorem end_step {deep d k : Nat} (h : kindAt o k ≠ 20 ∧ kindAt o k ≠ 19 ∧ kindAt o k ≠ 17) : endD o deep (d + 1) k = endD o deep d (k + 1) := by
  rw [endD, if_neg]; rintro ⟨_, h1⟩; omega
theorem nodes_deep (hsn : s ≤ n) : ∀ m j, j + m = n → ∀ N, o.length - 2 * j ≤ N → ∃ x, nodesD o (colonsTo o o.length) N (2 * j) j = ([x], 2 * n + 3 + min m s) ∧ Chain n s m [x]
  | m, j, hj, 0, hN => by have := hs.len; omega
  | m, j, hj, N + 1, hN => by
    have hlen := hs.len
    have hsh : shutD o j (2 * j) = false := by
      rcases Nat.lt_or_ge j n with g | g
      · simp [shutD, hs.lett j g]
      · obtain rfl : j = n := by omega
        simp [shutD, hs.b]
    -- what comes behind the node
    have rest : nodesD o (colonsTo o o.length) N (2 * n + 3 + min m s) j = ([], 2 * n + 3 + min m s) := by
      cases N with
      | zero => rfl
      | succ N =>
        rw [nodesD, if_neg]
        rintro ⟨h1, h2⟩
        have hms : m < s := by omega
        have e : min m s = m := by omega
        rw [e] at h1 h2
        have ho := open_shut hs hsn m (by omega)
        rw [show shutD o j (2 * n + 3 + m) = true by
          simp [shutD, hs.shut m hms, ho, reps_len]; omega] at h2
        cases h2
    rw [nodesD, if_pos ⟨by omega, hsh⟩]
    simp only
    cases m with
    | zero =>
      obtain rfl : j = n := by omega
      have hend : endD o j (o.length - 2 * j) (2 * j) = 2 * j + 3 := by
        rw [show o.length - 2 * j = ((s + 1) + 1) + 1 by omega, end_step (by rw [hs.b]; omega), end_step (by rw [hs.colon]; omega), end_step (by rcases hs.c with h | h <;> (rw [h]; omega))]
        cases s with
        | zero => rfl
        | succ s =>
          rw [endD, if_pos]
          exact ⟨by rw [open_b3 hs, reps_len], .inl ⟨hs.shut 0 (by omega), by omega⟩⟩
      have hk19 : ¬ (2 * j + 3 < o.length ∧ kindAt o (2 * j + 3) = 19) := by
        rintro ⟨h1, h2⟩
        have := hs.shut 0 (by omega)
        rw [show 2 * j + 3 + 0 = 2 * j + 3 by omega] at this
        omega
      have hleaf : ∀ m' semi, semi = false → (3 ≤ m' ∧ m' ≤ 4) → ∃ k h t l' a, leafD o (colD o (colonsTo o o.length) j (2 * j) m') (2 * j) (2 * j + 3) semi = (.mk k h t [] false false false a l', 2 * j + 3) ∧ (k = 2 ↔ 0 < j) := by
        intro m' semi hsemi hm'
        subst hsemi
        cases hcd : colD o (colonsTo o o.length) j (2 * j) m' with
        | none =>
          refine ⟨_, _, _, _, _, rfl, ⟨fun h => absurd h (by decide), fun h => ?_⟩⟩
          exfalso
          refine colD_none hcd (2 * j + 1) (by omega) (by omega) ⟨by rw [open_b1 hs, reps_len], (contains_colons o o.length _).mpr ⟨by omega, deep_colon hs hsn h⟩⟩
        | some c =>
          have := (contains_colons o o.length c).mp (colD_some hcd).2
          exact ⟨_, _, _, _, _, rfl, ⟨fun _ => (only_colon hs this.2 hsn).2, fun _ => rfl⟩⟩
      have hnode : ∃ k h t l' a, nodeD o (colonsTo o o.length) (nodesD o (colonsTo o o.length) N) (2 * j) j = (.mk k h t [] false false false a l', 2 * j + 3) ∧ (k = 2 ↔ 0 < j) := by
        unfold nodeD
        simp only
        rw [hend, if_neg hk19]
        by_cases hlt : 2 * j + 3 < o.length
        · rw [if_pos hlt]
          refine hleaf _ _ ?_ (by omega)
          have := hs.shut 0 (by omega)
          rw [show 2 * j + 3 + 0 = 2 * j + 3 by omega] at this
          rw [this]; rfl
        · rw [if_neg hlt]
          exact hleaf _ _ rfl (by omega)
      obtain ⟨k, h, t, l', a, e1, e2⟩ := hnode
      rw [Nat.zero_min, Nat.add_zero] at rest
      rw [e1]
      simp only
      rw [rest, Nat.zero_min]
      exact ⟨_, rfl, .leaf e2⟩
    | succ m =>
      have hjn : j < n := by omega
      have hend : endD o j (o.length - 2 * j) (2 * j) = 2 * j + 1 := by
        rw [show o.length - 2 * j = ((o.length - 2 * j - 2) + 1) + 1 by omega, end_step (by rw [hs.lett j hjn]; omega), endD, if_pos]
        exact ⟨by rw [open_sign hs j hjn, reps_len], .inr (.inl (hs.opn j hjn))⟩
      obtain ⟨x, r1, r2⟩ := nodes_deep hsn m (j + 1) (by omega) N (by omega)
      rw [show 2 * (j + 1) = 2 * j + 1 + 1 by omega] at r1
      have hnode : ∃ l', nodeD o (colonsTo o o.length) (nodesD o (colonsTo o o.length) N) (2 * j) j = (.mk 1 (slice o (2 * j) (2 * j + 1)) [] [x] true (decide (m + 1 ≤ s)) false ((2 * (n - (m + 1)) + 1 : Nat) : Int) l', 2 * n + 3 + min (m + 1) s) := by
        unfold nodeD
        simp only
        rw [hend, if_pos ⟨by omega, hs.opn j hjn⟩]
        unfold ruleP
        simp only
        rw [r1]
        simp only
        refine ⟨if 2 * n + 3 + min m s < o.length then startAt o (2 * n + 3 + min m s) else 0, ?_⟩
        have hst := hs.start (2 * j + 1) (by omega)
        rw [hst, show n - (m + 1) = j by omega]
        have e1 : decide (2 * n + 3 + min m s < o.length) = decide (m + 1 ≤ s) := by
          rw [Bool.eq_iff_iff]; simp; omega
        have e2 : (if 2 * n + 3 + min m s < o.length then 2 * n + 3 + min m s + 1 else 2 * n + 3 + min m s) = 2 * n + 3 + min (m + 1) s := by
          split <;> omega
        rw [e1, e2]
      obtain ⟨l', e1⟩ := hnode
      rw [e1]
      simp only
      rw [rest]
      refine ⟨_, rfl, .rule ?_ r2⟩
      rw [slice_one' (by omega)]
end
end Go.Vx.Seat
end
/- CtreeDeep: the walk. -/
section
open Go Go.Vx Go.Proofs
set_option linter.unusedSimpArgs false
set_option linter.unusedVariables false
set_option maxRecDepth 20000
set_option maxHeartbeats 4000000
namespace Go.Vx.Seat
attribute [local congr] Rg_at Rt_at Ro_at Ri_at Rc_at Rto_at Rtk_at Rtf_at Rti_at
attribute [local irreducible] Rg Rt Ro Ri Rc Rto Rtk Rtf Rti Rw Rl Rd Rcall Rtcall kf
theorem fn7 : nth C1.P.funcs.toList 7 = some Try.f7 := by kernel_rfl
def upL (i : Nat) : List UInt8 := (List.range (2 * i)).map fun j => if j % 2 = 0 then 97 else 123
theorem under4b' : Try.prog.underlying 4 = some .bool := by kernel_rfl
theorem upL_succ (i : Nat) : upL (i + 1) = upL i ++ [97, 123] := by
  rw [upL, show 2 * (i + 1) = 2 * i + 1 + 1 by omega, List.range_succ, List.range_succ, List.map_append, List.map_append, upL]
  simp
theorem upL_len (i : Nat) : (upL i).length = 2 * i := by simp [upL]
theorem give_bytes (bs : List Int) : yfzC [.row 1 (bs.map eb)] (.own 0 1 0 bs.length) = some (.p (rB bs), [.dead]) := by
  have h : nth [Ent.row 1 (bs.map eb)] 0 = some (.row 1 (bs.map eb)) := rfl
  simp [yfzC, yrow, h, List.take_of_length_le]
theorem isDeep (n s : Nat) : IsDeep n s (sBytes (strMk (upL n ++ [98, 58, 99] ++ List.replicate s 125))) := by
  refine ⟨by simp [sBytes, strOf_mk, upL_len]; omega, fun i hi => ?_⟩
  have key : (upL n ++ [98, 58, 99] ++ List.replicate s 125 : List UInt8)[i]? = some (if i < 2 * n then (if i % 2 = 0 then 97 else 123) else if i = 2 * n then 98 else if i = 2 * n + 1 then 58 else if i = 2 * n + 2 then 99 else 125) := by
    by_cases h1 : i < 2 * n
    · rw [List.append_assoc, List.getElem?_append_left (by rw [upL_len]; exact h1), if_pos h1]
      simp [upL, h1]
    · rw [if_neg h1]
      by_cases h2 : i < 2 * n + 3
      · rw [List.getElem?_append_left (by simp [upL_len]; omega), List.getElem?_append_right (by rw [upL_len]; omega), upL_len]
        have h3 : i = 2 * n ∨ i = 2 * n + 1 ∨ i = 2 * n + 2 := by omega
        rcases h3 with rfl | rfl | rfl
        · simp
        · rw [if_neg (by omega), if_pos rfl, show 2 * n + 1 - 2 * n = 1 by omega]; rfl
        · rw [if_neg (by omega), if_neg (by omega), if_pos rfl, show 2 * n + 2 - 2 * n = 2 by omega]; rfl
      · rw [List.getElem?_append_right (by simp [upL_len]; omega), if_neg (by omega), if_neg (by omega), if_neg (by omega)]
        rw [List.getElem?_replicate, if_pos (by simp [upL_len]; omega)]
  rw [sBytes, strOf_mk, List.getElem?_map, key, deepB]
  simp only [Option.map_some]
  split
  · split <;> rfl
  · split
    · rfl
    · split
      · rfl
      · split <;> rfl
theorem deep_spec (n s : Int) : PCall C1 7 [yd (.int .i64 n), yd (.int .i64 s)] fun y => y = yd (.bool true) := by
  refine Pf (by rfl) (by rfl) fn7 (by rfl) ?_
  simp only [Try.f7, List.length_cons, List.length_nil, List.replicate, List.cons_append, List.nil_append]
  simp -implicitDefEqProofs only [↓yP, yT, Nat.reduceAdd, Nat.reduceMul, Nat.reduceSub, Nat.reduceLeDiff, Nat.reduceEqDiff, reduceCtorEq, Nat.reduceBEq]
  refine Rcall_pure live_spec (by rfl) fun y hy => ?_
  subst hy
  cases a1 : leI 0 n with
  | false =>
    simp -implicitDefEqProofs only [↓yP, yT, Nat.reduceAdd, Nat.reduceMul, Nat.reduceSub, Nat.reduceLeDiff, Nat.reduceEqDiff, reduceCtorEq, Nat.reduceBEq, a1]
  | true =>
  cases a2 : leI n 40 with
  | false =>
    simp -implicitDefEqProofs only [↓yP, yT, Nat.reduceAdd, Nat.reduceMul, Nat.reduceSub, Nat.reduceLeDiff, Nat.reduceEqDiff, reduceCtorEq, Nat.reduceBEq, a1, a2]
  | true =>
  cases a3 : leI 0 s with
  | false =>
    simp -implicitDefEqProofs only [↓yP, yT, Nat.reduceAdd, Nat.reduceMul, Nat.reduceSub, Nat.reduceLeDiff, Nat.reduceEqDiff, reduceCtorEq, Nat.reduceBEq, a1, a2, a3]
  | true =>
  cases a4 : leI s n with
  | false =>
    simp -implicitDefEqProofs only [↓yP, yT, Nat.reduceAdd, Nat.reduceMul, Nat.reduceSub, Nat.reduceLeDiff, Nat.reduceEqDiff, reduceCtorEq, Nat.reduceBEq, a1, a2, a3, a4]
  | true =>
  have a2' := of_leT a2
  have a4' := of_leT a4
  obtain ⟨n, rfl⟩ := Int.eq_ofNat_of_zero_le (of_leT a1)
  obtain ⟨s, rfl⟩ := Int.eq_ofNat_of_zero_le (of_leT a3)
  have hn40 : n ≤ 40 := by omega
  have hsn : s ≤ n := by omega
  simp -implicitDefEqProofs only [↓yP, yT, Nat.reduceAdd, Nat.reduceMul, Nat.reduceSub, Nat.reduceLeDiff, Nat.reduceEqDiff, reduceCtorEq, Nat.reduceBEq, a1, a2, a3, a4]
  clear a1 a2 a3 a4 a2' a4'
  refine Rl_inv (fun d e st => ∃ (i : Nat), e = ([yd (.int .i64 (n : Nat)), yd (.int .i64 (s : Nat)), .c .top, .c .top, .c .top, .c .top, yd (.string (strMk (upL i))), yd (.int .i64 (i : Nat)), .c .top, .c .top, .c .top, .c .top, .c .top, .c .top, .c .top, .c .top, .c .top, .c .top, .c .top, .c .top, .c .top, .c .top, .c .top, .c .top, .c .top, .c .top, .c .top, .c .top, .c .top, .c .top, .c .top, .c .top, .c .top, .c .top, .c .top, .c .top, .c .top, .c .top, .c .top, .c .top, .c .top, .c .top, .c .top, .c .top, .c .top, .c .top, .c .top, .c .top, .c .top, .c .top, .c .top, .c .top, .c .top, .c .top, .c .top, .c .top, .c .top, .c .top, .c .top, .c .top, .c .top, .c .top, .c .top, .c .top, .c .top, .c .top, .c .top, .c .top, .c .top, .c .top, .c .top, .c .top, .c .top, .c .top, .c .top, .c .top, .c .top, .c .top, .c .top, .c .top, .c .top, .c .top, .c .top, .c .top, .c .top, .c .top, .c .top, .c .top, .c .top, .c .top, .c .top, .c .top, .c .top, .c .top, .c .top, .c .top, .c .top, .c .top, .c .top, .c .top, .c .top, .c .top, .c .top, .c .top, .c .top, .c .top, .c .top, .c .top, .c .top, .c .top, .c .top, .c .top, .c .top, .c .top, .c .top, .c .top, .c .top, .c .top, .c .top, .c .top, .c .top, .c .top, .c .top, .c .top, .c .top, .c .top, .c .top]) ∧ st = [] ∧ i + d = n) [true, true, false, false, false, false, true, true] n [] (by decide) (pinned_zero _) ⟨0, by (simp only [yE, Nat.reduceEqDiff, Nat.reduceAdd, reduceCtorEq]; try rfl), by (simp only [yE, Nat.reduceEqDiff, Nat.reduceAdd, reduceCtorEq]; try rfl), by omega⟩ ?_
  rintro d e st ⟨i, rfl, rfl, hd⟩
  have hul := upL_len i
  by_cases hi : i < n
  · have t1 : leI (n : Nat) (i : Nat) = false := leI_false (by omega)
    have w1 : wrapK .i64 ((i : Int) + 1) = ((i + 1 : Nat) : Int) := wrap_succ (by omega)
    have b1 : (upL i).length + (strOf ⟨#[97, 123]⟩).length ≤ 140737488355328 := by show (upL i).length + 2 ≤ _; omega
    simp -implicitDefEqProofs only [↓yP, yT, Nat.reduceAdd, Nat.reduceMul, Nat.reduceSub, Nat.reduceLeDiff, Nat.reduceEqDiff, reduceCtorEq, Nat.reduceBEq, t1, xstr_add, strOf_mk, b1, w1]
    refine ⟨d - 1, [], by omega, by decide, pinned_zero _, i + 1, ?_, rfl, by omega⟩
    rw [upL_succ]
    (simp only [yE, Nat.reduceEqDiff, Nat.reduceAdd, reduceCtorEq]; try rfl)
  · have t1 : leI (n : Nat) (i : Nat) = true := leI_true (by omega)
    obtain rfl : i = n := by omega
    have b1 : (upL i).length + (strOf ⟨#[98, 58, 99]⟩).length ≤ 140737488355328 := by show (upL i).length + 3 ≤ _; omega
    simp -implicitDefEqProofs only [↓yP, yT, Nat.reduceAdd, Nat.reduceMul, Nat.reduceSub, Nat.reduceLeDiff, Nat.reduceEqDiff, reduceCtorEq, Nat.reduceBEq, t1, xstr_add, strOf_mk, b1]
    refine Rl_inv (fun d e st => ∃ (q : Nat), e = ([yd (.int .i64 (i : Nat)), yd (.int .i64 (s : Nat)), .c .top, .c .top, .c .top, .c .top, yd (.string (strMk (upL i ++ [98, 58, 99] ++ List.replicate q 125))), .c .top, yd (.int .i64 (q : Nat)), .c .top, .c .top, .c .top, .c .top, .c .top, .c .top, .c .top, .c .top, .c .top, .c .top, .c .top, .c .top, .c .top, .c .top, .c .top, .c .top, .c .top, .c .top, .c .top, .c .top, .c .top, .c .top, .c .top, .c .top, .c .top, .c .top, .c .top, .c .top, .c .top, .c .top, .c .top, .c .top, .c .top, .c .top, .c .top, .c .top, .c .top, .c .top, .c .top, .c .top, .c .top, .c .top, .c .top, .c .top, .c .top, .c .top, .c .top, .c .top, .c .top, .c .top, .c .top, .c .top, .c .top, .c .top, .c .top, .c .top, .c .top, .c .top, .c .top, .c .top, .c .top, .c .top, .c .top, .c .top, .c .top, .c .top, .c .top, .c .top, .c .top, .c .top, .c .top, .c .top, .c .top, .c .top, .c .top, .c .top, .c .top, .c .top, .c .top, .c .top, .c .top, .c .top, .c .top, .c .top, .c .top, .c .top, .c .top, .c .top, .c .top, .c .top, .c .top, .c .top, .c .top, .c .top, .c .top, .c .top, .c .top, .c .top, .c .top, .c .top, .c .top, .c .top, .c .top, .c .top, .c .top, .c .top, .c .top, .c .top, .c .top, .c .top, .c .top, .c .top, .c .top, .c .top, .c .top, .c .top, .c .top, .c .top]) ∧ st = [] ∧ q + d = s) [true, true, false, false, false, false, true, false, true] s [] (by decide) (pinned_zero _) ⟨0, by rw [List.replicate_zero, List.append_nil]; (simp only [yE, Nat.reduceEqDiff, Nat.reduceAdd, reduceCtorEq]; try rfl), by (simp only [yE, Nat.reduceEqDiff, Nat.reduceAdd, reduceCtorEq]; try rfl), by omega⟩ ?_
    rintro d1 e st ⟨q, rfl, rfl, hd1⟩
    by_cases hq : q < s
    · have t2 : leI (s : Nat) (q : Nat) = false := leI_false (by omega)
      have w1 : wrapK .i64 ((q : Int) + 1) = ((q + 1 : Nat) : Int) := wrap_succ (by omega)
      have b2 : (upL i ++ [98, 58, 99] ++ List.replicate q 125).length + (strOf ⟨#[125]⟩).length ≤ 140737488355328 := by
        have : (strOf ⟨#[125]⟩).length = 1 := rfl
        simp; omega
      simp -implicitDefEqProofs only [↓yP, yT, Nat.reduceAdd, Nat.reduceMul, Nat.reduceSub, Nat.reduceLeDiff, Nat.reduceEqDiff, reduceCtorEq, Nat.reduceBEq, t2, xstr_add, strOf_mk, b2, w1]
      refine ⟨d1 - 1, [], by omega, by decide, pinned_zero _, q + 1, ?_, rfl, by omega⟩
      rw [List.replicate_succ', ← List.append_assoc]
      (simp only [yE, Nat.reduceEqDiff, Nat.reduceAdd, reduceCtorEq]; try rfl)
    · have t2 : leI (s : Nat) (q : Nat) = true := leI_true (by omega)
      obtain rfl : q = s := by omega
      have hdp := isDeep i q
      have hslen : (strOf (strMk (upL i ++ [98, 58, 99] ++ List.replicate q 125))).length = 2 * i + 3 + q := by rw [← sBytes_len, hdp.len]
      generalize strMk (upL i ++ [98, 58, 99] ++ List.replicate q 125) = str at hdp hslen ⊢
      have b3 : (strOf str).length ≤ 70368744177664 := by omega
      have hsl := sBytes_len str
      simp -implicitDefEqProofs only [↓yP, yT, Nat.reduceAdd, Nat.reduceMul, Nat.reduceSub, Nat.reduceLeDiff, Nat.reduceEqDiff, reduceCtorEq, Nat.reduceBEq, t2, b3, byteCells_eb]
      rw [← hsl]
      refine Rcall_give (give_bytes (sBytes str)) (css_spec (sBytes str) (by omega)) (by rfl) fun y hy => ?_
      obtain ⟨out, rfl, hc⟩ := hy
      have hsh := sheet_of hdp hc
      have hol := hsh.len
      simp -implicitDefEqProofs only [↓yP, yT, Nat.reduceAdd, Nat.reduceMul, Nat.reduceSub, Nat.reduceLeDiff, Nat.reduceEqDiff, reduceCtorEq, Nat.reduceBEq]
      refine Rcall_pure (parseP_spec out (by omega)) (by rfl) fun y hy => ?_
      subst hy
      obtain ⟨x, hx1, hx2⟩ := nodes_deep hsh hsn i 0 (by omega) out.length (by omega)
      rw [parse_same, parseD, show nodesD out (colonsTo out out.length) out.length 0 0 = _ from hx1]
      simp -implicitDefEqProofs only [↓yP, yT, Nat.reduceAdd, Nat.reduceMul, Nat.reduceSub, Nat.reduceLeDiff, Nat.reduceEqDiff, reduceCtorEq, Nat.reduceBEq]
      refine Rl_inv (fun d e st => ∃ (j m : Nat) (ns : List Nd), e = ([yd (.int .i64 (i : Nat)), yd (.int .i64 (q : Nat)), .c .top, .c .top, .c .top, .c .top, .c .top, .c .top, .c .top, .c (.p (rN ns)), yd (.int .i64 (j : Nat)), .c .top, .c .top, .c .top, .c .top, .c .top, .c .top, .c .top, .c .top, .c .top, .c .top, .c .top, .c .top, .c .top, .c .top, .c .top, .c .top, .c .top, .c .top, .c .top, .c .top, .c .top, .c .top, .c .top, .c .top, .c .top, .c .top, .c .top, .c .top, .c .top, .c .top, .c .top, .c .top, .c .top, .c .top, .c .top, .c .top, .c .top, .c .top, .c .top, .c .top, .c .top, .c .top, .c .top, .c .top, .c .top, .c .top, .c .top, .c .top, .c .top, .c .top, .c .top, .c .top, .c .top, .c .top, .c .top, .c .top, .c .top, .c .top, .c .top, .c .top, .c .top, .c .top, .c .top, .c .top, .c .top, .c .top, .c .top, .c .top, .c .top, .c .top, .c .top, .c .top, .c .top, .c .top, .c .top, .c .top, .c .top, .c .top, .c .top, .c .top, .c .top, .c .top, .c .top, .c .top, .c .top, .c .top, .c .top, .c .top, .c .top, .c .top, .c .top, .c .top, .c .top, .c .top, .c .top, .c .top, .c .top, .c .top, .c .top, .c .top, .c .top, .c .top, .c .top, .c .top, .c .top, .c .top, .c .top, .c .top, .c .top, .c .top, .c .top, .c .top, .c .top, .c .top, .c .top, .c .top]) ∧ st = [] ∧ m = d ∧ j + m = i ∧ Chain i q m ns) [true, true, false, false, false, false, false, false, false, true, true] i [] (by decide) (pinned_zero _) ⟨0, i, [x], by (simp only [yE, Nat.reduceEqDiff, Nat.reduceAdd, reduceCtorEq]; try rfl), by (simp only [yE, Nat.reduceEqDiff, Nat.reduceAdd, reduceCtorEq]; try rfl), rfl, by omega, hx2⟩ ?_
      rintro d2 e st ⟨j, m, ns, rfl, rfl, hm, hjm, hch⟩
      cases hch with
      | leaf hk =>
        rename_i k h t o r m a l
        have t3 : leI (i : Nat) (j : Nat) = true := leI_true (by omega)
        have e1 : eqI ((([k] : List Int).length : Nat) : Int) 1 = true := rfl
        have e0 : eqI ((1 : Nat) : Int) 1 = true := rfl
        have e0' : eqI 1 1 = true := rfl
        have e00 : eqI ((0 : Nat) : Int) 0 = true := rfl
        have e00' : eqI 0 0 = true := rfl
        have i00 : Int.toNat 0 = 0 := rfl
        have c0 : (0 : Int) ≤ 0 := by omega
        have hf : (eqI k 2 == !leI (i : Nat) 0) = true := by
          rw [eqI_eq, leI_eq, beq_iff_eq, Bool.eq_iff_iff]
          simp
          rw [hk]; omega
        simp -implicitDefEqProofs only [↓yP, yT, Nat.reduceAdd, Nat.reduceMul, Nat.reduceSub, Nat.reduceLeDiff, Nat.reduceEqDiff, reduceCtorEq, Nat.reduceBEq, t3, e0, e0', e00, e00', i00, c0, pc_mk, under4b', hf, nn]
      | rule hh hch' =>
        rename_i m h ks l
        have t3 : leI (i : Nat) (j : Nat) = false := leI_false (by omega)
        have w1 : wrapK .i64 ((j : Int) + 1) = ((j + 1 : Nat) : Int) := wrap_succ (by omega)
        have w2 : wrapK .i64 ((i : Int) - (j : Nat)) = ((i - j : Nat) : Int) := by rw [show (i : Int) - (j : Nat) = ((i - j : Nat) : Int) by omega]; exact wrap_nat (by omega)
        have w3 : wrapK .i64 (2 * (j : Int)) = ((2 * j : Nat) : Int) := by rw [show 2 * (j : Int) = ((2 * j : Nat) : Int) by omega]; exact wrap_nat (by omega)
        have w4 : wrapK .i64 (((2 * j : Nat) : Int) + 1) = ((2 * j + 1 : Nat) : Int) := wrap_succ (by omega)
        have e0 : eqI ((1 : Nat) : Int) 1 = true := rfl
        have e0' : eqI 1 1 = true := rfl
        have i00 : Int.toNat 0 = 0 := rfl
        have c0 : (0 : Int) ≤ 0 := by omega
        have eat : ((2 * (i - (m + 1)) + 1 : Nat) : Int) = ((2 * j + 1 : Nat) : Int) := by omega
        have eq1 := eqI_true ((2 * j + 1 : Nat) : Int)
        have hle : leI ((i - j : Nat) : Int) (q : Nat) = decide (m + 1 ≤ q) := by
          rw [leI_eq, Bool.eq_iff_iff]; simp; omega
        have hbb : (!(decide (m + 1 ≤ q) == decide (m + 1 ≤ q))) = false := by simp
        rw [eat]
        simp -implicitDefEqProofs only [↓yP, yT, Nat.reduceAdd, Nat.reduceMul, Nat.reduceSub, Nat.reduceLeDiff, Nat.reduceEqDiff, reduceCtorEq, Nat.reduceBEq, t3, e0, e0', i00, c0, pc_mk, under4b', w1, w2, w3, w4, eq1, hle, hbb, hh, nn]
        refine ⟨m, [], by omega, by decide, pinned_zero _, j + 1, m, ks, by (simp only [yE, Nat.reduceEqDiff, Nat.reduceAdd, reduceCtorEq]; try rfl), rfl, rfl, by omega, hch'⟩
end Go.Vx.Seat
end
/- A law of two numbers. -/
section
open Go Go.Vx Go.Proofs Go.RowKit
set_option linter.unusedVariables false
namespace Go.Vx.Seat
theorem ints_calls {f : FuncId} (ht : C1.told f = none) (hf : ∀ a b : Int, PCall C1 f [yd (.int .i64 a), yd (.int .i64 b)] fun y => y = yd (.bool true)) (a b : Int) (w : World) :
    Calls C1.P f #[.int .i64 a, .int .i64 b] w fun e w' => e = .returned (.bool true) ∧ Below w.heap.size w w' := by
  obtain ⟨n, v, h', hx, R', y, hy, hv, _⟩ := hf a b 0 (fun b => b < 0) ⟨0, []⟩ [.int .i64 a, .int .i64 b] (Nat.zero_le _) (fun b hb => hb) (L2.cons (show VRep [] (fun b => b < 0) ⟨0, []⟩ (yd (.int .i64 a)) (.int .i64 a) from PRep.d rfl) (L2.single (show VRep [] (fun b => b < 0) ⟨0, []⟩ (yd (.int .i64 b)) (.int .i64 b) from PRep.d rfl)))
  subst hy
  obtain rfl : v = .bool true := by cases hv; rfl
  exact law_dry good1 ht (fun v hv => by
    rcases List.mem_cons.mp hv with rfl | hv
    · rfl
    · rw [List.mem_singleton.mp hv]; rfl) hx w
end Go.Vx.Seat
end
