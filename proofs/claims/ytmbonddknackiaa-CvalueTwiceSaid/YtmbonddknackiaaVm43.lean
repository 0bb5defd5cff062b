/- Texts joined: VzP1 VzP2 VzT2 VzY3. -/
import Derived.Test.YtmbonddknackiaaVm38
import Derived.Test.YtmbonddknackiaaVm37
import Derived.Test.YtmbonddknackiaaVm41
import Derived.Test.YtmbonddknackiaaVyShift5
/- Colons and what tokens come to, told of the tokens ahead and behind alone: plain law. -/
section
open Go Go.Vx Go.Proofs
set_option linter.unusedSimpArgs false
set_option linter.unusedVariables false
namespace Go.Vx.Seat
def qt (t : Tok) : Bool := quiet t.kind
def nqt (t : Tok) : Bool := !quiet t.kind
/-- What is open behind tokens. -/
def op (l : List Tok) : List Int := l.foldl (fun o t => nestStep o t.kind) []
theorem op_snoc (l : List Tok) (t : Tok) : op (l ++ [t]) = nestStep (op l) t.kind := by simp [op]
theorem open_take (ts : List Tok) : ∀ i, i ≤ ts.length → openAt ts i = op (ts.take i)
  | 0, _ => rfl
  | i + 1, h => by
    obtain ⟨t, ht⟩ := get_lt (l := ts) (i := i) (by omega)
    rw [openAt_succ ht, open_take ts i (by omega), List.take_add_one, ht]
    exact (op_snoc _ _).symm
def AllShut (o : List Int) : Prop := ∀ k, k ∈ o → Shuts k
theorem AllShut.step {o : List Int} (h : AllShut o) (q : Int) : AllShut (nestStep o q) := by
  intro k hk
  unfold nestStep at hk
  split at hk
  · exact h k ((List.dropLast_sublist _).subset hk)
  · split at hk
    · rename_i hc
      rcases List.mem_append.mp hk with hk | hk
      · exact h k hk
      · rw [List.mem_singleton.mp hk]; exact closes_shuts hc
    · exact h k hk
theorem AllShut.nil : AllShut [] := fun k h => by simp at h
theorem fold_shut : ∀ (l : List Tok) {o : List Int}, AllShut o → AllShut (l.foldl (fun o t => nestStep o t.kind) o)
  | [], o, h => h
  | t :: l, o, h => fold_shut l (h.step t.kind)
theorem op_shut (l : List Tok) : AllShut (op l) := fold_shut l .nil
theorem last_quiet {o : List Int} (h : AllShut o) {q : Int} (hq : quiet q = true) : ¬ o.getLast? = some q := fun hl => by
  have h1 := h q (List.mem_of_getLast? hl)
  simp only [quiet, Bool.or_eq_true, decide_eq_true_eq] at hq
  unfold Shuts at h1
  omega
theorem closes_quiet {q : Int} (hq : quiet q = true) : closes q = 0 := by
  simp only [quiet, Bool.or_eq_true, decide_eq_true_eq] at hq
  unfold closes
  rw [if_neg (by omega), if_neg (by omega), if_neg (by omega)]
theorem nest_quiet {o : List Int} (h : AllShut o) {q : Int} (hq : quiet q = true) : nestStep o q = o := by
  rw [nestStep, if_neg (last_quiet h hq), closes_quiet hq]; rfl
theorem op_nq : ∀ (l : List Tok) {o : List Int}, AllShut o → (l.filter nqt).foldl (fun o t => nestStep o t.kind) o = l.foldl (fun o t => nestStep o t.kind) o
  | [], o, h => rfl
  | t :: l, o, h => by
    cases hq : quiet t.kind with
    | true =>
      rw [List.filter_cons_of_neg (by simp [nqt, hq]), List.foldl_cons, nest_quiet h hq]
      exact op_nq l h
    | false =>
      rw [List.filter_cons_of_pos (by simp [nqt, hq]), List.foldl_cons, List.foldl_cons]
      exact op_nq l (h.step _)
theorem op_filter (l : List Tok) : op (l.filter nqt) = op l := op_nq l .nil
/-! ### How many tokens there are since the last part -/
def st3 (s : List Int × Nat × Bool) (t : Tok) : List Int × Nat × Bool :=
  (nestStep s.1 t.kind, if quiet t.kind = true then s.2 else if partK t.kind = true ∧ (plOf s.1 t.kind).2.1 = true then (0, s.2.2) else (s.2.1 + 1, decide (t.kind = 1)))
def sn3 (l : List Tok) : List Int × Nat × Bool := l.foldl st3 ([], 0, false)
theorem sn3_snoc (l : List Tok) (t : Tok) : sn3 (l ++ [t]) = st3 (sn3 l) t := by simp [sn3]
theorem sn3_op (l : List Tok) : (sn3 l).1 = op l := by
  have key : ∀ (l : List Tok) (s : List Int × Nat × Bool), (l.foldl st3 s).1 = l.foldl (fun o t => nestStep o t.kind) s.1 := by
    intro l
    induction l with
    | nil => intro s; rfl
    | cons t l ih => intro s; rw [List.foldl_cons, List.foldl_cons, ih]; rfl
  exact key l _
theorem since_take (ts : List Tok) : ∀ i, i ≤ ts.length → since ts i = (sn3 (ts.take i)).2
  | 0, _ => rfl
  | i + 1, h => by
    obtain ⟨t, ht⟩ := get_lt (l := ts) (i := i) (by omega)
    have hk := kindAt_some ht
    have hpl : pl ts i = plOf (op (ts.take i)) t.kind := by rw [pl, hk, open_take ts i (by omega)]
    rw [since, List.take_add_one, ht, hk, hpl, since_take ts i (by omega)]
    show _ = (sn3 (ts.take i ++ [t])).2
    rw [sn3_snoc, st3, sn3_op]
theorem sn3_nq : ∀ (l : List Tok) {s : List Int × Nat × Bool}, AllShut s.1 → (l.filter nqt).foldl st3 s = l.foldl st3 s
  | [], s, h => rfl
  | t :: l, s, h => by
    cases hq : quiet t.kind with
    | true =>
      rw [List.filter_cons_of_neg (by simp [nqt, hq]), List.foldl_cons]
      have : st3 s t = s := by rw [st3, nest_quiet h hq, if_pos hq]
      rw [this]
      exact sn3_nq l h
    | false =>
      rw [List.filter_cons_of_pos (by simp [nqt, hq]), List.foldl_cons, List.foldl_cons]
      exact sn3_nq l (h.step _)
theorem sn3_filter (l : List Tok) : sn3 (l.filter nqt) = sn3 l := sn3_nq l .nil
/-! ### What is behind -/
def plainS (o : List Int) (D : Nat) : List Tok → Bool
  | [] => true
  | t :: r => if (plOf o t.kind).1 < D then true else if (plOf o t.kind).1 = D ∧ partK t.kind = true then !decide (t.kind = 19) else plainS (nestStep o t.kind) D r
theorem drop_at {ts : List Tok} {i : Nat} {t : Tok} (ht : ts[i]? = some t) : ts.drop i = t :: ts.drop (i + 1) := by
  obtain ⟨h1, h2⟩ := List.getElem?_eq_some_iff.mp ht
  rw [List.drop_eq_getElem_cons h1, h2]
theorem plain_drop (ts : List Tok) (i : Nat) : ∀ d k, k + d = ts.length → plainFrom ts i d k = plainS (openAt ts k) (pl ts i).1 (ts.drop k)
  | 0, k, h => by rw [plainFrom, List.drop_eq_nil_of_le (by omega)]; rfl
  | d + 1, k, h => by
    obtain ⟨t, ht⟩ := get_lt (l := ts) (i := k) (by omega)
    have hk := kindAt_some ht
    rw [plainFrom, plain_drop ts i d (k + 1) (by omega), drop_at ht, plainS, openAt_succ ht, hk]
    have hpl : pl ts k = plOf (openAt ts k) t.kind := by rw [pl, hk]
    rw [hpl]
theorem plOf_le (o : List Int) (k : Int) : (plOf o k).1 ≤ o.length := by
  unfold plOf
  simp only
  split
  · simp
  · exact Nat.le_refl _
theorem plain_low {o : List Int} {D : Nat} (h : o.length < D) : ∀ l, plainS o D l = true
  | [] => rfl
  | t :: r => by rw [plainS, if_pos (by have := plOf_le o t.kind; omega)]
theorem plain_nq : ∀ (l : List Tok) {o : List Int} {D : Nat}, AllShut o → plainS o D (l.filter nqt) = plainS o D l
  | [], o, D, h => rfl
  | t :: l, o, D, h => by
    cases hq : quiet t.kind with
    | true =>
      rw [List.filter_cons_of_neg (by simp [nqt, hq]), plainS]
      have h1 : (plOf o t.kind).1 = o.length := by simp [plOf, last_quiet h hq]
      have h2 : partK t.kind = false := by
        simp only [quiet, Bool.or_eq_true, decide_eq_true_eq] at hq
        rcases hq with hq | hq <;> rw [hq] <;> rfl
      rw [h1, h2, nest_quiet h hq]
      by_cases h3 : o.length < D
      · rw [if_pos h3, plain_low h3]
      · rw [if_neg h3, if_neg (by simp)]
        exact plain_nq l h
    | false =>
      rw [List.filter_cons_of_pos (by simp [nqt, hq]), plainS, plainS, plain_nq l (h.step _)]
/-- Is a token a declaration's colon, behind these and ahead of those? -/
def colonAt (pre : List Tok) (t : Tok) (post : List Tok) : Bool :=
  decide (t.kind = 16) && (plOf (op pre) t.kind).2.1 && decide (0 < (plOf (op pre) t.kind).1) && decide ((sn3 pre).2.1 = 1) && (sn3 pre).2.2 && plainS (nestStep (op pre) t.kind) (plOf (op pre) t.kind).1 post
theorem colon_at {ts : List Tok} {i : Nat} {t : Tok} (ht : ts[i]? = some t) : isColon ts i = colonAt (ts.take i) t (ts.drop (i + 1)) := by
  have hi := (List.getElem?_eq_some_iff.mp ht).1
  have hk := kindAt_some ht
  have hpl : pl ts i = plOf (op (ts.take i)) t.kind := by rw [pl, hk, open_take ts i (by omega)]
  rw [isColon, colonAt, hk, since_take ts i (by omega), plainAt, plain_drop ts i _ _ (by omega), hpl, openAt_succ ht, open_take ts i (by omega)]
theorem colon_nq (pre post : List Tok) (t : Tok) : colonAt (pre.filter nqt) t (post.filter nqt) = colonAt pre t post := by
  rw [colonAt, colonAt, op_filter, sn3_filter, plain_nq post ((op_shut pre).step t.kind)]
theorem colon_congr {pre pre' post post' : List Tok} {t : Tok} (h1 : pre.filter nqt = pre'.filter nqt) (h2 : post.filter nqt = post'.filter nqt) : colonAt pre t post = colonAt pre' t post' := by
  rw [← colon_nq pre, ← colon_nq pre', h1, h2]
/-! ### What tokens come to -/
def lineL (pre : List Tok) : Bool := match pre.getLast? with | some t => lineB t | none => false
def goB (pre post : List Tok) : Bool := match pre.getLast? with | some t => opens7 t.kind || colonAt pre.dropLast t post | none => true
def goA (pre : List Tok) : List Tok → Bool
  | [] => true
  | u :: r => shuts6 u.kind || colonAt pre u r
def isSp (t : Tok) : Bool := eqI t.kind 13
def runR (pre run rest : List Tok) : List Tok := match run.find? isSp with
  | none => run.filter kp
  | some s => if lineL pre then blankTok ⟨#[10]⟩ s.start :: run.filter kp else if goB pre (run ++ rest) || goA (pre ++ run) rest then run.filter kp else run.filter kp ++ [blankTok ⟨#[32]⟩ s.start]
def valL (pre suf : List Tok) : List Tok := match suf with
  | [] => []
  | t :: r => if quiet t.kind = true then runR pre (t :: r.takeWhile qt) (r.dropWhile qt) ++ valL (pre ++ (t :: r.takeWhile qt)) (r.dropWhile qt) else t :: valL (pre ++ [t]) r
termination_by suf.length
decreasing_by
  · have := (List.dropWhile_sublist (l := r) qt).length_le
    simp; omega
  · simp
theorem valL_nil (pre : List Tok) : valL pre [] = [] := by rw [valL]
theorem valL_one (pre : List Tok) {t : Tok} (r : List Tok) (h : quiet t.kind = false) : valL pre (t :: r) = t :: valL (pre ++ [t]) r := by rw [valL, if_neg (by rw [h]; simp)]
/-- A run, and what does not begin with more of it. -/
theorem valL_run (pre : List Tok) {run rest : List Tok} (hr : run ≠ []) (hq : ∀ t, t ∈ run → quiet t.kind = true) (hn : ∀ u r, rest = u :: r → quiet u.kind = false) : valL pre (run ++ rest) = runR pre run rest ++ valL (pre ++ run) rest := by
  cases run with
  | nil => exact absurd rfl hr
  | cons t run =>
    have h1 : (run ++ rest).takeWhile qt = run := by
      rw [List.takeWhile_append_of_pos (p := qt) (fun a ha => hq a (List.mem_cons_of_mem _ ha))]
      cases rest with
      | nil => simp
      | cons u r => rw [List.takeWhile_cons_of_neg (by simp [qt, hn u r rfl])]; simp
    have h2 : (run ++ rest).dropWhile qt = rest := by
      rw [List.dropWhile_append_of_pos (p := qt) (fun a ha => hq a (List.mem_cons_of_mem _ ha))]
      cases rest with
      | nil => rfl
      | cons u r => rw [List.dropWhile_cons_of_neg (by simp [qt, hn u r rfl])]
    rw [List.cons_append, valL, if_pos (hq t (List.mem_cons_self ..)), h1, h2]
end Go.Vx.Seat
end
/- What tokens come to comes to itself: plain law. -/
section
open Go Go.Vx Go.Proofs
set_option linter.unusedSimpArgs false
set_option linter.unusedVariables false
namespace Go.Vx.Seat
/-- Tokens fall into such a run and what does not begin with more of it. -/
theorem run_cut (l : List Tok) : ∃ run rest, l = run ++ rest ∧ (∀ t, t ∈ run → quiet t.kind = true) ∧ (∀ u r, rest = u :: r → quiet u.kind = false) :=
  ⟨l.takeWhile qt, l.dropWhile qt, (List.takeWhile_append_dropWhile).symm, fun t ht => by
    induction l with
    | nil => simp at ht
    | cons a l ih =>
      by_cases ha : qt a
      · rw [List.takeWhile_cons_of_pos ha] at ht
        rcases List.mem_cons.mp ht with rfl | ht
        · exact ha
        · exact ih ht
      · rw [List.takeWhile_cons_of_neg ha] at ht; simp at ht, fun u r he => by
    induction l with
    | nil => cases he
    | cons a l ih =>
      by_cases ha : qt a
      · rw [List.dropWhile_cons_of_pos ha] at he; exact ih he
      · rw [List.dropWhile_cons_of_neg ha] at he; cases he; simpa [qt] using ha⟩
theorem blank_quiet (s : ByteArray) (f : Int) : quiet (blankTok s f).kind = true := rfl
theorem kp_q {t : Tok} (h : kp t = true) : quiet t.kind = true := by
  simp only [kp, Bool.and_eq_true, eqI_eq, decide_eq_true_eq] at h
  rw [h.1]; rfl
theorem kept_q (run : List Tok) : ∀ t, t ∈ run.filter kp → quiet t.kind = true := fun t ht => kp_q (List.mem_filter.mp ht).2
theorem out_q (pre run rest : List Tok) : ∀ t, t ∈ runR pre run rest → quiet t.kind = true := by
  intro t ht
  have h1 := kept_q run t
  unfold runR at ht
  split at ht
  · exact h1 ht
  · split at ht
    · rcases List.mem_cons.mp ht with rfl | ht
      · rfl
      · exact h1 ht
    · split at ht
      · exact h1 ht
      · rcases List.mem_append.mp ht with ht | ht
        · exact h1 ht
        · rw [List.mem_singleton.mp ht]; rfl
theorem filter_q {l : List Tok} (h : ∀ t, t ∈ l → quiet t.kind = true) : l.filter nqt = [] := by
  rw [List.filter_eq_nil_iff]; intro t ht; simp [nqt, h t ht]
theorem valL_nq : ∀ (n : Nat) (pre suf : List Tok), suf.length ≤ n → (valL pre suf).filter nqt = suf.filter nqt
  | n, pre, [], h => by rw [valL_nil]
  | 0, pre, t :: suf, h => by simp at h
  | n + 1, pre, t :: suf, h => by
    cases hq : quiet t.kind with
    | false =>
      rw [valL_one pre suf hq, List.filter_cons, List.filter_cons, valL_nq n _ suf (by simpa using h)]
    | true =>
      obtain ⟨run, rest, e, h1, h2⟩ := run_cut suf
      have e' : t :: suf = (t :: run) ++ rest := by rw [e]; rfl
      have hall : ∀ u, u ∈ t :: run → quiet u.kind = true := fun u hu => by rcases List.mem_cons.mp hu with rfl | hu; exact hq; exact h1 u hu
      rw [e', valL_run pre (by simp) hall h2, List.filter_append, List.filter_append, filter_q (out_q _ _ _), filter_q hall, valL_nq n _ rest (by rw [e] at h; simp at h ⊢; omega)]
theorem find_kept (run : List Tok) : (run.filter kp).find? isSp = none := by
  rw [List.find?_eq_none]
  intro t ht
  have := (List.mem_filter.mp ht).2
  simp only [kp, Bool.and_eq_true, eqI_eq, decide_eq_true_eq] at this
  simp [isSp, eqI_eq, this.1]
theorem last_cases (l : List Tok) : l = [] ∨ ∃ p t, l = p ++ [t] := by
  rcases List.eq_nil_or_concat l with h | ⟨p, t, h⟩
  · exact .inl h
  · exact .inr ⟨p, t, by simpa using h⟩
/-- The same behind what is alike. -/
theorem runR_same {pre pre' run rest W : List Tok} (hf : pre.filter nqt = pre'.filter nqt) (hl : pre.getLast? = pre'.getLast?) (hq : ∀ t, t ∈ run → quiet t.kind = true) (hW : W.filter nqt = rest.filter nqt)
    (hh : (W = [] ∧ rest = []) ∨ ∃ u r r', W = u :: r' ∧ rest = u :: r ∧ quiet u.kind = false) : runR pre' (runR pre run rest) W = runR pre run rest := by
  have hoq := out_q pre run rest
  have h1 : lineL pre' = lineL pre := by rw [lineL, lineL, hl]
  have h2 : goB pre' (runR pre run rest ++ W) = goB pre (run ++ rest) := by
    unfold goB
    rw [← hl]
    rcases last_cases pre with rfl | ⟨p, t, rfl⟩
    · simp
    · rcases last_cases pre' with rfl | ⟨p', t', rfl⟩
      · simp at hl
      · have ht : t = t' := by simpa using hl
        subst ht
        have hp : p.filter nqt = p'.filter nqt := by
          rw [List.filter_append, List.filter_append] at hf
          exact List.append_cancel_right hf
        simp only [List.getLast?_append, List.getLast?_singleton, Option.some_or, List.dropLast_concat]
        rw [colon_congr hp.symm]
        rw [List.filter_append, List.filter_append, filter_q hoq, filter_q hq, hW]
  have h3 : goA (pre' ++ runR pre run rest) W = goA (pre ++ run) rest := by
    rcases hh with ⟨rfl, rfl⟩ | ⟨u, r, r', rfl, rfl, hu⟩
    · rfl
    · simp only [goA]
      rw [colon_congr (pre := pre' ++ runR pre run (u :: r)) (pre' := pre ++ run)]
      · rw [List.filter_append, List.filter_append, filter_q hoq, filter_q hq, hf]
      · rw [List.filter_cons_of_pos (by simp [nqt, hu]), List.filter_cons_of_pos (by simp [nqt, hu])] at hW
        simpa using hW
  generalize hout : runR pre run rest = out at *
  have hkk : (run.filter kp).filter kp = run.filter kp := by rw [List.filter_filter]; simp
  have hb : ∀ s f, kp (blankTok s f) = false := fun s f => rfl
  have hs : ∀ s f, isSp (blankTok s f) = true := fun s f => rfl
  unfold runR at hout
  split at hout
  · rw [← hout, runR, find_kept]; exact hkk
  · rename_i s hsp
    split at hout
    · rename_i hline
      rw [runR, ← hout, List.find?_cons_of_pos (hs _ _)]
      simp only
      rw [if_pos (by rw [h1]; exact hline), List.filter_cons_of_neg (by rw [hb]; simp), hkk]
      rfl
    · rename_i hline
      split at hout
      · rw [← hout, runR, find_kept]; exact hkk
      · rename_i hgo
        rw [← hout] at h2 h3 ⊢
        rw [runR, List.find?_append, find_kept, List.find?_cons_of_pos (hs _ _)]
        simp only [Option.none_or]
        rw [if_neg (by rw [h1]; exact hline), if_neg (by rw [h2, h3]; exact hgo), List.filter_append, hkk, List.filter_cons_of_neg (by rw [hb]; simp)]
        simp [blankTok]
theorem valL_idem : ∀ (n : Nat) (pre pre' suf : List Tok), suf.length ≤ n → pre.filter nqt = pre'.filter nqt → (∀ t r, suf = t :: r → quiet t.kind = true → pre.getLast? = pre'.getLast?) → valL pre' (valL pre suf) = valL pre suf
  | n, pre, pre', [], h, hf, hl => by rw [valL_nil, valL_nil]
  | 0, pre, pre', t :: suf, h, hf, hl => by simp at h
  | n + 1, pre, pre', t :: suf, h, hf, hl => by
    cases hq : quiet t.kind with
    | false =>
      rw [valL_one pre suf hq, valL_one pre' _ hq, valL_idem n (pre ++ [t]) (pre' ++ [t]) suf (by simpa using h) (by rw [List.filter_append, List.filter_append, hf]) (fun _ _ _ _ => by simp)]
    | true =>
      have hlast := hl t suf rfl hq
      obtain ⟨run, rest, e, h1, h2⟩ := run_cut suf
      have e' : t :: suf = (t :: run) ++ rest := by rw [e]; rfl
      have hall : ∀ u, u ∈ t :: run → quiet u.kind = true := fun u hu => by rcases List.mem_cons.mp hu with rfl | hu; exact hq; exact h1 u hu
      have hlen : rest.length ≤ n := by rw [e] at h; simp at h ⊢; omega
      rw [e', valL_run pre (by simp) hall h2]
      generalize hrun : t :: run = run1 at hall
      have hW := valL_nq n (pre ++ run1) rest hlen
      have hhead : (valL (pre ++ run1) rest = [] ∧ rest = []) ∨ ∃ u r r', valL (pre ++ run1) rest = u :: r' ∧ rest = u :: r ∧ quiet u.kind = false := by
        cases rest with
        | nil => exact .inl ⟨valL_nil _, rfl⟩
        | cons u r => exact .inr ⟨u, r, _, valL_one _ r (h2 u r rfl), rfl, h2 u r rfl⟩
      have hsame := runR_same (run := run1) hf hlast hall hW hhead
      have hfo : ∀ out : List Tok, (∀ t, t ∈ out → quiet t.kind = true) → (pre ++ run1).filter nqt = (pre' ++ out).filter nqt := fun out ho => by
        rw [List.filter_append, List.filter_append, filter_q hall, filter_q ho, hf]
      have hoq := out_q pre run1 rest
      generalize runR pre run1 rest = out at hsame hoq
      have hih := valL_idem n (pre ++ run1) (pre' ++ out) rest hlen (hfo out hoq) (fun u r he hqu => by rw [h2 u r he] at hqu; cases hqu)
      cases out with
      | nil =>
        rw [List.append_nil] at hih
        rw [List.nil_append, hih]
      | cons o os =>
        rw [valL_run pre' (by simp) hoq (fun u r he => by
          rcases hhead with ⟨hw, _⟩ | ⟨u', r', r'', hw, _, hu⟩
          · rw [hw] at he; cases he
          · rw [hw] at he; cases he; exact hu), hsame, hih]
/-! ### By places -/
theorem space_find (ts : List Tok) (i : Nat) : ∀ m, (match spaceN ts i m with | none => ((ts.drop i).take m).find? isSp = none | some n => ∃ t, ts[n]? = some t ∧ ((ts.drop i).take m).find? isSp = some t)
  | 0 => by simp [spaceN]
  | m + 1 => by
    have ih := space_find ts i m
    have hd : (ts.drop i).take (m + 1) = (ts.drop i).take m ++ (ts[i + m]?).toList := by rw [List.take_add_one, List.getElem?_drop]
    rw [spaceN, hd, List.find?_append]
    cases hs : spaceN ts i m with
    | some n =>
      rw [hs] at ih
      obtain ⟨t, h1, h2⟩ := ih
      simp only
      exact ⟨t, h1, by rw [h2]; rfl⟩
    | none =>
      rw [hs] at ih
      simp only at ih ⊢
      rw [ih]
      cases ht : ts[i + m]? with
      | none => simp
      | some t =>
        cases hk : eqI t.kind 13 with
        | true => simp [isSp, hk, ht]
        | false => simp [isSp, hk]
theorem line_take (ts : List Tok) : ∀ i, i ≤ ts.length → lineAt ts i = lineL (ts.take i)
  | 0, _ => rfl
  | i + 1, h => by
    obtain ⟨t, ht⟩ := get_lt (l := ts) (i := i) (by omega)
    rw [lineAt, lineL, List.take_add_one, ht]
    simp
theorem contains_colon {ts : List Tok} {j : Nat} (hj : j < ts.length) : (colonsP ts ts.length).contains ((j : Nat) : Int) = isColon ts j := by
  rw [Bool.eq_iff_iff, List.contains_iff_mem, colonsP, List.mem_map]
  constructor
  · rintro ⟨a, ha, e⟩
    have : a = j := by omega
    subst this
    exact (List.mem_filter.mp ha).2
  · intro h
    exact ⟨j, List.mem_filter.mpr ⟨by simpa using hj, h⟩, rfl⟩
theorem bef_take (ts : List Tok) : ∀ i, i ≤ ts.length → goBef ts (colonsP ts ts.length) i = goB (ts.take i) (ts.drop i)
  | 0, _ => rfl
  | i + 1, h => by
    obtain ⟨t, ht⟩ := get_lt (l := ts) (i := i) (by omega)
    have hd : (ts.take (i + 1)).dropLast = ts.take i := by rw [List.take_add_one, ht]; simp
    have hg : (ts.take (i + 1)).getLast? = some t := by rw [List.take_add_one, ht]; simp
    rw [goBef, befB, ht, goB, hg]
    simp only
    rw [contains_colon (by omega), colon_at ht, hd]
theorem aft_drop (ts : List Tok) (k : Nat) : aftB ts (colonsP ts ts.length) k = goA (ts.take k) (ts.drop k) := by
  cases hk : ts[k]? with
  | none => rw [aftB, hk, List.drop_eq_nil_of_le (by simpa using hk)]; rfl
  | some t => rw [aftB, hk, drop_at hk]; simp only [goA]; rw [contains_colon (List.getElem?_eq_some_iff.mp hk).1, colon_at hk]
theorem run_take (ts : List Tok) {i m : Nat} (h : i + m ≤ ts.length) : runOut ts (colonsP ts ts.length) i (i + m) = runR (ts.take i) ((ts.drop i).take m) (ts.drop (i + m)) := by
  have h1 := space_find ts i m
  have hta : ts.take i ++ (ts.drop i).take m = ts.take (i + m) := by rw [List.take_add]
  have htb : (ts.drop i).take m ++ ts.drop (i + m) = ts.drop i := by rw [← List.drop_drop, List.take_append_drop]
  rw [runOut, runR, Nat.add_sub_cancel_left, kept_eq]
  cases hs : spaceN ts i m with
  | none => rw [hs] at h1; rw [h1]
  | some n =>
    rw [hs] at h1
    obtain ⟨t, h2, h3⟩ := h1
    have hf : fromAt ts n = t.start := by rw [fromAt, h2]
    rw [h3]
    simp only [hf, line_take ts i (by omega), bef_take ts i (by omega), aft_drop ts (i + m), hta, htb]
theorem val_take (ts : List Tok) : ∀ (n i : Nat), ts.length - i ≤ n → valF ts (colonsP ts ts.length) i = valL (ts.take i) (ts.drop i)
  | 0, i, h => by rw [valF_end (by omega), List.drop_eq_nil_of_le (by omega), valL_nil]
  | n + 1, i, h => by
    by_cases hi : i < ts.length
    · obtain ⟨t, ht⟩ := get_lt hi
      have htk : ts.take (i + 1) = ts.take i ++ [t] := by rw [List.take_add_one, ht]; rfl
      cases hq : quiet t.kind with
      | false => rw [valF_one ht hq, drop_at ht, valL_one _ _ hq, val_take ts n (i + 1) (by omega), htk]
      | true =>
        obtain ⟨run, rest, e, h1, h2⟩ := run_cut (ts.drop i)
        have hrn : run ≠ [] := by
          intro hr; rw [hr, List.nil_append] at e
          have := h2 t (ts.drop (i + 1)) (by rw [← e, drop_at ht])
          rw [hq] at this; cases this
        have hm : 0 < run.length := List.length_pos_iff.mpr hrn
        have hlen : i + run.length + rest.length = ts.length := by
          have := congrArg List.length e
          simp at this; omega
        have hrun : (ts.drop i).take run.length = run := by rw [e]; simp
        have hrest : ts.drop (i + run.length) = rest := by rw [← List.drop_drop, e]; simp
        have hkq : ∀ j, j < run.length → quiet (kindAt ts (i + j)) = true := fun j hj => by
          obtain ⟨u, hu⟩ := get_lt hj
          have h3 : (ts.drop i)[j]? = some u := by rw [e, List.getElem?_append_left hj]; exact hu
          rw [List.getElem?_drop] at h3
          rw [kindAt_some h3]; exact h1 u (List.mem_of_getElem? hu)
        have hend : i + run.length = ts.length ∨ quiet (kindAt ts (i + run.length)) = false := by
          cases hre : rest with
          | nil => rw [hre] at hlen; exact .inl (by simpa using hlen)
          | cons u r =>
            right
            have h3 : ts[i + run.length]? = some u := by
              have : (ts.drop (i + run.length))[0]? = some u := by rw [hrest, hre]; rfl
              rw [List.getElem?_drop] at this; simpa using this
            rw [kindAt_some h3]; exact h2 u r hre
        rw [valF_run hm (by omega) hkq hend, val_take ts n _ (by omega), run_take ts (by omega), hrun, hrest, e, valL_run _ hrn h1 h2]
        congr 2
        rw [List.take_add, hrun]
    · rw [valF_end (by omega), List.drop_eq_nil_of_le (by omega), valL_nil]
theorem of_valL (ts : List Tok) : ofP ts = valL [] ts := by rw [ofP, val_take ts ts.length 0 (by omega)]; rfl
theorem of_idem (ts : List Tok) : ofP (ofP ts) = ofP ts := by
  rw [of_valL, of_valL]
  exact valL_idem ts.length [] [] ts (Nat.le_refl _) rfl (fun _ _ _ _ => rfl)
end Go.Vx.Seat
end
/- The told functions do not look at where their blocks are. -/
section
open Go Go.Vx Go.Proofs
set_option linter.unusedVariables false
namespace Go.Vx.Seat
section
variable {k : Nat} {g h h' : H}
theorem ins_sh {lo lo' : Nat} {args args' : List Value} {v : Value} {h1 : H} (hx : insG lo args h = some (v, h1)) (hlo : lo' ≤ lo + k) (ha : L2 (ShV k) args args') (hh : ShH k g h h') :
    ∃ v' h1', insG lo' args' h' = some (v', h1') ∧ ShV k v v' ∧ ShH k g h1 h1' := by
  unfold insG at hx
  split at hx
  · rename_i i ax sx
    match args', ha.1, ha with
    | [x, y, z], _, ha =>
      obtain ⟨_, _, rfl⟩ := (ha.2 0 _ _ rfl rfl).nilE
      have e2 := (ha.2 1 _ _ rfl rfl).dryE rfl
      have h3 : ShV k (.slice (some ax) 1 sx) z := ha.2 2 _ _ rfl rfl
      have e3 := h3.slcE
      subst e2; subst e3
      split at hx
      · rename_i hi
        obtain ⟨v', h1', k1, k2, k3⟩ := append_sh (P := Try.prog) (t := 22) (xt := 22) hh hlo (.of_dry (v := .slice none 0 0) rfl) h3 v h1 hx
        exact ⟨v', h1', by simp only [insG]; rw [if_pos hi]; exact k1, k2, k3⟩
      · cases hx
  · rename_i a n s i ax sx
    match args', ha.1, ha with
    | [x, y, z], _, ha =>
      have e1 := (ha.2 0 _ _ rfl rfl).slcE
      have e2 := (ha.2 1 _ _ rfl rfl).dryE rfl
      have e3 := (show ShV k (.slice (some ax) 1 sx) z from ha.2 2 _ _ rfl rfl).slcE
      subst e1; subst e2; subst e3
      simp only [H.getK_eq] at hx
      split at hx
      · rename_i b bx hg hgx
        obtain ⟨cs, k1, k2⟩ := hh.getE hg
        obtain ⟨cx, k3, k4⟩ := hh.getE hgx
        split at hx
        · rename_i hc
          cases hx
          obtain ⟨c1, c2, c3, c4, c5, c6, c7, c8, c9, c10, c11⟩ := hc
          refine ⟨_, _, ?_, ShV.new hh 0 _ _, (hh.kill hg).push (((k4.drop _).take _).append ((k2.drop _).take _))⟩
          unfold insG
          simp only [H.getK_eq, shA, k1, k3]
          exact if_pos ⟨c1, c2, c3, c4, c5, c6, by omega, c8, by omega, by rw [← k2.1]; exact c10, by rw [← k4.1]; exact c11⟩
        · cases hx
      · cases hx
  · cases hx
end
theorem toldSh1 : ToldSh C1 := by
  intro f tg ht k g lo lo' args args' h h' v h1 hx hlo ha hh
  have ht' : (if f = 61 then some insG else if f = 35 then some contG else if f = 8 then some (tell0 (.bool true)) else C0.told f) = some tg := ht
  split at ht'
  · cases ht'; exact ins_sh hx hlo ha hh
  · split at ht'
    · cases ht'
      unfold contG at hx
      split at hx
      · split at hx
        · rename_i s t hs
          cases hx
          match args', ha.1, ha with
          | [x, y], _, ha =>
            have e1 := (ha.2 0 _ _ rfl rfl).dryE rfl
            have e2 := (ha.2 1 _ _ rfl rfl).dryE rfl
            subst e1; subst e2
            exact ⟨_, h', by simp only [contG, if_pos hs], .of_dry rfl, hh⟩
        · cases hx
      · cases hx
    · split at ht'
      · cases ht'
        unfold tell0 at hx
        cases args with
        | nil =>
          have : args' = [] := List.eq_nil_of_length_eq_zero ha.1.symm
          subst this
          cases hx
          exact ⟨_, h', rfl, .of_dry rfl, hh⟩
        | cons a l => cases hx
      · have h0 : C0.told f = if f = 0 then some (fun _ _ _ => none) else none := rfl
        rw [h0] at ht'
        split at ht'
        · cases ht'; cases hx
        · cases ht'
end Go.Vx.Seat
end
/- CvalueTwice: the walk. -/
section
open Go Go.Vx Go.Proofs
set_option linter.unusedSimpArgs false
set_option linter.unusedVariables false
set_option maxRecDepth 20000
set_option maxHeartbeats 4000000
namespace Go.Vx.Seat
attribute [local congr] Rg_at Rt_at Ro_at Ri_at Rc_at Rto_at Rtk_at Rtf_at Rti_at
attribute [local irreducible] Rg Rt Ro Ri Rc Rto Rtk Rtf Rti Rw Rl Rd Rcall Rtcall kf
theorem fn4 : nth C1.P.funcs.toList 4 = some Try.f4 := by kernel_rfl
/-- The tokens of a text: one row, whenever they are read. -/
theorem split_det (s : ByteArray) (hs : (strOf s).length ≤ 100000) : ∃ ts : List Tok, PCall C1 19 [yd (.string s)] (fun y => y = .c (.p (rT ts))) ∧ ts.length ≤ (strOf s).length ∧ ∀ t, t ∈ ts → (strOf t.text).length ≤ 4 * (strOf s).length := by
  obtain ⟨y, ⟨ts, rfl, h1, h2⟩, h3⟩ := (split_spec s hs).det good1 toldSh1 rfl
  exact ⟨ts, h3, h1, h2⟩
theorem run_mem {pre run rest : List Tok} {t : Tok} (h : t ∈ runR pre run rest) : t ∈ run ∨ (strOf t.text).length = 1 := by
  have h1 : t ∈ run.filter kp → t ∈ run := fun h => (List.mem_filter.mp h).1
  unfold runR at h
  split at h
  · exact .inl (h1 h)
  · split at h
    · rcases List.mem_cons.mp h with rfl | h
      · exact .inr rfl
      · exact .inl (h1 h)
    · split at h
      · exact .inl (h1 h)
      · rcases List.mem_append.mp h with h | h
        · exact .inl (h1 h)
        · rw [List.mem_singleton.mp h]; exact .inr rfl
theorem val_mem : ∀ (n : Nat) (pre suf : List Tok), suf.length ≤ n → ∀ t, t ∈ valL pre suf → t ∈ suf ∨ (strOf t.text).length = 1
  | n, pre, [], h, t, ht => by rw [valL_nil] at ht; simp at ht
  | 0, pre, u :: suf, h, t, ht => by simp at h
  | n + 1, pre, u :: suf, h, t, ht => by
    cases hq : quiet u.kind with
    | false =>
      rw [valL_one pre suf hq] at ht
      rcases List.mem_cons.mp ht with rfl | ht
      · exact .inl (List.mem_cons_self ..)
      · exact (val_mem n _ suf (by simpa using h) t ht).imp (List.mem_cons_of_mem _) id
    | true =>
      obtain ⟨run, rest, e, h1, h2⟩ := run_cut suf
      have e' : u :: suf = (u :: run) ++ rest := by rw [e]; rfl
      have hall : ∀ w, w ∈ u :: run → quiet w.kind = true := fun w hw => by rcases List.mem_cons.mp hw with rfl | hw; exact hq; exact h1 w hw
      rw [e', valL_run pre (by simp) hall h2] at ht
      rw [e']
      rcases List.mem_append.mp ht with ht | ht
      · exact (run_mem ht).imp (fun h => List.mem_append_left _ h) id
      · exact (val_mem n _ rest (by rw [e] at h; simp at h ⊢; omega) t ht).imp (fun h => List.mem_append_right _ h) id
theorem sameAll_refl (l : List Tok) : sameAll l l := (same_iff l l).mp rfl
theorem twice_spec (bs : List Int) : PCall C1 4 [.c (.p (rB bs))] fun y => y = yd (.bool true) := by
  refine Pf (by rfl) (by rfl) fn4 (by rfl) ?_
  simp only [Try.f4, List.length_cons, List.length_nil, List.replicate, List.cons_append, List.nil_append]
  simp -implicitDefEqProofs only [↓yP, yT, Nat.reduceAdd, Nat.reduceMul, Nat.reduceSub, Nat.reduceLeDiff, Nat.reduceEqDiff, reduceCtorEq, Nat.reduceBEq]
  refine Rcall_pure aliveC_spec (by rfl) fun y hy => ?_
  subst hy
  by_cases hl : bs.length ≤ 400
  · have t1 : leI (bs.length : Nat) 400 = true := leI_true (by omega)
    have hsl : (strOf (strMk (bs.map fun n => UInt8.ofNat n.toNat))).length = bs.length := by simp [strOf, strMk]
    obtain ⟨l, hsp, hll, hlt⟩ := split_det (strMk (bs.map fun n => UInt8.ofNat n.toNat)) (by omega)
    have hol := of_length l
    have hid := of_idem l
    have hml : ∀ t, t ∈ ofP l → (strOf t.text).length ≤ 100000000 := fun t ht => by
      rw [of_valL] at ht
      rcases val_mem l.length [] l (Nat.le_refl _) t ht with h | h
      · have := hlt t h; omega
      · omega
    simp -implicitDefEqProofs only [↓yP, yT, Nat.reduceAdd, Nat.reduceMul, Nat.reduceSub, Nat.reduceLeDiff, Nat.reduceEqDiff, reduceCtorEq, Nat.reduceBEq, t1, ybytes_eb, bytesOf_u8]
    refine Rcall_pure hsp (by rfl) fun y hy => ?_
    subst hy
    simp -implicitDefEqProofs only [↓yP, yT, Nat.reduceAdd, Nat.reduceMul, Nat.reduceSub, Nat.reduceLeDiff, Nat.reduceEqDiff, reduceCtorEq, Nat.reduceBEq]
    refine Rcall_pure (of_spec l (by omega) (fun t ht => by have := hlt t ht; omega)) (by rfl) fun y hy => ?_
    subst hy
    simp -implicitDefEqProofs only [↓yP, yT, Nat.reduceAdd, Nat.reduceMul, Nat.reduceSub, Nat.reduceLeDiff, Nat.reduceEqDiff, reduceCtorEq, Nat.reduceBEq]
    refine Rcall_pure (of_spec (ofP l) (by omega) hml) (by rfl) fun y hy => ?_
    subst hy
    rw [hid]
    simp -implicitDefEqProofs only [↓yP, yT, Nat.reduceAdd, Nat.reduceMul, Nat.reduceSub, Nat.reduceLeDiff, Nat.reduceEqDiff, reduceCtorEq, Nat.reduceBEq]
    refine Rcall_pure (same_spec (ofP l) (ofP l) (by omega) (by omega)) (by rfl) fun y hy => ?_
    obtain ⟨b, rfl, hb⟩ := hy
    obtain rfl : b = true := hb.mpr (sameAll_refl _)
    have t2 : leI ((ofP l).length : Nat) (l.length : Nat) = true := leI_true (by omega)
    simp -implicitDefEqProofs only [↓yP, yT, Nat.reduceAdd, Nat.reduceMul, Nat.reduceSub, Nat.reduceLeDiff, Nat.reduceEqDiff, reduceCtorEq, Nat.reduceBEq, ybytes_eb, bytesOf_u8]
    refine Rcall_pure hsp (by rfl) fun y hy => ?_
    subst hy
    simp -implicitDefEqProofs only [↓yP, yT, Nat.reduceAdd, Nat.reduceMul, Nat.reduceSub, Nat.reduceLeDiff, Nat.reduceEqDiff, reduceCtorEq, Nat.reduceBEq, t2]
  · have t1 : leI (bs.length : Nat) 400 = false := leI_false (by omega)
    simp -implicitDefEqProofs only [↓yP, yT, Nat.reduceAdd, Nat.reduceMul, Nat.reduceSub, Nat.reduceLeDiff, Nat.reduceEqDiff, reduceCtorEq, Nat.reduceBEq, t1]
end Go.Vx.Seat
end
