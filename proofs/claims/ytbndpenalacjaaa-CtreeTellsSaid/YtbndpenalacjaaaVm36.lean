/- Texts joined: VyH1 VyH2. -/
import Derived.Test.YtbndpenalacjaaaVm35
import Derived.Test.YtbndpenalacjaaaVyLay
import Derived.OpenShut
/- What the law's arguments read as: tokens, nodes. -/
section
open Go Go.Vx Go.Proofs
set_option linter.unusedSimpArgs false
set_option linter.unusedVariables false
set_option maxRecDepth 100000
namespace Go.Vx.Seat
theorem ce3 : Try.prog.cellsOf 3 = 1 := by kernel_rfl
theorem ce4 : Try.prog.cellsOf 4 = 1 := by kernel_rfl
theorem ce9 : Try.prog.cellsOf 9 = 1 := by kernel_rfl
theorem ce22 : Try.prog.cellsOf 22 = 1 := by kernel_rfl
theorem ce23 : Try.prog.cellsOf 23 = 1 := by kernel_rfl
theorem ce41 : Try.prog.cellsOf 41 = 3 := by kernel_rfl
theorem ce42 : Try.prog.cellsOf 42 = 4 := by kernel_rfl
theorem ce44 : Try.prog.cellsOf 44 = 13 := by kernel_rfl
theorem ce47 : Try.prog.cellsOf 47 = 9 := by kernel_rfl
theorem be44 : Try.prog.bytesOf 44 = 128 := by kernel_rfl
theorem be47 : Try.prog.bytesOf 47 = 104 := by kernel_rfl
section
variable {D : Type} {enc : TypeId × Value → D} {w : World} {base : Nat}
theorem rd_int {m : Nat} {v : Value} {x : DataW D × List MemPlace} (h : DataW.trod enc Try.prog w 0 (fun _ => true) true m 3 [v] = some x) : ∃ n, v = .int .i64 n := by
  obtain ⟨n, h1, _⟩ := DataW.trod_int Try.underlying3 h
  exact ⟨n, by simpa using h1⟩
theorem rd_bool {m : Nat} {v : Value} {x : DataW D × List MemPlace} (h : DataW.trod enc Try.prog w 0 (fun _ => true) true m 4 [v] = some x) : ∃ b, v = .bool b := by
  obtain ⟨n, h1, _⟩ := DataW.trod_bool Try.underlying4 h
  exact ⟨n, by simpa using h1⟩
theorem rd_str {m : Nat} {v : Value} {x : DataW D × List MemPlace} (h : DataW.trod enc Try.prog w 0 (fun _ => true) true m 9 [v] = some x) : ∃ s, v = .string s := by
  obtain ⟨n, h1, _⟩ := DataW.trod_string Try.underlying9 h
  exact ⟨n, by simpa using h1⟩
theorem rd_num {m : Nat} {a b c : Value} {x : DataW D × List MemPlace} (h : DataW.trod enc Try.prog w 0 (fun _ => true) true m 41 [a, b, c] = some x) : ∃ n s t, a = .bool n ∧ b = .string s ∧ c = .string t := by
  obtain ⟨xs, n, rfl, _, _, hn, hf⟩ := DataW.trod_struct Try.underlying41 h
  match xs, hn with
  | [x0, x1, x2], _ =>
    have f0 : DataW.trod enc Try.prog w 0 (fun _ => true) true n 4 [a] = some x0 := by simpa [ce4] using hf 0 _ rfl
    have f1 : DataW.trod enc Try.prog w 0 (fun _ => true) true n 9 [b] = some x1 := by simpa [ce9] using hf 1 _ rfl
    have f2 : DataW.trod enc Try.prog w 0 (fun _ => true) true n 9 [c] = some x2 := by simpa [ce9] using hf 2 _ rfl
    obtain ⟨_, rfl⟩ := rd_bool f0
    obtain ⟨_, rfl⟩ := rd_str f1
    obtain ⟨_, rfl⟩ := rd_str f2
    exact ⟨_, _, _, rfl, rfl, rfl⟩
theorem rd_col {m : Nat} {a b c d : Value} {x : DataW D × List MemPlace} (h : DataW.trod enc Try.prog w 0 (fun _ => true) true m 42 [a, b, c, d] = some x) : ∃ i j k l, a = .int .i64 i ∧ b = .int .i64 j ∧ c = .int .i64 k ∧ d = .int .i64 l := by
  obtain ⟨xs, n, rfl, _, _, hn, hf⟩ := DataW.trod_array Try.underlying42 h
  match xs, hn with
  | [x0, x1, x2, x3], _ =>
    have f0 : DataW.trod enc Try.prog w 0 (fun _ => true) true n 3 [a] = some x0 := by simpa [ce3] using hf 0 (by omega)
    have f1 : DataW.trod enc Try.prog w 0 (fun _ => true) true n 3 [b] = some x1 := by simpa [ce3] using hf 1 (by omega)
    have f2 : DataW.trod enc Try.prog w 0 (fun _ => true) true n 3 [c] = some x2 := by simpa [ce3] using hf 2 (by omega)
    have f3 : DataW.trod enc Try.prog w 0 (fun _ => true) true n 3 [d] = some x3 := by simpa [ce3] using hf 3 (by omega)
    obtain ⟨_, rfl⟩ := rd_int f0
    obtain ⟨_, rfl⟩ := rd_int f1
    obtain ⟨_, rfl⟩ := rd_int f2
    obtain ⟨_, rfl⟩ := rd_int f3
    exact ⟨_, _, _, _, rfl, rfl, rfl, rfl⟩
theorem lays_tok (m : Nat) : Lays enc Try.prog w base m 44 fun ps => ∃ t : Tok, ps = t.pc := by
  intro cs x φ h hi hx _
  obtain ⟨xs, n, rfl, _, hl, hn, hf⟩ := DataW.trod_struct Try.underlying44 hx
  rw [ce44] at hl
  match cs, hl, xs, hn with
  | [a0, a1, a2, a3, a4, a5, a6, a7, a8, a9, a10, a11, a12], _, [x0, x1, x2, x3, x4, x5, x6, x7], _ =>
    have f0 : DataW.trod enc Try.prog w 0 (fun _ => true) true n 3 [a0] = some x0 := by simpa [ce3] using hf 0 _ rfl
    have f1 : DataW.trod enc Try.prog w 0 (fun _ => true) true n 9 [a1] = some x1 := by simpa [ce9] using hf 1 _ rfl
    have f2 : DataW.trod enc Try.prog w 0 (fun _ => true) true n 9 [a2] = some x2 := by simpa [ce9] using hf 2 _ rfl
    have f3 : DataW.trod enc Try.prog w 0 (fun _ => true) true n 41 [a3, a4, a5] = some x3 := by simpa [ce41] using hf 3 _ rfl
    have f4 : DataW.trod enc Try.prog w 0 (fun _ => true) true n 4 [a6] = some x4 := by simpa [ce4] using hf 4 _ rfl
    have f5 : DataW.trod enc Try.prog w 0 (fun _ => true) true n 4 [a7] = some x5 := by simpa [ce4] using hf 5 _ rfl
    have f6 : DataW.trod enc Try.prog w 0 (fun _ => true) true n 42 [a8, a9, a10, a11] = some x6 := by simpa [ce42] using hf 6 _ rfl
    have f7 : DataW.trod enc Try.prog w 0 (fun _ => true) true n 3 [a12] = some x7 := by simpa [ce3] using hf 7 _ rfl
    obtain ⟨k, rfl⟩ := rd_int f0
    obtain ⟨s1, rfl⟩ := rd_str f1
    obtain ⟨s2, rfl⟩ := rd_str f2
    obtain ⟨b, d, e, rfl, rfl, rfl⟩ := rd_num f3
    obtain ⟨b1, rfl⟩ := rd_bool f4
    obtain ⟨b2, rfl⟩ := rd_bool f5
    obtain ⟨c0, c1, c2, c3, rfl, rfl, rfl, rfl⟩ := rd_col f6
    obtain ⟨s, rfl⟩ := rd_int f7
    exact ⟨φ, h, _, _, hi, .refl _ _, Laid.dry rfl, ⟨k, s1, s2, b, d, e, b1, b2, c0, c1, c2, c3, s⟩, rfl⟩
theorem all_map {α β : Type} {f : α → β} {p : α → Prop} : ∀ {l : List β}, (∀ x, x ∈ l → ∃ a, p a ∧ x = f a) → ∃ ys : List α, (∀ a, a ∈ ys → p a) ∧ l = ys.map f
  | [], _ => ⟨[], by simp, rfl⟩
  | x :: l, h => by
    obtain ⟨a, h1, h2⟩ := h x (List.mem_cons_self ..)
    obtain ⟨ys, h3, h4⟩ := all_map (l := l) fun y hy => h y (List.mem_cons_of_mem _ hy)
    refine ⟨a :: ys, fun b hb => ?_, by rw [h2, h4]; rfl⟩
    rcases List.mem_cons.mp hb with rfl | hb
    · exact h1
    · exact h3 b hb
theorem lays_toks {g : Nat} (hg : ∃ c el fr, w.heap[g]? = some (.cells c el fr)) (m : Nat) : Lays enc Try.prog w base m 22 fun ps => ∃ ts : List Tok, ts.length ≤ maxL ∧ ps = [rT ts] := by
  cases m with
  | zero => intro cs x φ h hi hx _; simp [DataW.trod] at hx
  | succ m =>
    intro cs x φ h hi hx hw
    obtain ⟨φ', h', us, ps, i1, g1, l1, els, rfl, hle, hE⟩ := lays_slice (lays_tok m) Try.underlying22 (by rw [ce44]; omega) hg cs x φ h hi hx hw
    rw [be44] at hle
    unfold reachBytes at hle
    obtain ⟨ts, _, rfl⟩ := all_map (f := Tok.pc) (p := fun _ => True) fun p hp => let ⟨t, ht⟩ := hE p hp; ⟨t, trivial, ht⟩
    exact ⟨φ', h', us, _, i1, g1, l1, ts, by rw [List.length_map] at hle; unfold maxL; omega, by rw [ce44]⟩
theorem lays_node {g : Nat} (hg : ∃ c el fr, w.heap[g]? = some (.cells c el fr)) : ∀ m, Lays enc Try.prog w base m 47 (fun ps => ∃ n : Nd, NdMax n ∧ ps = n.pc) ∧ Lays enc Try.prog w base m 23 (fun ps => ∃ ns : List Nd, ns.length ≤ maxL ∧ (∀ x, x ∈ ns → NdMax x) ∧ ps = [rN ns])
  | 0 => ⟨fun cs x φ h hi hx _ => by simp [DataW.trod] at hx, fun cs x φ h hi hx _ => by simp [DataW.trod] at hx⟩
  | m + 1 => by
    obtain ⟨ih1, ih2⟩ := lays_node hg m
    refine ⟨fun cs x φ h hi hx hw => ?_, fun cs x φ h hi hx hw => ?_⟩
    · obtain ⟨xs, n, hnm, hxe, hl, hn, hf⟩ := DataW.trod_struct Try.underlying47 hx
      obtain rfl : m = n := by omega
      rw [ce47] at hl
      rw [hxe] at hw
      clear hxe hx
      match cs, hl, xs, hn with
      | [a0, a1, a2, a3, a4, a5, a6, a7, a8], _, [x0, x1, x2, x3, x4, x5, x6, x7, x8], _ =>
        have f0 : DataW.trod enc Try.prog w 0 (fun _ => true) true m 3 [a0] = some x0 := by simpa [ce3] using hf 0 _ rfl
        have f1 : DataW.trod enc Try.prog w 0 (fun _ => true) true m 22 [a1] = some x1 := by simpa [ce22] using hf 1 _ rfl
        have f2 : DataW.trod enc Try.prog w 0 (fun _ => true) true m 22 [a2] = some x2 := by simpa [ce22] using hf 2 _ rfl
        have f3 : DataW.trod enc Try.prog w 0 (fun _ => true) true m 23 [a3] = some x3 := by simpa [ce23] using hf 3 _ rfl
        have f4 : DataW.trod enc Try.prog w 0 (fun _ => true) true m 4 [a4] = some x4 := by simpa [ce4] using hf 4 _ rfl
        have f5 : DataW.trod enc Try.prog w 0 (fun _ => true) true m 4 [a5] = some x5 := by simpa [ce4] using hf 5 _ rfl
        have f6 : DataW.trod enc Try.prog w 0 (fun _ => true) true m 4 [a6] = some x6 := by simpa [ce4] using hf 6 _ rfl
        have f7 : DataW.trod enc Try.prog w 0 (fun _ => true) true m 3 [a7] = some x7 := by simpa [ce3] using hf 7 _ rfl
        have f8 : DataW.trod enc Try.prog w 0 (fun _ => true) true m 3 [a8] = some x8 := by simpa [ce3] using hf 8 _ rfl
        simp only [DataW.weights, Try.underlying47, DataW.weightsEach, List.map_cons, List.map_nil, List.all_append, Bool.and_eq_true] at hw
        obtain ⟨_, w1, w2, w3, _⟩ := hw
        obtain ⟨k, rfl⟩ := rd_int f0
        obtain ⟨o, rfl⟩ := rd_bool f4
        obtain ⟨s, rfl⟩ := rd_bool f5
        obtain ⟨e, rfl⟩ := rd_bool f6
        obtain ⟨at0, rfl⟩ := rd_int f7
        obtain ⟨la, rfl⟩ := rd_int f8
        obtain ⟨φ1, h1, u1, p1, i1, g1, l1, hd, hhd, rfl⟩ := lays_toks hg m _ _ φ h hi f1 w1
        obtain ⟨φ2, h2, u2, p2, i2, g2, l2, tl, htl, rfl⟩ := lays_toks hg m _ _ φ1 h1 i1 f2 w2
        obtain ⟨φ3, h3, u3, p3, i3, g3, l3, ks, hks, hkm, rfl⟩ := ih2 _ _ φ2 h2 i2 f3 w3
        have d0 : Laid φ3 h3 [Value.int .i64 k] [.int .i64 k] [.d (.int .i64 k)] := Laid.dry rfl
        have d4 : Laid φ3 h3 [Value.bool o, .bool s, .bool e, .int .i64 at0, .int .i64 la] [Value.bool o, .bool s, .bool e, .int .i64 at0, .int .i64 la] [.d (.bool o), .d (.bool s), .d (.bool e), .d (.int .i64 at0), .d (.int .i64 la)] := Laid.dry rfl
        have := d0.app (((l1.mono g2).mono g3).app ((l2.mono g3).app (l3.app d4)))
        exact ⟨φ3, h3, _, _, i3, (g1.trans g2).trans g3, this, .mk k hd tl ks o s e at0 la, .mk hhd htl hks hkm, by rw [pc_mk]; rfl⟩
    · obtain ⟨φ', h', us, ps, i1, g1, l1, els, rfl, hle, hE⟩ := lays_slice ih1 Try.underlying23 (by rw [ce47]; omega) hg cs x φ h hi hx hw
      rw [be47] at hle
      unfold reachBytes at hle
      obtain ⟨ns, hm, rfl⟩ := all_map (f := Nd.pc) (p := NdMax) fun p hp => hE p hp
      exact ⟨φ', h', us, _, i1, g1, l1, ns, by rw [List.length_map] at hle; unfold maxL; omega, hm, by rw [ce47]⟩
end
end Go.Vx.Seat
end
/- CtreeTells is true of whatever reads as tokens and nodes, and turns nothing that stood before the call. -/
section
open Go Go.Vx Go.Proofs Go.RowKit
set_option linter.unusedSimpArgs false
set_option linter.unusedVariables false
set_option maxRecDepth 100000
namespace Go.Vx.Seat
section
variable {D : Type} {enc : TypeId × Value → D} {w : World}
/-- A slice that comes in is nil or lies in a block. -/
theorem ground {t e : TypeId} {r : Reach} {base : Nat} {v : Value} (ht : Try.prog.underlying t = some (.slice e)) (hv : Value.okWide Try.prog w r base t v) : v = .slice none 0 0 ∨ ((∃ a n c, v = .slice (some a) n c) ∧ ∃ (g : Nat) (c : Array Value) (el : TypeId) (fr : Nat × Nat), w.heap[g]? = some (Obj.cells c el fr)) := by
  unfold Value.okWide at hv
  rw [ht] at hv
  simp only at hv
  unfold Cell.okWide at hv
  rw [ht] at hv
  simp only at hv
  unfold Cell.ok at hv
  rw [ht] at hv
  cases v with
  | slice a n c =>
    cases a with
    | none =>
      left
      split at hv
      all_goals first | (simp_all; done) | rfl | exact hv.elim
    | some a =>
      right
      simp only at hv
      obtain ⟨_, _, hh⟩ := hv
      obtain ⟨_, _, row, cells, hs, _⟩ := hh
      refine ⟨⟨a, n, c, rfl⟩, a.block, ?_⟩
      unfold World.shape? at hs
      split at hs
      · rename_i c el fr hw; exact ⟨c, el, fr, hw⟩
      · cases hs
  | _ => simp at hv
theorem args_in {r : Reach} {base : Nat} {v0 v1 : Value} {x0 x1 : DataW D × List MemPlace} {m0 m1 : Nat} (k0 : Value.okWide Try.prog w r base 22 v0) (k1 : Value.okWide Try.prog w r base 23 v1)
    (h0 : DataW.trod enc Try.prog w 0 (fun _ => true) true m0 22 v0.cells.toList = some x0) (h1 : DataW.trod enc Try.prog w 0 (fun _ => true) true m1 23 v1.cells.toList = some x1) (w0 : (x0.1.weights Try.prog 22).all (· ≤ reachBytes) = true) (w1 : (x1.1.weights Try.prog 23).all (· ≤ reachBytes) = true) :
    ∃ (φ : Phi) (h : H) (us : List Value) (ts : List Tok) (ns : List Nd), Go.Vx.In w.heap.size φ h w ∧ Laid φ h us [v0, v1] [rT ts, rN ns] ∧ ts.length ≤ maxL ∧ ns.length ≤ maxL ∧ ∀ x, x ∈ ns → NdMax x := by
  have go : (∃ (g : Nat) (c : Array Value) (el : TypeId) (fr : Nat × Nat), w.heap[g]? = some (Obj.cells c el fr)) → v0.cells.toList = [v0] → v1.cells.toList = [v1] → ∃ (φ : Phi) (h : H) (us : List Value) (ts : List Tok) (ns : List Nd), Go.Vx.In w.heap.size φ h w ∧ Laid φ h us [v0, v1] [rT ts, rN ns] ∧ ts.length ≤ maxL ∧ ns.length ≤ maxL ∧ ∀ x, x ∈ ns → NdMax x := by
    rintro ⟨g, hg⟩ c0 c1
    rw [c0] at h0
    rw [c1] at h1
    obtain ⟨φ1, h1', u1, p1, i1, g1, l1, ts, hts, rfl⟩ := lays_toks hg m0 _ _ _ _ (Go.Vx.In.nil w.heap.size w) h0 w0
    obtain ⟨φ2, h2', u2, p2, i2, g2, l2, ns, hns, hnm, rfl⟩ := (lays_node hg m1).2 _ _ _ _ i1 h1 w1
    exact ⟨φ2, h2', _, ts, ns, i2, (l1.mono g2).app l2, hts, hns, hnm⟩
  rcases ground Try.underlying22 k0 with rfl | ⟨⟨a, n, c, rfl⟩, hg⟩
  · rcases ground Try.underlying23 k1 with rfl | ⟨⟨a, n, c, rfl⟩, hg⟩
    · refine ⟨_, _, [.slice none 0 0, .slice none 0 0], [], [], Go.Vx.In.nil _ _, ⟨All2.same fun v hv => ?_, (L2.single PRep.nil).cons PRep.nil⟩, by simp, by simp, by simp⟩
      rcases List.mem_cons.mp hv with rfl | hv
      · exact CR_dry rfl
      · rw [List.mem_singleton.mp hv]; exact CR_dry rfl
    · exact go hg rfl rfl
  · rcases ground Try.underlying23 k1 with rfl | ⟨⟨a', n', c', rfl⟩, _⟩
    · exact go hg rfl rfl
    · exact go hg rfl rfl
theorem slice_VR {φ : Phi} {u v : Value} {sz : Nat} {els : List (List PC)} {R : Nat → Prop} {h : H} (hp : PRep R h (.row sz els) u) (hc : CR φ u v) : VR φ u v := by
  rcases hp.lay with ⟨rfl, _⟩ | ⟨b, off, blk, rfl, _⟩ <;> exact hc
theorem tells_calls {r : Reach} {base : Nat} {v0 v1 : Value} {x0 x1 : DataW D × List MemPlace} {m0 m1 : Nat} (k0 : Value.okWide Try.prog w r base 22 v0) (k1 : Value.okWide Try.prog w r base 23 v1)
    (h0 : DataW.trod enc Try.prog w 0 (fun _ => true) true m0 22 v0.cells.toList = some x0) (h1 : DataW.trod enc Try.prog w 0 (fun _ => true) true m1 23 v1.cells.toList = some x1) (w0 : (x0.1.weights Try.prog 22).all (· ≤ reachBytes) = true) (w1 : (x1.1.weights Try.prog 23).all (· ≤ reachBytes) = true) :
    Calls Try.prog 3 #[v0, v1] w fun e w' => e = .returned (.bool true) ∧ Below w.heap.size w w' := by
  obtain ⟨φ, h, us, ts, ns, hi, hl, b0, b1, b2⟩ := args_in k0 k1 h0 h1 w0 w1
  obtain ⟨hc, hp⟩ := hl
  match us, hp.1, hc, hp with
  | [u0, u1], _, hc, hp =>
    have p0 : PRep (fun b => b < h.n) h (rT ts) u0 := hp.2 0 _ _ rfl rfl
    have p1 : PRep (fun b => b < h.n) h (rN ns) u1 := hp.2 1 _ _ rfl rfl
    obtain ⟨n, v, h', hx, R', y, hy, hv, _⟩ := tells_spec ts ns b0 b1 b2 0 (fun b => b < h.n) h [u0, u1] (Nat.zero_le _) (fun b hb => hb) (L2.cons (show VRep [] (fun b => b < h.n) h (.c (.p (rT ts))) u0 from p0) (L2.single (show VRep [] (fun b => b < h.n) h (.c (.p (rN ns))) u1 from p1)))
    subst hy
    obtain rfl : v = .bool true := by cases hv; rfl
    have ha : All2 (VR φ) [u0, u1] #[v0, v1].toList := ⟨rfl, fun i u hu => by
      match i, hu with
      | 0, hu => cases hu; obtain ⟨v, e, hr⟩ := hc.2 0 u0 rfl; exact ⟨v, e, slice_VR p0 hr⟩
      | 1, hu => cases hu; obtain ⟨v, e, hr⟩ := hc.2 1 u1 rfl; exact ⟨v, e, slice_VR p1 hr⟩⟩
    refine Calls.mono (calls_of_xfun good1 hx rfl hi.hr (Nat.le_refl _) ha fun i g1 g2 => ?_) fun e w' ⟨v', he, φ', hv', st⟩ => ?_
    · cases e : φ i with
      | none => rfl
      | some l => have := hi.dom i l e; omega
    · subst he
      exact ⟨by rw [hv'.bool], st.below⟩
end
end Go.Vx.Seat
end
