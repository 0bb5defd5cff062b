/- What a law of one text, of bytes, reads. -/
import Derived.Test.YtbndpenalacjaaaVm36
import Derived.Test.YtbndpenalacjaaaVyLay1
import Derived.Test.YtbndpenalacjaaaVm37
import Derived.OpenShut
open Go Go.Vx Go.Proofs Go.RowKit
set_option linter.unusedSimpArgs false
set_option linter.unusedVariables false
set_option maxRecDepth 100000
namespace Go.Vx.Seat
theorem ce5 : Try.prog.cellsOf 5 = 1 := by kernel_rfl
section
variable {D : Type} {enc : TypeId × Value → D} {w : World} {base : Nat}
theorem ground1 {t e : TypeId} {r : Reach} {base : Nat} {v : Value} (ht : Try.prog.underlying t = some (.slice e)) (hv : Value.okWide Try.prog w r base t v) : v = .slice none 0 0 ∨ ∃ a n c, v = .slice (some a) n c ∧ ∃ (c : Array Value) (el : TypeId) (fr : Nat × Nat), w.heap[a.block]? = some (Obj.cells c el fr) := by
  unfold Value.okWide at hv
  rw [ht] at hv
  simp only at hv
  unfold Cell.okWide at hv
  rw [ht] at hv
  simp only at hv
  unfold Cell.ok at hv
  rw [ht] at hv
  cases v with
  | slice a n c =>
    cases a with
    | none =>
      left
      split at hv
      all_goals first | (simp_all; done) | rfl | exact hv.elim
    | some a =>
      right
      simp only at hv
      obtain ⟨_, _, hh⟩ := hv
      obtain ⟨_, _, row, cells, hs, _⟩ := hh
      refine ⟨a, n, c, rfl, ?_⟩
      unfold World.shape? at hs
      split at hs
      · rename_i c el fr hw; exact ⟨c, el, fr, hw⟩
      · cases hs
  | _ => simp at hv
theorem all_map1 {α β : Type} {f : α → β} {p : α → Prop} : ∀ {l : List β}, (∀ x, x ∈ l → ∃ a, p a ∧ x = f a) → ∃ ys : List α, (∀ a, a ∈ ys → p a) ∧ l = ys.map f
  | [], _ => ⟨[], by simp, rfl⟩
  | x :: l, h => by
    obtain ⟨a, h1, h2⟩ := h x (List.mem_cons_self ..)
    obtain ⟨ys, h3, h4⟩ := all_map1 (l := l) fun y hy => h y (List.mem_cons_of_mem _ hy)
    refine ⟨a :: ys, fun b hb => ?_, by rw [h2, h4]; rfl⟩
    rcases List.mem_cons.mp hb with rfl | hb
    · exact h1
    · exact h3 b hb
theorem slice_VR1 {φ : Phi} {u v : Value} {sz : Nat} {els : List (List PC)} {R : Nat → Prop} {h : H} (hp : PRep R h (.row sz els) u) (hc : CR φ u v) : VR φ u v := by
  rcases hp.lay with ⟨rfl, _⟩ | ⟨b, off, blk, rfl, _⟩ <;> exact hc
theorem lays_u8 (m : Nat) : Lays enc Try.prog w base m 5 fun ps => ∃ n : Int, ps = eb n := by
  intro cs x φ h hi hx _
  have hl : ∃ v, cs = [v] ∧ ∃ n, v = .int .u8 n := by
    obtain ⟨n, h1, _⟩ := DataW.trod_int Try.underlying5 hx
    exact ⟨_, h1, n, rfl⟩
  obtain ⟨v, rfl, n, rfl⟩ := hl
  exact ⟨φ, h, _, _, hi, .refl _ _, Laid.dry rfl, n, rfl⟩
theorem bytes_in {r : Reach} {base : Nat} {v0 : Value} {x0 : DataW D × List MemPlace} {m0 : Nat} (k0 : Value.okWide Try.prog w r base 32 v0)
    (h0 : DataW.trod enc Try.prog w 0 (fun _ => true) true m0 32 v0.cells.toList = some x0) (w0 : (x0.1.weights Try.prog 32).all (· ≤ reachBytes) = true) :
    ∃ (φ : Phi) (h : H) (us : List Value) (bs : List Int), Go.Vx.In w.heap.size φ h w ∧ Laid φ h us [v0] [rB bs] ∧ bs.length ≤ reachBytes := by
  rcases ground1 Try.underlying32 k0 with rfl | ⟨a, n, c, rfl, hg⟩
  · refine ⟨_, _, [.slice none 0 0], [], Go.Vx.In.nil _ _, ⟨All2.same fun v hv => ?_, L2.single PRep.nil⟩, by simp⟩
    rw [List.mem_singleton.mp hv]; exact CR_dry rfl
  · cases m0 with
    | zero => simp [DataW.trod] at h0
    | succ m =>
      have h0' : DataW.trod enc Try.prog w 0 (fun _ => true) true (m + 1) 32 [.slice (some a) n c] = some x0 := h0
      obtain ⟨φ', h', us, ps, i1, g1, l1, els, rfl, hle, hE⟩ := lays_slice1 (lays_u8 m) Try.underlying32 (by rw [ce5]; omega) (fun a' n' c' e => by cases e; exact hg) x0 _ _ (Go.Vx.In.nil w.heap.size w) h0' w0
      obtain ⟨bs, _, rfl⟩ := all_map1 (f := eb) (p := fun _ => True) fun p hp => let ⟨t, ht⟩ := hE p hp; ⟨t, trivial, ht⟩
      have hb : Try.prog.bytesOf 5 = 1 := by kernel_rfl
      rw [hb, List.length_map, Nat.mul_one] at hle
      exact ⟨φ', h', us, bs, i1, by rw [ce5] at l1; exact l1, hle⟩
theorem bytes_calls {f : FuncId} {r : Reach} {base : Nat} {v0 : Value} {x0 : DataW D × List MemPlace} {m0 : Nat} (ht : C1.told f = none) (hf : ∀ bs, PCall C1 f [.c (.p (rB bs))] fun y => y = yd (.bool true)) (k0 : Value.okWide Try.prog w r base 32 v0)
    (h0 : DataW.trod enc Try.prog w 0 (fun _ => true) true m0 32 v0.cells.toList = some x0) (w0 : (x0.1.weights Try.prog 32).all (· ≤ reachBytes) = true) :
    Calls Try.prog f #[v0] w fun e w' => e = .returned (.bool true) ∧ Below w.heap.size w w' := by
  obtain ⟨φ, h, us, bs, hi, hl, _⟩ := bytes_in k0 h0 w0
  obtain ⟨hc, hp⟩ := hl
  match us, hp.1, hc, hp with
  | [u0], _, hc, hp =>
    have p0 : PRep (fun b => b < h.n) h (rB bs) u0 := hp.2 0 _ _ rfl rfl
    obtain ⟨n, v, h', hx, R', y, hy, hv, _⟩ := hf bs 0 (fun b => b < h.n) h [u0] (Nat.zero_le _) (fun b hb => hb) (L2.single (show VRep [] (fun b => b < h.n) h (.c (.p (rB bs))) u0 from p0))
    subst hy
    obtain rfl : v = .bool true := by cases hv; rfl
    have ha : All2 (VR φ) [u0] #[v0].toList := ⟨rfl, fun i u hu => by
      match i, hu with
      | 0, hu => cases hu; obtain ⟨v, e, hr⟩ := hc.2 0 u0 rfl; exact ⟨v, e, slice_VR1 p0 hr⟩⟩
    refine Calls.mono (calls_of_xfun good1 hx ht hi.hr (Nat.le_refl _) ha fun i g1 g2 => ?_) fun e w' ⟨v', he, φ', hv', st⟩ => ?_
    · cases e : φ i with
      | none => rfl
      | some l => have := hi.dom i l e; omega
    · subst he
      exact ⟨by rw [hv'.bool], st.below⟩
end
end Go.Vx.Seat
