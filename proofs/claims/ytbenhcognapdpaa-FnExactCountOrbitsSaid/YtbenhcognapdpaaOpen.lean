/- What a law's argument reads as, by its type: whole numbers, arrays, slices, structs. -/
import Derived.Test.YtbenhcognapdpaaOrbB
import Derived.WalkKit
import Derived.ProofKit
import Derived.OpenShut
import Derived.Deep.Slices
import Derived.Deep.Strs
set_option linter.unusedVariables false
set_option linter.unusedSimpArgs false
namespace Go.Proofs.Ytbenhcognapdpaa
open Go.RowKit Go.Proofs.YtbenhcognapdpaaW.PrintWords Go.Proofs.YtbenhcognapdpaaW.PrintLast Lin Go.Deep

section
variable {H : Type} {enc : TypeId × Value → H} {P : Program} {W : World} {spare : Nat → Bool} {held : Bool}
/-- Cells of type t read as a datum: then they are of kind d, and the value is Q. -/
def Opens {α : Type} (enc : TypeId × Value → H) (P : Program) (W : World) (spare : Nat → Bool) (held : Bool) (t : TypeId) (d : Kd α) (Q : α → Prop) : Prop :=
  ∀ fuel cs x, DataW.trod enc P W 0 spare held fuel t cs = some x → ∃ a, d.K W a cs ∧ Q a
theorem opens_int {t : TypeId} {k : IntKind} (ht : P.underlying t = some (.int k)) : Opens enc P W spare held t (Kd.int k) (fun a => (Lit.int k a).wf = true) := fun fuel cs x h => by
  obtain ⟨n, hcs, _, hw⟩ := DataW.trod_int ht h
  exact ⟨n, hcs, hw⟩
theorem Opens.imp {α : Type} {t : TypeId} {d : Kd α} {Q Q' : α → Prop} (h : Opens enc P W spare held t d Q) (hq : ∀ a, Q a → Q' a) : Opens enc P W spare held t d Q' := fun fuel cs x hx => by
  obtain ⟨a, h1, h2⟩ := h fuel cs x hx
  exact ⟨a, h1, hq a h2⟩
theorem opens_slice {α : Type} [Inhabited α] {t e e' : TypeId} {d : Kd α} {Q : α → Prop} (ht : P.underlying t = some (.slice e)) (hc : P.cellsOf e = d.sz) (h : Opens enc P W spare held e d Q) : Opens enc P W spare held t (Kd.slice e' d) (fun l => ∀ a ∈ l, Q a) := fun fuel cs x hx => by
  rcases open_slice ht hx with ⟨rfl, _⟩ | ⟨a, len, cap, m, n, D, Pl, rfl, _, hl, hm, hmm, _, hel⟩
  · exact ⟨[], ⟨none, 0, rfl, Nat.le_refl _, Kd.C_nil d W⟩, fun a ha => by cases ha⟩
  · have hlm : len ≤ m := by rw [hmm]; split <;> omega
    have hch : ∀ i, i < len → ∃ b : α, ∃ cs', W.cells? 0 (a.add (i * d.sz)) d.sz = some cs' ∧ d.K W b cs' ∧ Q b := by
      intro i hi
      obtain ⟨cs', h1, h2⟩ := hel i (by omega)
      rw [hc] at h1
      obtain ⟨b, hb, hq⟩ := h n cs' _ h2
      exact ⟨b, cs', h1, hb, hq⟩
    obtain ⟨f, hf⟩ := choose_lt hch
    have hlen : ((List.range len).map f).length = len := by simp
    have hmax : maxLen = 9223372036854775807 := rfl
    refine ⟨(List.range len).map f, ⟨some a, cap, by rw [hlen], by rw [hlen]; exact hl, ?_⟩, fun b hb => ?_⟩
    · rw [hlen]
      refine ⟨hlen, by omega, fun _ => ⟨a, rfl, fun j p hj => ?_⟩⟩
      have hjl : j < len := by have := (List.getElem?_eq_some_iff.1 hj).1; rwa [hlen] at this
      have hp : f j = p := by simpa [hjl] using hj
      obtain ⟨cs', h1, h2, _⟩ := hf j hjl
      rw [hp] at h2
      obtain ⟨_, hcl, hcell⟩ := World.cells?_some h1
      refine ⟨cs', d.K_len h2, h2, fun i u hu => ?_⟩
      have hi : i < cs'.length := (List.getElem?_eq_some_iff.1 hu).1
      have := hcell i (by rw [d.K_len h2] at hi; exact hi)
      rw [add_add'] at this
      rw [this, hu]
    · obtain ⟨i, hi, rfl⟩ := List.mem_map.1 hb
      obtain ⟨_, _, _, hq⟩ := hf i (List.mem_range.1 hi)
      exact hq
theorem ints_of {k : IntKind} : ∀ (cs : List Value), (∀ u ∈ cs, ∃ a, u = .int k a ∧ (Lit.int k a).wf = true) → ∃ xs : List Int, cs = encs (Value.int k) xs ∧ ∀ a ∈ xs, (Lit.int k a).wf = true
  | [], _ => ⟨[], rfl, fun a ha => by cases ha⟩
  | u :: cs, h => by
    obtain ⟨a, rfl, ha⟩ := h u List.mem_cons_self
    obtain ⟨xs, rfl, hx⟩ := ints_of cs (fun v hv => h v (List.mem_cons_of_mem _ hv))
    refine ⟨a :: xs, rfl, fun b hb => ?_⟩
    rcases List.mem_cons.1 hb with rfl | hb
    · exact ha
    · exact hx b hb
/-- An array of whole numbers: its cells. -/
theorem cells_ints {t e : TypeId} {k : IntKind} {n : Nat} (ht : P.underlying t = some (.array n e)) (he : P.underlying e = some (.int k)) (hce : P.cellsOf e = 1) (hct : P.cellsOf t = n) {fuel : Nat} {cs : List Value} {x : DataW H × List MemPlace}
    (h : DataW.trod enc P W 0 spare held fuel t cs = some x) : cs.length = n ∧ ∀ u ∈ cs, ∃ a, u = .int k a ∧ (Lit.int k a).wf = true := by
  obtain ⟨xs, m, _, _, hl, hxl, hel⟩ := DataW.trod_array ht h
  refine ⟨by rw [hl, hct], fun u hu => ?_⟩
  obtain ⟨i, hi, rfl⟩ := List.mem_iff_getElem.1 hu
  have hin : i < n := by rw [← hct, ← hl]; exact hi
  have h1 := hel i hin
  rw [hce, Nat.mul_one, List.drop_eq_getElem_cons hi, List.take_succ_cons, List.take_zero, List.getElem?_eq_getElem (by omega)] at h1
  obtain ⟨a, h2, _, h3⟩ := DataW.trod_int he h1
  exact ⟨a, by simpa using h2, h3⟩
theorem opens_ints {t e : TypeId} {k : IntKind} {n : Nat} (ht : P.underlying t = some (.array n e)) (he : P.underlying e = some (.int k)) (hce : P.cellsOf e = 1) (hct : P.cellsOf t = n) :
    Opens enc P W spare held t (Kd.arr n (Kd.int k) Nat.one_pos) (fun l => l.length = n ∧ ∀ a ∈ l, (Lit.int k a).wf = true) := fun fuel cs x h => by
  obtain ⟨hl, hu⟩ := cells_ints ht he hce hct h
  obtain ⟨xs, rfl, hx⟩ := ints_of cs hu
  have hxl : xs.length = n := by simpa [encs] using hl
  exact ⟨xs, (Kd.arr n (Kd.int k) Nat.one_pos).K_of_M (base := 0) (ok := fun _ => True) (Kd.arr_of_cells (n := n) hxl), hxl, hx⟩
/-- An array of arrays of whole numbers, in line. -/
theorem opens_ints2 {t e q : TypeId} {k : IntKind} {n m : Nat} (hm0 : 0 < m) (ht : P.underlying t = some (.array n e)) (he : P.underlying e = some (.array m q)) (hq : P.underlying q = some (.int k)) (hcq : P.cellsOf q = 1) (hce : P.cellsOf e = m) (hct : P.cellsOf t = n * m) :
    Opens enc P W spare held t (Kd.arr (n * m) (Kd.int k) Nat.one_pos) (fun l => l.length = n * m ∧ ∀ a ∈ l, (Lit.int k a).wf = true) := fun fuel cs x h => by
  obtain ⟨xs, mm, _, _, hl, hxl, hel⟩ := DataW.trod_array ht h
  rw [hct] at hl
  have hu : ∀ u ∈ cs, ∃ a, u = .int k a ∧ (Lit.int k a).wf = true := by
    intro u hu
    obtain ⟨i, hi, rfl⟩ := List.mem_iff_getElem.1 hu
    have hin : i / m < n := by rw [Nat.div_lt_iff_lt_mul hm0, ← hl]; exact hi
    have h1 := hel (i / m) hin
    rw [hce, List.getElem?_eq_getElem (by omega)] at h1
    refine (cells_ints he hq hcq hce h1).2 _ ?_
    rw [List.mem_iff_getElem?]
    refine ⟨i % m, ?_⟩
    rw [List.getElem?_take, if_pos (Nat.mod_lt _ hm0), List.getElem?_drop, Nat.mul_comm, Nat.div_add_mod, List.getElem?_eq_getElem hi]
  obtain ⟨xs', rfl, hx⟩ := ints_of cs hu
  have hxl' : xs'.length = n * m := by simpa [encs] using hl
  exact ⟨xs', (Kd.arr (n * m) (Kd.int k) Nat.one_pos).K_of_M (base := 0) (ok := fun _ => True) (Kd.arr_of_cells (n := n * m) hxl'), hxl', hx⟩
theorem opens_struct2 {α β : Type} {t : TypeId} {f0 f1 : Field} {d0 : Kd α} {d1 : Kd β} {Q0 : α → Prop} {Q1 : β → Prop} (ht : P.underlying t = some (.struct #[f0, f1])) (hC : P.cellsOf t = d0.sz + d1.sz)
    (o0 : f0.offset = 0) (s0 : P.cellsOf f0.type = d0.sz) (o1 : f1.offset = d0.sz) (s1 : P.cellsOf f1.type = d1.sz) (h0 : Opens enc P W spare held f0.type d0 Q0) (h1 : Opens enc P W spare held f1.type d1 Q1) :
    Opens enc P W spare held t (Kd.pair d0 d1) (fun x => Q0 x.1 ∧ Q1 x.2) := fun fuel cs x h => by
  obtain ⟨xs, n, _, _, hl, hxl, hel⟩ := DataW.trod_struct ht h
  have e0 := hel 0 f0 rfl
  have e1 := hel 1 f1 rfl
  have hx2 : xs.length = 2 := hxl
  rw [List.getElem?_eq_getElem (by omega), o0, s0, List.drop_zero] at e0
  rw [List.getElem?_eq_getElem (by omega), o1, s1] at e1
  obtain ⟨a, k0, q0⟩ := h0 _ _ _ e0
  obtain ⟨b, k1, q1⟩ := h1 _ _ _ e1
  rw [List.take_of_length_le (i := d1.sz) (by rw [List.length_drop]; omega)] at k1
  exact ⟨(a, b), ⟨_, _, (List.take_append_drop _ _).symm, k0, k1⟩, q0, q1⟩
theorem opens_struct3 {α β γ : Type} {t : TypeId} {f0 f1 f2 : Field} {d0 : Kd α} {d1 : Kd β} {d2 : Kd γ} {Q0 : α → Prop} {Q1 : β → Prop} {Q2 : γ → Prop} (ht : P.underlying t = some (.struct #[f0, f1, f2])) (hC : P.cellsOf t = d0.sz + (d1.sz + d2.sz))
    (o0 : f0.offset = 0) (s0 : P.cellsOf f0.type = d0.sz) (o1 : f1.offset = d0.sz) (s1 : P.cellsOf f1.type = d1.sz) (o2 : f2.offset = d0.sz + d1.sz) (s2 : P.cellsOf f2.type = d2.sz)
    (h0 : Opens enc P W spare held f0.type d0 Q0) (h1 : Opens enc P W spare held f1.type d1 Q1) (h2 : Opens enc P W spare held f2.type d2 Q2) :
    Opens enc P W spare held t (Kd.pair d0 (Kd.pair d1 d2)) (fun x => Q0 x.1 ∧ Q1 x.2.1 ∧ Q2 x.2.2) := fun fuel cs x h => by
  obtain ⟨xs, n, _, _, hl, hxl, hel⟩ := DataW.trod_struct ht h
  have e0 := hel 0 f0 rfl
  have e1 := hel 1 f1 rfl
  have e2 := hel 2 f2 rfl
  have hx2 : xs.length = 3 := hxl
  rw [List.getElem?_eq_getElem (by omega), o0, s0, List.drop_zero] at e0
  rw [List.getElem?_eq_getElem (by omega), o1, s1] at e1
  rw [List.getElem?_eq_getElem (by omega), o2, s2] at e2
  obtain ⟨a, k0, q0⟩ := h0 _ _ _ e0
  obtain ⟨b, k1, q1⟩ := h1 _ _ _ e1
  obtain ⟨c, k2, q2⟩ := h2 _ _ _ e2
  rw [List.take_of_length_le (i := d2.sz) (by rw [List.length_drop]; omega), ← List.drop_drop] at k2
  exact ⟨(a, b, c), ⟨_, _, (List.take_append_drop _ _).symm, k0, _, _, (List.take_append_drop _ _).symm, k1, k2⟩, q0, q1, q2⟩
end
end Go.Proofs.Ytbenhcognapdpaa
