/- Rows of rows: cuts, literals of one row, appends of many rows. -/
import Derived.Test.YtbenhcognapdpaaInv
set_option linter.unusedVariables false
set_option linter.unusedSimpArgs false
namespace Go.Proofs.Ytbenhcognapdpaa
open Go.RowKit Go.Proofs.YtbenhcognapdpaaW.PrintWords Go.Proofs.YtbenhcognapdpaaW.PrintLast Lin

theorem rows_drop {α : Type} {R : α → List Value → Prop} {size m c : Nat} {w : World} {A : Option Addr} {xs : List α} (h : ReadsRow R size w A xs.length xs) (hm : m ≤ xs.length) (hc : xs.length ≤ c) :
    ReadsRow R size w (if c = m then A else A.map (·.add (m * size))) (xs.length - m) (xs.drop m) := by
  refine ⟨List.length_drop, by have := h.2.1; omega, fun hp => ?_⟩
  obtain ⟨ad, rfl, hcell⟩ := h.2.2 (by omega)
  rw [if_neg (by omega)]
  refine ⟨ad.add (m * size), rfl, fun j p hj => ?_⟩
  rw [List.getElem?_drop] at hj
  obtain ⟨cs, h1, h2, h3⟩ := hcell (m + j) p hj
  refine ⟨cs, h1, h2, fun i u hu => ?_⟩
  rw [add_add', show m * size + (j * size + i) = (m + j) * size + i by rw [Nat.add_mul]; omega]
  exact h3 i u hu
theorem rows_take {α : Type} {R : α → List Value → Prop} {size m : Nat} {w : World} {A : Option Addr} {xs : List α} (h : ReadsRow R size w A xs.length xs) (hm : m ≤ xs.length) :
    ReadsRow R size w A m (xs.take m) := by
  refine ⟨by rw [List.length_take]; omega, by have := h.2.1; omega, fun hp => ?_⟩
  obtain ⟨ad, rfl, hcell⟩ := h.2.2 (by omega)
  refine ⟨ad, rfl, fun j p hj => ?_⟩
  rw [List.getElem?_take] at hj
  split at hj
  · exact hcell j p hj
  · cases hj
theorem R_rows {α : Type} {d : Kd α} {e base : Nat} {ok : Nat → Prop} {W : World} {v : Value} {xs : List α} (h : d.R e W base ok v xs) :
    ∃ A c, v = .slice A xs.length c ∧ xs.length ≤ c ∧ ReadsRow (d.M W base (fun k => ok k ∧ some k ≠ v.ownBlock)) d.sz W A xs.length xs := by
  obtain ⟨h0, inner, hown, hr⟩ := h
  obtain ⟨A, c, hv, h1⟩ := own_reads_row hown hr rfl
  obtain ⟨A', c', hv', hle⟩ := OwnRow.slice_ (R := d.M W base (fun k => ok k ∧ some k ≠ v.ownBlock)) ⟨inner, hown, hr⟩
  rw [hv] at hv'
  cases hv'
  exact ⟨A, c, hv, hle, h1⟩
theorem R_rows' {α : Type} {d : Kd α} {e base n c : Nat} {ok : Nat → Prop} {W : World} {A : Option Addr} {xs : List α} (h : d.R e W base ok (.slice A n c) xs) :
    n = xs.length ∧ xs.length ≤ c ∧ ReadsRow (d.M W base (fun k => ok k ∧ some k ≠ (Value.slice A n c).ownBlock)) d.sz W A xs.length xs := by
  obtain ⟨A', c', hv, hle, hr⟩ := R_rows h
  cases hv
  exact ⟨rfl, hle, hr⟩
theorem R_lit1 {α : Type} (d : Kd α) (e : Nat) (W : World) (B : Nat) {x : α} {cs : List Value} {okp : Nat → Prop} (hx : d.M W B okp x cs) (h : B ≤ W.heap.size) : d.R e (W.alloc (.cells cs.toArray e)) B (fun _ => True) (.slice (some ⟨W.heap.size, 0, none⟩) 1 1) [x] := by
  have hlen := d.K_len (d.K_of_M hx)
  have hrep : Reps (d.M W B okp) d.sz [x] cs := ⟨by simp [hlen], fun j p hj => by
    have hj0 : j = 0 := by have := (List.getElem?_eq_some_iff.1 hj).1; simpa using this
    subst hj0
    have : x = p := by simpa using hj
    subst this
    rw [Nat.zero_mul, List.drop_zero, ← hlen, List.take_length]
    exact hx⟩
  refine ⟨fun _ _ => trivial, cs, ?_, ?_⟩
  · have h2 := World.ownsRow_lit (base := B) (e := e) (size := d.sz) W cs.toArray 1 h (by simp [maxLen]) (by simp [hlen])
    simpa using h2
  · refine hrep.imp_ (fun p c hp => d.M_mono (fun k hk => ⟨trivial, fun he => ?_⟩) (Kd.M_below (d.M_bound hp) (below_alloc (Below.refl _ _) _)))
    have h3 : k = W.heap.size := by simpa [Value.ownBlock] using he
    have := hk.2.2.1
    omega
section
variable {P : Program} {ops : Array Oper} {rest : List Oper} {o : Oper} {a : Act} {Q : Exit → Act → World → Prop}
/-- append(v, ys...): v an own list of rows, ys rows of the call's own. -/
theorem app_rows {w0 W : World} (hgd : o.guard = none) (s x : Operand) (t : TypeId) (ho : o.op = .call { callee := .builtin .append, args := #[s, x], argTypes := #[t, t] })
    (ht : P.underlying t = some (.slice 38)) (hinfo : (P.info? 38).map (fun i => (i.zero, i.size, i.bytes)) = some (some (.slice none 0 0), 1, 24))
    (v : Value) (xs ys : List (List Int)) (A : Option Addr) (m c : Nat) (okp : Nat → Prop) (hs : a.eval s = v) (hx : a.eval x = .slice A m c)
    (HO : kR.R 38 W w0.heap.size (fun _ => True) v xs) (HR : ReadsRow (kR.M W w0.heap.size okp) 1 W A m ys) (hokp : ∀ k, okp k → some k ≠ v.ownBlock) (HB : Below w0.heap.size w0 W) (hl : xs.length + m < 1000000000000)
    (h : ∀ v1 w1, kR.R 38 w1 w0.heap.size (fun _ => True) v1 (xs ++ ys) → Below w0.heap.size w0 w1 → W.grownBy w1 v.ownBlock → (v1.ownBlock = v.ownBlock ∨ ∃ b, v1.ownBlock = some b ∧ W.heap.size ≤ b) → wpList P ops Q rest (a.put o.dst v1) w1) :
    wpList P ops Q (o :: rest) a W :=
  Kd.R_append_rows kR (Rr := kR.M W w0.heap.size okp) w0.heap.size hgd s x t 38 (.slice none 0 0) 24 ho ht hinfo rfl (by decide) (by omega) v xs ys A m c (fun _ => True) okp hs hx HO HR (fun _ _ h => h) (fun k h => ⟨trivial, hokp k h⟩) (fun _ _ => trivial) HB HB.size (by omega) h
end
end Go.Proofs.Ytbenhcognapdpaa
