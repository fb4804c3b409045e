/- Plain definitions and laws of matrices as lists of nine numbers. No program in sight. -/
import Derived.Test.YtbenhcognapdpaaLinM
set_option linter.unusedVariables false
set_option linter.unusedSimpArgs false
namespace Go.Proofs.Ytbenhcognapdpaa.Lin

/-- Nine bytes. -/
def IsM (m : Row) : Prop := m.length = 9 ∧ ∀ x ∈ m, 0 ≤ x ∧ x ≤ 255
theorem IsM.nt {m : Row} (h : IsM m) (j : Nat) : 0 ≤ Lin.nt m j ∧ Lin.nt m j ≤ 255 := by
  rcases Nat.lt_or_ge j m.length with hj | hj
  · rw [nt_eq m j hj]; exact h.2 _ (List.getElem_mem hj)
  · rw [nt_out m j hj]; omega
/-- The sum of the first k products of row a of g and column b of h. -/
def dot (g h : Row) (a b : Nat) : Nat → Int
  | 0 => 0
  | k + 1 => dot g h a b k + nt g (a * 3 + k) * nt h (k * 3 + b)
theorem dot_bd {g h : Row} (hg : IsM g) (hh : IsM h) (a b : Nat) (k : Nat) : 0 ≤ dot g h a b k ∧ dot g h a b k ≤ k * 65025 := by
  induction k with
  | zero => simp [dot]
  | succ k ih =>
    have h1 := hg.nt (a * 3 + k)
    have h2 := hh.nt (k * 3 + b)
    have h3 : 0 ≤ nt g (a * 3 + k) * nt h (k * 3 + b) := Int.mul_nonneg h1.1 h2.1
    have h4 : nt g (a * 3 + k) * nt h (k * 3 + b) ≤ 255 * 255 := Int.mul_le_mul h1.2 h2.2 h2.1 (by omega)
    simp only [dot]
    omega
/-- A matrix by its numbers. -/
def mk9 (f : Nat → Nat → Int) : Row := [f 0 0, f 0 1, f 0 2, f 1 0, f 1 1, f 1 2, f 2 0, f 2 1, f 2 2]
theorem mk9_nt (f : Nat → Nat → Int) (a b : Nat) (ha : a < 3) (hb : b < 3) : nt (mk9 f) (a * 3 + b) = f a b := by
  have h1 : a = 0 ∨ a = 1 ∨ a = 2 := by omega
  have h2 : b = 0 ∨ b = 1 ∨ b = 2 := by omega
  rcases h1 with rfl | rfl | rfl <;> rcases h2 with rfl | rfl | rfl <;> rfl
theorem mk9_len (f : Nat → Nat → Int) : (mk9 f).length = 9 := rfl
theorem m_ext {g h : Row} (hg : g.length = 9) (hh : h.length = 9) (e : ∀ a b, a < 3 → b < 3 → nt g (a * 3 + b) = nt h (a * 3 + b)) : g = h := by
  refine row_ext (by omega) fun j hj => ?_
  have := e (j / 3) (j % 3) (by omega) (by omega)
  rwa [show j / 3 * 3 + j % 3 = j by omega] at this
def timesM (p : Int) (n : Nat) (g h : Row) : Row := mk9 fun a b => if a < n ∧ b < n then dot g h a b n % p else 0
theorem mk9_isM (f : Nat → Nat → Int) (h : ∀ a b, a < 3 → b < 3 → 0 ≤ f a b ∧ f a b ≤ 255) : IsM (mk9 f) := by
  refine ⟨rfl, fun x hx => ?_⟩
  obtain ⟨j, hj, rfl⟩ := List.mem_iff_getElem.1 hx
  have hj' : j < 9 := hj
  have h1 := mk9_nt f (j / 3) (j % 3) (by omega) (by omega)
  rw [show j / 3 * 3 + j % 3 = j by omega, nt_eq _ _ hj] at h1
  rw [h1]
  exact h _ _ (by omega) (by omega)
theorem timesM_isM {p : Int} (hp : 0 < p) (hp2 : p ≤ 256) (n : Nat) (g h : Row) : IsM (timesM p n g h) := by
  refine mk9_isM _ fun a b _ _ => ?_
  split
  · have h1 := Int.emod_nonneg (dot g h a b n) (show p ≠ 0 by omega)
    have h2 := Int.emod_lt_of_pos (dot g h a b n) hp
    omega
  · omega
/-- While it is being made: what is there behind i rows and j numbers of the next. -/
def Part (f : Nat → Nat → Int) (n i j : Nat) (o : Row) : Prop := o.length = 9 ∧ ∀ a b, a < 3 → b < 3 → nt o (a * 3 + b) = if b < n ∧ (a < i ∨ a = i ∧ b < j) then f a b else 0
theorem nt_set {o : Row} {i : Nat} {x : Int} (h : i < o.length) (j : Nat) : nt (o.set i x) j = if j = i then x else nt o j := by
  unfold nt
  rw [List.getD_eq_getElem?_getD, List.getD_eq_getElem?_getD, List.getElem?_set]
  by_cases e : i = j
  · subst e; simp [h]
  · rw [if_neg e, if_neg (fun h => e h.symm)]
theorem Part.step {f : Nat → Nat → Int} {n i j : Nat} {o : Row} (h : Part f n i j o) (hi : i < 3) (hj : j < 3) (hn : j < n) : Part f n i (j + 1) (o.set (i * 3 + j) (f i j)) := by
  refine ⟨by rw [List.length_set]; exact h.1, fun a b ha hb => ?_⟩
  rw [nt_set (by rw [h.1]; omega), h.2 a b ha hb]
  by_cases e : a * 3 + b = i * 3 + j
  · have e1 : a = i := by omega
    have e2 : b = j := by omega
    subst e1 e2
    rw [if_pos rfl, if_pos ⟨hn, .inr ⟨rfl, by omega⟩⟩]
  · rw [if_neg e]
    by_cases c : b < n ∧ (a < i ∨ a = i ∧ b < j)
    · rw [if_pos c, if_pos ⟨c.1, by omega⟩]
    · rw [if_neg c, if_neg (by omega)]
theorem Part.next {f : Nat → Nat → Int} {n i : Nat} {o : Row} (h : Part f n i n o) : Part f n (i + 1) 0 o := by
  refine ⟨h.1, fun a b ha hb => ?_⟩
  rw [h.2 a b ha hb]
  by_cases c : b < n ∧ (a < i ∨ a = i ∧ b < n)
  · rw [if_pos c, if_pos ⟨c.1, by omega⟩]
  · rw [if_neg c, if_neg (by omega)]
theorem Part.start (f : Nat → Nat → Int) (n : Nat) : Part f n 0 0 [0, 0, 0, 0, 0, 0, 0, 0, 0] := by
  refine ⟨rfl, fun a b ha hb => ?_⟩
  rw [if_neg (by omega)]
  have h1 : a = 0 ∨ a = 1 ∨ a = 2 := by omega
  have h2 : b = 0 ∨ b = 1 ∨ b = 2 := by omega
  rcases h1 with rfl | rfl | rfl <;> rcases h2 with rfl | rfl | rfl <;> rfl
theorem Part.done {f : Nat → Nat → Int} {n : Nat} {o : Row} (h : Part f n n 0 o) : o = mk9 fun a b => if a < n ∧ b < n then f a b else 0 := by
  refine m_ext h.1 (mk9_len _) fun a b ha hb => ?_
  rw [h.2 a b ha hb, mk9_nt _ a b ha hb]
  by_cases c : a < n ∧ b < n
  · rw [if_pos c, if_pos ⟨c.2, .inl c.1⟩]
  · rw [if_neg c, if_neg (by omega)]
def unitM (n : Nat) : Row := mk9 fun a b => if a < n ∧ b < n then (if a = b then 1 else 0) else 0
/-- The unit while it is being made. -/
def UPart (n i : Nat) (o : Row) : Prop := o.length = 9 ∧ ∀ a b, a < 3 → b < 3 → nt o (a * 3 + b) = if a = b ∧ a < i then 1 else 0
theorem UPart.start (n : Nat) : UPart n 0 [0, 0, 0, 0, 0, 0, 0, 0, 0] := by
  refine ⟨rfl, fun a b ha hb => ?_⟩
  rw [if_neg (by omega)]
  have h1 : a = 0 ∨ a = 1 ∨ a = 2 := by omega
  have h2 : b = 0 ∨ b = 1 ∨ b = 2 := by omega
  rcases h1 with rfl | rfl | rfl <;> rcases h2 with rfl | rfl | rfl <;> rfl
theorem UPart.step {n i : Nat} {o : Row} (h : UPart n i o) (hi : i < 3) (hn : i < n) : UPart n (i + 1) (o.set (i * 3 + i) 1) := by
  refine ⟨by rw [List.length_set]; exact h.1, fun a b ha hb => ?_⟩
  rw [nt_set (by rw [h.1]; omega), h.2 a b ha hb]
  by_cases e : a * 3 + b = i * 3 + i
  · have e1 : a = i := by omega
    have e2 : b = i := by omega
    subst e1 e2
    rw [if_pos rfl, if_pos ⟨rfl, by omega⟩]
  · rw [if_neg e]
    by_cases c : a = b ∧ a < i
    · rw [if_pos c, if_pos ⟨c.1, by omega⟩]
    · rw [if_neg c, if_neg (by omega)]
theorem UPart.done {n : Nat} {o : Row} (h : UPart n n o) : o = unitM n := by
  refine m_ext h.1 (mk9_len _) fun a b ha hb => ?_
  rw [h.2 a b ha hb]
  unfold unitM
  rw [mk9_nt _ a b ha hb]
  by_cases c : a = b
  · subst c
    by_cases c2 : a < n
    · rw [if_pos ⟨rfl, c2⟩, if_pos ⟨c2, c2⟩, if_pos rfl]
    · rw [if_neg (by omega), if_neg (by omega)]
  · rw [if_neg (by omega), if_neg c]
    split <;> rfl
theorem unitM_isM (n : Nat) : IsM (unitM n) := mk9_isM _ fun a b _ _ => by (repeat split) <;> omega
end Go.Proofs.Ytbenhcognapdpaa.Lin
