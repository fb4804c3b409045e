/- Plain definitions: tests on rows, comparisons. No program in sight. -/
import Derived.Test.YtbenhcognapdpaaMatM
set_option linter.unusedVariables false
set_option linter.unusedSimpArgs false
namespace Go.Proofs.Ytbenhcognapdpaa.Lin

instance (p : Int) : Decidable (IsP p) := by unfold IsP; infer_instance
instance (p : Int) (r : Row) : Decidable (InR p r) := by unfold InR; infer_instance
def primeB (p : Int) : Bool := decide (IsP p)
def fieldB (p : Int) (l : Row) : Bool := decide (InR p l)
def pointB (p d : Int) (l : Row) : Bool := decide ((l.length : Int) = d ∧ InR p l)
def sameB (a b : Row) : Bool := decide (a = b)
theorem primeB_iff {p : Int} : primeB p = true ↔ IsP p := by simp [primeB]
theorem fieldB_true {p : Int} {l : Row} (h : ∀ j < l.length, 0 ≤ nt l j ∧ nt l j < p) : fieldB p l = true := decide_eq_true (inR_of_get h)
theorem fieldB_false {p : Int} {l : Row} {j : Nat} (hj : j < l.length) (h : ¬ (0 ≤ nt l j ∧ nt l j < p)) : fieldB p l = false := by
  refine decide_eq_false fun hi => h ?_
  rw [nt_eq l j hj]
  exact hi _ (List.getElem_mem hj)
theorem pointB_false {p d : Int} {l : Row} {j : Nat} (hj : j < l.length) (h : ¬ (0 ≤ nt l j ∧ nt l j < p)) : pointB p d l = false := by
  refine decide_eq_false fun hi => h ?_
  rw [nt_eq l j hj]
  exact hi.2 _ (List.getElem_mem hj)
theorem pointB_eq {p d : Int} {l : Row} (h : ∀ j < l.length, 0 ≤ nt l j ∧ nt l j < p) : pointB p d l = ((l.length : Int) == d) := by
  rw [Bool.eq_iff_iff, beq_iff_eq]
  unfold pointB
  rw [decide_eq_true_iff]
  exact ⟨fun h => h.1, fun e => ⟨e, inR_of_get h⟩⟩
theorem pointB_field (p d : Int) (l : Row) : pointB p d l = (decide ((l.length : Int) = d) && fieldB p l) := by
  unfold pointB fieldB
  rw [Bool.eq_iff_iff]
  simp
theorem sameB_false {a b : Row} {j : Nat} (hl : a.length = b.length) (hj : j < a.length) (h : nt a j ≠ nt b j) : sameB a b = false := by
  refine decide_eq_false fun e => h (by rw [e])
theorem sameB_true {a b : Row} (hl : a.length = b.length) (h : ∀ j < a.length, nt a j = nt b j) : sameB a b = true := decide_eq_true (row_ext hl h)

/-- The lexicographic order of rows: -1, 0, 1. -/
def cmpL : Row → Row → Int
  | [], [] => 0
  | [], _ :: _ => -1
  | _ :: _, [] => 1
  | a :: as, b :: bs => if a < b then -1 else if b < a then 1 else cmpL as bs
theorem cmpL_skip : ∀ {a b : Row} {k : Nat}, k ≤ a.length → k ≤ b.length → (∀ j < k, nt a j = nt b j) → cmpL a b = cmpL (a.drop k) (b.drop k) := by
  intro a b k
  induction k generalizing a b with
  | zero => intro _ _ _; rfl
  | succ k ih =>
    intro ha hb h
    cases a with
    | nil => simp at ha
    | cons x as =>
      cases b with
      | nil => simp at hb
      | cons y bs =>
        have h0 : x = y := h 0 (by omega)
        subst h0
        simp only [cmpL, Int.lt_irrefl, if_false, List.drop_succ_cons]
        exact ih (by simpa using ha) (by simpa using hb) fun j hj => h (j + 1) (by omega)
theorem cmpL_lt {a b : Row} {k : Nat} (ha : k < a.length) (hb : k < b.length) (h : ∀ j < k, nt a j = nt b j) (hl : nt a k < nt b k) : cmpL a b = -1 := by
  rw [cmpL_skip (by omega) (by omega) h, List.drop_eq_getElem_cons ha, List.drop_eq_getElem_cons hb]
  rw [nt_eq a k ha, nt_eq b k hb] at hl
  simp [cmpL, hl]
theorem cmpL_gt {a b : Row} {k : Nat} (ha : k < a.length) (hb : k < b.length) (h : ∀ j < k, nt a j = nt b j) (hl : nt b k < nt a k) : cmpL a b = 1 := by
  rw [cmpL_skip (by omega) (by omega) h, List.drop_eq_getElem_cons ha, List.drop_eq_getElem_cons hb]
  rw [nt_eq a k ha, nt_eq b k hb] at hl
  have : ¬ a[k] < b[k] := by omega
  simp [cmpL, hl, this]
theorem cmpL_end {a b : Row} (hl : a.length ≤ b.length) (h : ∀ j < a.length, nt a j = nt b j) : cmpL a b = if a.length < b.length then -1 else 0 := by
  rw [cmpL_skip (k := a.length) (by omega) hl h, List.drop_length]
  split
  · rename_i h2
    rw [List.drop_eq_getElem_cons h2]; rfl
  · rw [List.drop_eq_nil_of_le (by omega)]; rfl
theorem cmpL_out {a b : Row} (hl : b.length < a.length) (h : ∀ j < b.length, nt a j = nt b j) : cmpL a b = 1 := by
  rw [cmpL_skip (k := b.length) (by omega) (by omega) h, List.drop_length, List.drop_eq_getElem_cons hl]; rfl
/-- Of two numbers. -/
def cmpI (a b : Int) : Int := if a < b then -1 else if b < a then 1 else 0
theorem cmpL_cases : ∀ (a b : Row), cmpL a b = -1 ∨ cmpL a b = 0 ∨ cmpL a b = 1
  | [], [] => by simp [cmpL]
  | [], _ :: _ => by simp [cmpL]
  | _ :: _, [] => by simp [cmpL]
  | a :: as, b :: bs => by
    simp only [cmpL]
    split
    · simp
    · split
      · simp
      · exact cmpL_cases as bs
theorem cmpL_self : ∀ (a : Row), cmpL a a = 0
  | [] => rfl
  | a :: as => by simp [cmpL, cmpL_self as]
theorem cmpL_eq_zero : ∀ {a b : Row}, cmpL a b = 0 → a = b
  | [], [], _ => rfl
  | [], _ :: _, h => by simp [cmpL] at h
  | _ :: _, [], h => by simp [cmpL] at h
  | a :: as, b :: bs, h => by
    simp only [cmpL] at h
    split at h
    · cases h
    · split at h
      · cases h
      · rw [cmpL_eq_zero h, show a = b by omega]
theorem cmpL_append : ∀ {a b : Row} (c d : Row), a.length = b.length → cmpL (a ++ c) (b ++ d) = if cmpL a b = 0 then cmpL c d else cmpL a b
  | [], [], c, d, _ => by simp [cmpL]
  | a :: as, b :: bs, c, d, h => by
    have ih := cmpL_append (a := as) (b := bs) c d (by simpa using h)
    simp only [List.cons_append, cmpL]
    split
    · simp
    · split
      · simp
      · exact ih
  | [], _ :: _, _, _, h => by simp at h
  | _ :: _, [], _, _, h => by simp at h
theorem cmpL_rev : ∀ (a b : Row), cmpL b a = - cmpL a b
  | [], [] => by simp [cmpL]
  | [], _ :: _ => by simp [cmpL]
  | _ :: _, [] => by simp [cmpL]
  | a :: as, b :: bs => by
    simp only [cmpL]
    by_cases h : a < b
    · have : ¬ b < a := by omega
      simp [h, this]
    · by_cases h2 : b < a
      · simp [h, h2]
      · simp [h, h2, cmpL_rev as bs]
/-- Row i of a matrix. -/
def rowM (m : Row) (i : Nat) : Row := (m.drop (i * 3)).take 3
theorem rowM_len {m : Row} (h : m.length = 9) {i : Nat} (hi : i < 3) : (rowM m i).length = 3 := by
  simp [rowM]; omega
theorem rowM_nt {m : Row} (h : m.length = 9) {i : Nat} (hi : i < 3) {j : Nat} (hj : j < 3) : nt (rowM m i) j = nt m (i * 3 + j) := by
  unfold nt rowM
  simp only [List.getD_eq_getElem?_getD, List.getElem?_take, List.getElem?_drop]
  rw [if_pos hj]
theorem cmpL_row {m g : Row} (hm : m.length = 9) (hg : g.length = 9) {i : Nat} (hi : i < 3) (h : ∀ j < i * 3, nt m j = nt g j) (hc : cmpL (rowM m i) (rowM g i) ≠ 0) : cmpL m g = cmpL (rowM m i) (rowM g i) := by
  rw [cmpL_skip (k := i * 3) (by omega) (by omega) h]
  conv => lhs; rw [← List.take_append_drop 3 (m.drop (i * 3)), ← List.take_append_drop 3 (g.drop (i * 3))]
  rw [cmpL_append _ _ (by simp; omega)]
  exact if_neg hc
theorem rows_next {m g : Row} (hm : m.length = 9) (hg : g.length = 9) {i : Nat} (hi : i < 3) (h : ∀ j < i * 3, nt m j = nt g j) (hc : cmpL (rowM m i) (rowM g i) = 0) : ∀ j < (i + 1) * 3, nt m j = nt g j := by
  intro j hj
  by_cases h1 : j < i * 3
  · exact h j h1
  · have e := cmpL_eq_zero hc
    have e1 := rowM_nt hm hi (j := j - i * 3) (by omega)
    have e2 := rowM_nt hg hi (j := j - i * 3) (by omega)
    rw [e] at e1
    rw [show i * 3 + (j - i * 3) = j by omega] at e1 e2
    rw [← e1, ← e2]
theorem cmpL_all {m g : Row} (hm : m.length = 9) (hg : g.length = 9) (h : ∀ j < 3 * 3, nt m j = nt g j) : cmpL m g = 0 := by
  rw [row_ext (a := m) (b := g) (by omega) (fun j hj => h j (by omega)), cmpL_self]
end Go.Proofs.Ytbenhcognapdpaa.Lin
