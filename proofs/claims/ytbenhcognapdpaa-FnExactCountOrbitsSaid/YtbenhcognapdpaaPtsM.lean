/- Plain law: the two lists of all points of n numbers modulo p hold the same points, each once. No program in sight. -/
import Derived.Test.YtbenhcognapdpaaLinM
set_option linter.unusedVariables false
set_option linter.unusedSimpArgs false
namespace Go.Proofs.Ytbenhcognapdpaa.Lin

/-- The numbers of v to the base p, the least first. -/
def digs (p : Nat) : Nat → Nat → Row
  | 0, _ => []
  | n + 1, v => ((v % p : Nat) : Int) :: digs p n (v / p)
def ptsI (p n : Nat) : List Row := (List.range (p ^ n)).map (digs p n)
/-- All rows of n numbers, the first the greatest. -/
def ptsS (p : Nat) : Nat → List Row
  | 0 => [[]]
  | n + 1 => (ptsS p n).flatMap fun x => (List.range p).map fun v => x ++ [((v : Nat) : Int)]
theorem digs_len (p : Nat) : ∀ (n v : Nat), (digs p n v).length = n
  | 0, _ => rfl
  | n + 1, v => by simp [digs, digs_len p n]
theorem digs_inj (p : Nat) : ∀ (n v w : Nat), v < p ^ n → w < p ^ n → digs p n v = digs p n w → v = w
  | 0, v, w, hv, hw, _ => by simp at hv hw; omega
  | n + 1, v, w, hv, hw, h => by
    simp only [digs, List.cons.injEq] at h
    have hp : 0 < p := by
      rcases Nat.eq_zero_or_pos p with h0 | h0
      · subst h0; simp at hv
      · exact h0
    have h1 : v / p < p ^ n := by rw [Nat.div_lt_iff_lt_mul hp, ← Nat.pow_succ]; exact hv
    have h2 : w / p < p ^ n := by rw [Nat.div_lt_iff_lt_mul hp, ← Nat.pow_succ]; exact hw
    have h3 := digs_inj p n _ _ h1 h2 h.2
    have h4 : v % p = w % p := by have := h.1; omega
    rw [← Nat.div_add_mod v p, ← Nat.div_add_mod w p, h3, h4]
theorem digs_mem (p : Nat) (hp : 0 < p) : ∀ (n : Nat) (x : Row), x.length = n → InR p x → ∃ v, v < p ^ n ∧ digs p n v = x
  | 0, x, hl, _ => ⟨0, by simp, by rw [List.eq_nil_of_length_eq_zero hl]; rfl⟩
  | n + 1, [], hl, _ => by simp at hl
  | n + 1, a :: x, hl, hx => by
    obtain ⟨v, hv, he⟩ := digs_mem p hp n x (by simpa using hl) (fun y hy => hx y (List.mem_cons_of_mem _ hy))
    have ha := hx a List.mem_cons_self
    obtain ⟨k, rfl⟩ : ∃ k : Nat, a = k := ⟨a.toNat, by omega⟩
    have hk : k < p := by omega
    refine ⟨k + p * v, ?_, ?_⟩
    · rw [Nat.pow_succ]
      have : p * v + p ≤ p * p ^ n := by rw [← Nat.mul_succ]; exact Nat.mul_le_mul_left _ hv
      rw [Nat.mul_comm (p ^ n)]
      omega
    · simp only [digs]
      rw [Nat.add_mul_mod_self_left, Nat.mod_eq_of_lt hk, Nat.add_mul_div_left _ _ hp, Nat.div_eq_of_lt hk, Nat.zero_add, he]
theorem digs_inR (p : Nat) (hp : 0 < p) : ∀ (n v : Nat), InR p (digs p n v)
  | 0, _ => by intro x hx; cases hx
  | n + 1, v => by
    intro x hx
    simp only [digs, List.mem_cons] at hx
    rcases hx with rfl | hx
    · have := Nat.mod_lt v hp; omega
    · exact digs_inR p hp n _ x hx
theorem ptsI_mem {p : Nat} (hp : 0 < p) (n : Nat) (x : Row) : x ∈ ptsI p n ↔ x.length = n ∧ InR p x := by
  unfold ptsI
  rw [List.mem_map]
  constructor
  · rintro ⟨v, _, rfl⟩; exact ⟨digs_len p n v, digs_inR p hp n v⟩
  · rintro ⟨h1, h2⟩
    obtain ⟨v, hv, he⟩ := digs_mem p hp n x h1 h2
    exact ⟨v, List.mem_range.2 hv, he⟩
theorem snoc_split {x : Row} {n : Nat} (h : x.length = n + 1) : ∃ y a, x = y ++ [a] ∧ y.length = n := by
  refine ⟨x.dropLast, x.getLast (by intro e; rw [e] at h; simp at h), (List.dropLast_concat_getLast _).symm, by rw [List.length_dropLast]; omega⟩
theorem ptsS_mem {p : Nat} : ∀ (n : Nat) (x : Row), x ∈ ptsS p n ↔ x.length = n ∧ InR p x
  | 0, x => by
    simp only [ptsS, List.mem_singleton]
    constructor
    · rintro rfl; exact ⟨rfl, fun y hy => by cases hy⟩
    · rintro ⟨h, _⟩; exact List.eq_nil_of_length_eq_zero h
  | n + 1, x => by
    simp only [ptsS, List.mem_flatMap, List.mem_map, List.mem_range]
    constructor
    · rintro ⟨y, hy, v, hv, rfl⟩
      obtain ⟨h1, h2⟩ := (ptsS_mem n y).1 hy
      refine ⟨by simp [h1], fun z hz => ?_⟩
      rcases List.mem_append.1 hz with hz | hz
      · exact h2 z hz
      · simp at hz; omega
    · rintro ⟨h1, h2⟩
      obtain ⟨y, a, rfl, hy⟩ := snoc_split h1
      have ha := h2 a (by simp)
      exact ⟨y, (ptsS_mem n y).2 ⟨hy, fun z hz => h2 z (by simp [hz])⟩, a.toNat, by omega, by rw [Int.toNat_of_nonneg ha.1]⟩
theorem ptsI_nodup (p n : Nat) : (ptsI p n).Nodup := by
  unfold ptsI List.Nodup
  rw [List.pairwise_map]
  refine List.Pairwise.imp_of_mem (fun {a b} ha hb hab e => hab ?_) List.nodup_range
  exact digs_inj p n a b (List.mem_range.1 ha) (List.mem_range.1 hb) e
theorem snoc_inj {a b : Row} {x y : Int} (h : a ++ [x] = b ++ [y]) : a = b ∧ x = y := by
  have h1 := List.append_inj' h rfl
  exact ⟨h1.1, by simpa using h1.2⟩
theorem ptsS_nodup (p : Nat) : ∀ n, (ptsS p n).Nodup
  | 0 => by simp [ptsS]
  | n + 1 => by
    unfold ptsS List.Nodup
    rw [List.pairwise_flatMap]
    refine ⟨fun x _ => ?_, ?_⟩
    · rw [List.pairwise_map]
      exact List.Pairwise.imp (fun {a b} hab e => hab (by have := (snoc_inj e).2; omega)) List.nodup_range
    · refine List.Pairwise.imp (fun {a b} hab x hx y hy e => ?_) (ptsS_nodup p n)
      obtain ⟨v, _, rfl⟩ := List.mem_map.1 hx
      obtain ⟨u, _, rfl⟩ := List.mem_map.1 hy
      exact hab (snoc_inj e).1
theorem pts_perm {p : Nat} (hp : 0 < p) (n : Nat) : (ptsI p n).Perm (ptsS p n) :=
  (List.perm_ext_iff_of_nodup (ptsI_nodup p n) (ptsS_nodup p n)).2 fun x => by rw [ptsI_mem hp, ptsS_mem]
theorem ptsS_len (p : Nat) : ∀ n, (ptsS p n).length = p ^ n
  | 0 => rfl
  | n + 1 => by
    simp only [ptsS, List.length_flatMap, List.length_map, List.length_range]
    rw [List.map_const', List.sum_replicate_nat, ptsS_len p n, Nat.pow_succ]
theorem ptsI_len (p n : Nat) : (ptsI p n).length = p ^ n := by simp [ptsI]
end Go.Proofs.Ytbenhcognapdpaa.Lin
