/- Plain laws: points and their orbits. -/
import Derived.Test.YtbenhcognapdpaaDetM2
import Derived.Test.YtbenhcognapdpaaSmallM
set_option linter.unusedVariables false
set_option linter.unusedSimpArgs false
namespace Go.Proofs.Ytbenhcognapdpaa.Lin

/-- Where a matrix leads a point, one number of it. -/
def dotV (x m : Row) (j : Nat) : Nat → Int
  | 0 => 0
  | k + 1 => dotV x m j k + nt x k * nt m (k * 3 + j)
theorem dotV_bd {p : Int} {x m : Row} (hx : InR p x) (hp : 0 < p) (hp2 : p ≤ 1000) (hm : IsM m) (j k : Nat) : 0 ≤ dotV x m j k ∧ dotV x m j k ≤ k * 255000 := by
  induction k with
  | zero => simp [dotV]
  | succ k ih =>
    have h1 := hx.nt hp k
    have h2 := hm.nt (k * 3 + j)
    have h3 : 0 ≤ nt x k * nt m (k * 3 + j) := Int.mul_nonneg h1.1 h2.1
    have h4 : nt x k * nt m (k * 3 + j) ≤ 1000 * 255 := Int.mul_le_mul (by omega) h2.2 h2.1 (by omega)
    simp only [dotV]
    omega
def leadV (p : Int) (n : Nat) (x m : Row) : Row := (List.range n).map (fun j => dotV x m j n % p)
theorem leadV_len (p : Int) (n : Nat) (x m : Row) : (leadV p n x m).length = n := by simp [leadV]
theorem leadV_nt (p : Int) (n : Nat) (x m : Row) {j : Nat} (hj : j < n) : nt (leadV p n x m) j = dotV x m j n % p := by
  rw [nt_eq _ _ (by rw [leadV_len]; exact hj)]
  simp [leadV]
theorem leadV_inR {p : Int} (hp : 0 < p) (n : Nat) (x m : Row) : InR p (leadV p n x m) := by
  refine inR_of_get fun j hj => ?_
  rw [leadV_len] at hj
  rw [leadV_nt _ _ _ _ hj]
  exact ⟨Int.emod_nonneg _ (by omega), Int.emod_lt_of_pos _ hp⟩

/-- A row put into rows in order, once. -/
def orbIns (own : Row) : List Row → List Row
  | [] => [own]
  | r :: rs => if cmpL r own < 0 then r :: orbIns own rs else if cmpL r own = 0 then r :: rs else own :: r :: rs
def orbAt (own : Row) (out : List Row) : Nat := out.findIdx (fun r => decide (0 ≤ cmpL r own))
def orbitS (p : Int) (n : Nat) (l : List Row) (x : Row) : List Row := (l.map (leadV p n x)).foldl (fun out own => orbIns own out) []
theorem orbIns_mem {own x : Row} {out : List Row} : x ∈ orbIns own out ↔ x = own ∨ x ∈ out := by
  induction out with
  | nil => simp [orbIns]
  | cons r rs ih =>
    simp only [orbIns]
    split
    · rw [List.mem_cons, ih, List.mem_cons]
      constructor
      · rintro (h | h | h)
        · exact .inr (.inl h)
        · exact .inl h
        · exact .inr (.inr h)
      · rintro (h | h | h)
        · exact .inr (.inl h)
        · exact .inl h
        · exact .inr (.inr h)
    · split
      · rename_i h
        have := cmpL_eq_zero h
        subst this
        simp
      · simp
theorem cmpL_trans : ∀ {a b c : Row}, cmpL a b < 0 → cmpL b c < 0 → cmpL a c < 0
  | [], b, [], h1, h2 => by
    cases b with
    | nil => simp [cmpL] at h1
    | cons b bs => simp [cmpL] at h2
  | [], b, c :: cs, h1, h2 => by simp [cmpL]
  | a :: as', [], c, h1, h2 => by simp [cmpL] at h1
  | a :: as', b :: bs, [], h1, h2 => by simp [cmpL] at h2
  | a :: as', b :: bs, c :: cs, h1, h2 => by
    have ih := @cmpL_trans as' bs cs
    simp only [cmpL] at h1 h2 ⊢
    split at h1
    · split at h2
      · rw [if_pos (by omega)]; omega
      · split at h2
        · omega
        · rw [if_pos (by omega)]; omega
    · split at h1
      · omega
      · split at h2
        · rw [if_pos (by omega)]; omega
        · split at h2
          · omega
          · rw [if_neg (by omega), if_neg (by omega)]
            exact ih h1 h2
def Sorted (l : List Row) : Prop := l.Pairwise (fun a b => cmpL a b < 0)
theorem orbIns_sorted {own : Row} {out : List Row} (h : Sorted out) : Sorted (orbIns own out) := by
  induction out with
  | nil => simp [orbIns, Sorted]
  | cons r rs ih =>
    have hc := List.pairwise_cons.1 h
    have ih := ih hc.2
    simp only [orbIns]
    split
    · rename_i hlt
      refine List.pairwise_cons.2 ⟨fun x hx => ?_, ih⟩
      rcases orbIns_mem.1 hx with rfl | hx
      · exact hlt
      · exact hc.1 x hx
    · split
      · exact h
      · rename_i h1 h2
        have hlt : cmpL own r < 0 := by have := cmpL_rev r own; omega
        refine List.pairwise_cons.2 ⟨fun x hx => ?_, h⟩
        rcases List.mem_cons.1 hx with rfl | hx
        · exact hlt
        · exact cmpL_trans hlt (hc.1 x hx)
theorem foldl_ins_mem {x : Row} (l : List Row) : ∀ (out : List Row), x ∈ l.foldl (fun out own => orbIns own out) out ↔ x ∈ l ∨ x ∈ out := by
  induction l with
  | nil => intro out; simp
  | cons a l ih =>
    intro out
    rw [List.foldl_cons, ih, orbIns_mem, List.mem_cons]
    constructor
    · rintro (h | h | h)
      · exact .inl (.inr h)
      · exact .inl (.inl h)
      · exact .inr h
    · rintro ((h | h) | h)
      · exact .inr (.inl h)
      · exact .inl h
      · exact .inr (.inr h)
theorem foldl_ins_sorted (l : List Row) : ∀ (out : List Row), Sorted out → Sorted (l.foldl (fun out own => orbIns own out) out) := by
  induction l with
  | nil => intro out h; exact h
  | cons a l ih => intro out h; exact ih _ (orbIns_sorted h)
theorem orbitS_mem {p : Int} {n : Nat} {l : List Row} {x y : Row} : y ∈ orbitS p n l x ↔ ∃ m ∈ l, y = leadV p n x m := by
  unfold orbitS
  rw [foldl_ins_mem, List.mem_map]
  simp [eq_comm]
theorem orbitS_sorted (p : Int) (n : Nat) (l : List Row) (x : Row) : Sorted (orbitS p n l x) := foldl_ins_sorted _ _ List.Pairwise.nil
theorem cmpL_irrefl {a : Row} : ¬ cmpL a a < 0 := by rw [cmpL_self]; omega
theorem sorted_ext : ∀ {a b : List Row}, Sorted a → Sorted b → (∀ x, x ∈ a ↔ x ∈ b) → a = b
  | [], [], _, _, _ => rfl
  | [], b :: bs, _, _, h => by have := (h b).2 (List.mem_cons_self ..); cases this
  | a :: as', [], _, _, h => by have := (h a).1 (List.mem_cons_self ..); cases this
  | a :: as', b :: bs, ha, hb, h => by
    have ha' := List.pairwise_cons.1 ha
    have hb' := List.pairwise_cons.1 hb
    have hab : a = b := by
      have h1 := (h a).1 (List.mem_cons_self ..)
      have h2 := (h b).2 (List.mem_cons_self ..)
      rcases List.mem_cons.1 h1 with e | e
      · exact e
      · rcases List.mem_cons.1 h2 with e2 | e2
        · exact e2.symm
        · exact absurd (cmpL_trans (ha'.1 b e2) (hb'.1 a e)) cmpL_irrefl
    subst hab
    congr 1
    refine sorted_ext ha'.2 hb'.2 fun x => ⟨fun hx => ?_, fun hx => ?_⟩
    · rcases List.mem_cons.1 ((h x).1 (List.mem_cons_of_mem _ hx)) with e | e
      · subst e; exact absurd (ha'.1 x hx) cmpL_irrefl
      · exact e
    · rcases List.mem_cons.1 ((h x).2 (List.mem_cons_of_mem _ hx)) with e | e
      · subst e; exact absurd (hb'.1 x hx) cmpL_irrefl
      · exact e
/-- By its place. -/
theorem orbIns_at (own : Row) : ∀ (out : List Row) (k : Nat), k ≤ out.length → (∀ j < k, cmpL (out.getD j []) own < 0) →
    (k < out.length → 0 ≤ cmpL (out.getD k []) own) → orbIns own out = if k < out.length ∧ cmpL (out.getD k []) own = 0 then out else out.take k ++ ([own] ++ out.drop k)
  | [], k, hk, _, _ => by
    have : k = 0 := by simpa using hk
    subst this
    simp [orbIns]
  | r :: rs, 0, _, _, h2 => by
    have h := h2 (by simp)
    simp only [List.getD_cons_zero] at h
    simp only [orbIns, List.getD_cons_zero]
    rw [if_neg (by omega)]
    by_cases h0 : cmpL r own = 0
    · rw [if_pos h0, if_pos ⟨by simp, h0⟩]
    · rw [if_neg h0, if_neg (fun h => h0 h.2)]; simp
  | r :: rs, k + 1, hk, h1, h2 => by
    have ih := orbIns_at own rs k (by simpa using hk) (fun j hj => by simpa using h1 (j + 1) (by omega)) (fun hj => by simpa using h2 (by simpa using hj))
    have h0 := h1 0 (by omega)
    simp only [List.getD_cons_zero] at h0
    simp only [orbIns, List.getD_cons_succ, List.length_cons]
    rw [if_pos h0, ih]
    by_cases hc : k < rs.length ∧ cmpL (rs.getD k []) own = 0
    · rw [if_pos hc, if_pos ⟨by omega, hc.2⟩]
    · rw [if_neg hc, if_neg (fun h => hc ⟨by omega, h.2⟩)]; simp
end Go.Proofs.Ytbenhcognapdpaa.Lin
