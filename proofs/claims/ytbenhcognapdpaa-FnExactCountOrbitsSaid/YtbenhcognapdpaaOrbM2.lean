/- Plain laws: a point is in an orbit just if both orbits begin alike. -/
import Derived.Test.YtbenhcognapdpaaOrbM
import Derived.Test.YtbenhcognapdpaaMatM
set_option linter.unusedVariables false
set_option linter.unusedSimpArgs false
namespace Go.Proofs.Ytbenhcognapdpaa.Lin

theorem emod_eq_of {p a b q : Int} (h : a - b = p * q) : a % p = b % p := by
  rw [show a = b + p * q by omega, Int.add_mul_emod_self_left]
theorem timesM_nt (p : Int) (n : Nat) (g h : Row) {a b : Nat} (ha : a < n) (hb : b < n) (hn : n ≤ 3) : nt (timesM p n g h) (a * 3 + b) = dot g h a b n % p := by
  unfold timesM
  rw [mk9_nt _ _ _ (by omega) (by omega), if_pos ⟨ha, hb⟩]
theorem lead_times {p : Int} {n : Nat} (hn3 : n ≤ 3) (x g h : Row) : leadV p n (leadV p n x g) h = leadV p n x (timesM p n g h) := by
  refine row_ext (by simp [leadV_len]) fun j hj => ?_
  rw [leadV_len] at hj
  rw [leadV_nt _ _ _ _ hj, leadV_nt _ _ _ _ hj]
  have hx : ∀ k, k < n → ∃ q, nt (leadV p n x g) k = dotV x g k n - p * q := fun k hk => ⟨dotV x g k n / p, by rw [leadV_nt _ _ _ _ hk, Int.emod_def]⟩
  have ht : ∀ k, k < n → ∃ q, nt (timesM p n g h) (k * 3 + j) = dot g h k j n - p * q := fun k hk => ⟨dot g h k j n / p, by rw [timesM_nt p n g h hk hj hn3, Int.emod_def]⟩
  obtain rfl | rfl | rfl | rfl : n = 0 ∨ n = 1 ∨ n = 2 ∨ n = 3 := by omega
  · omega
  · obtain ⟨a, ha⟩ := hx 0 (by omega)
    obtain ⟨b, hb⟩ := ht 0 (by omega)
    simp only [dotV, dot] at *
    rw [ha, hb]
    exact emod_eq_of (q := - a * nt h (0 * 3 + j) + nt x 0 * b) (by grind)
  · obtain ⟨a0, ha0⟩ := hx 0 (by omega)
    obtain ⟨a1, ha1⟩ := hx 1 (by omega)
    obtain ⟨b0, hb0⟩ := ht 0 (by omega)
    obtain ⟨b1, hb1⟩ := ht 1 (by omega)
    simp only [dotV, dot] at *
    rw [ha0, ha1, hb0, hb1]
    exact emod_eq_of (q := - a0 * nt h (0 * 3 + j) - a1 * nt h (1 * 3 + j) + nt x 0 * b0 + nt x 1 * b1) (by grind)
  · obtain ⟨a0, ha0⟩ := hx 0 (by omega)
    obtain ⟨a1, ha1⟩ := hx 1 (by omega)
    obtain ⟨a2, ha2⟩ := hx 2 (by omega)
    obtain ⟨b0, hb0⟩ := ht 0 (by omega)
    obtain ⟨b1, hb1⟩ := ht 1 (by omega)
    obtain ⟨b2, hb2⟩ := ht 2 (by omega)
    simp only [dotV, dot] at *
    rw [ha0, ha1, ha2, hb0, hb1, hb2]
    exact emod_eq_of (q := - a0 * nt h (0 * 3 + j) - a1 * nt h (1 * 3 + j) - a2 * nt h (2 * 3 + j) + nt x 0 * b0 + nt x 1 * b1 + nt x 2 * b2) (by grind)
theorem unitM_nt (n : Nat) {a b : Nat} (ha : a < n) (hb : b < n) (hn : n ≤ 3) : nt (unitM n) (a * 3 + b) = if a = b then 1 else 0 := by
  unfold unitM
  rw [mk9_nt _ _ _ (by omega) (by omega), if_pos ⟨ha, hb⟩]
theorem lead_unit {p : Int} {n : Nat} (hn3 : n ≤ 3) {x : Row} (hp : 0 < p) (hx : InR p x) (hl : x.length = n) : leadV p n x (unitM n) = x := by
  refine row_ext (by rw [leadV_len, hl]) fun j hj => ?_
  rw [leadV_len] at hj
  rw [leadV_nt _ _ _ _ hj]
  have hb := hx.nt hp j
  have hu : ∀ k, k < n → nt (unitM n) (k * 3 + j) = if k = j then 1 else 0 := fun k hk => unitM_nt n hk hj hn3
  have e : dotV x (unitM n) j n = nt x j := by
    obtain rfl | rfl | rfl | rfl : n = 0 ∨ n = 1 ∨ n = 2 ∨ n = 3 := by omega
    · omega
    · obtain rfl : j = 0 := by omega
      simp only [dotV]
      rw [hu 0 (by omega)]
      simp
    · simp only [dotV]
      rw [hu 0 (by omega), hu 1 (by omega)]
      obtain rfl | rfl : j = 0 ∨ j = 1 := by omega
      all_goals simp
    · simp only [dotV]
      rw [hu 0 (by omega), hu 1 (by omega), hu 2 (by omega)]
      obtain rfl | rfl | rfl : j = 0 ∨ j = 1 ∨ j = 2 := by omega
      all_goals simp
  rw [e]
  exact Int.emod_eq_of_lt hb.1 hb.2
/-- A matrix whose determinant is not 0 leads different points to different points. -/
theorem lead_inj {p : Int} (hp : IsP p) {n : Nat} (hn : 1 ≤ n) (hn3 : n ≤ 3) {x y m : Row} (hx : InR p x) (hy : InR p y) (hxl : x.length = n) (hyl : y.length = n) (hd : detV n m % p ≠ 0) (h : leadV p n x m = leadV p n y m) : x = y := by
  have hpp := hp.pos
  have hj : ∀ j, j < n → ∃ q, dotV x m j n - dotV y m j n = p * q := by
    intro j hj
    have e : nt (leadV p n x m) j = nt (leadV p n y m) j := by rw [h]
    rw [leadV_nt _ _ _ _ hj, leadV_nt _ _ _ _ hj] at e
    have := Int.emod_emod_of_dvd (dotV x m j n - dotV y m j n) (Int.dvd_refl p)
    have h2 : (dotV x m j n - dotV y m j n) % p = 0 := by rw [Int.sub_emod, e]; simp
    obtain ⟨q, hq⟩ := Int.dvd_of_emod_eq_zero h2
    exact ⟨q, hq⟩
  have hk : ∀ k, k < n → ∃ q, detV n m * (nt x k - nt y k) = p * q := by
    obtain rfl | rfl | rfl : n = 1 ∨ n = 2 ∨ n = 3 := by omega
    · intro k hk
      obtain rfl : k = 0 := by omega
      obtain ⟨a, ha⟩ := hj 0 (by omega)
      simp only [dotV] at ha
      exact ⟨a, by simp [detV]; grind⟩
    · intro k hk
      obtain ⟨a, ha⟩ := hj 0 (by omega)
      obtain ⟨b, hb⟩ := hj 1 (by omega)
      simp only [dotV] at ha hb
      simp at ha hb
      obtain rfl | rfl : k = 0 ∨ k = 1 := by omega
      · exact ⟨a * nt m 4 - b * nt m 3, by simp [detV]; grind⟩
      · exact ⟨b * nt m 0 - a * nt m 1, by simp [detV]; grind⟩
    · intro k hk
      obtain ⟨a, ha⟩ := hj 0 (by omega)
      obtain ⟨b, hb⟩ := hj 1 (by omega)
      obtain ⟨c, hc⟩ := hj 2 (by omega)
      simp only [dotV] at ha hb hc
      simp at ha hb hc
      obtain rfl | rfl | rfl : k = 0 ∨ k = 1 ∨ k = 2 := by omega
      · exact ⟨a * (nt m 4 * nt m 8 - nt m 5 * nt m 7) + b * (nt m 5 * nt m 6 - nt m 3 * nt m 8) + c * (nt m 3 * nt m 7 - nt m 4 * nt m 6), by simp [detV]; grind⟩
      · exact ⟨a * (nt m 2 * nt m 7 - nt m 1 * nt m 8) + b * (nt m 0 * nt m 8 - nt m 2 * nt m 6) + c * (nt m 1 * nt m 6 - nt m 0 * nt m 7), by simp [detV]; grind⟩
      · exact ⟨a * (nt m 1 * nt m 5 - nt m 2 * nt m 4) + b * (nt m 2 * nt m 3 - nt m 0 * nt m 5) + c * (nt m 0 * nt m 4 - nt m 1 * nt m 3), by simp [detV]; grind⟩
  refine row_ext (by omega) fun k hkl => ?_
  obtain ⟨q, hq⟩ := hk k (by omega)
  have hiv := (inv_spec hp hd).1
  have h1 := hx.nt (show 0 < p by omega) k
  have h2 := hy.nt (show 0 < p by omega) k
  rw [Int.emod_def (detV n m) p] at hiv
  obtain ⟨s, hs⟩ : ∃ s, invOf p (detV n m) * (detV n m - p * (detV n m / p)) = 1 + p * s := ⟨_, by have := Int.emod_add_mul_ediv (invOf p (detV n m) * (detV n m - p * (detV n m / p))) p; rw [hiv] at this; exact this.symm⟩
  have hz : ∃ z, nt x k - nt y k = p * z := ⟨invOf p (detV n m) * q - invOf p (detV n m) * (detV n m / p) * (nt x k - nt y k) - s * (nt x k - nt y k), by grind⟩
  obtain ⟨z, hz⟩ := hz
  have : z = 0 := by
    rcases Int.lt_trichotomy z 0 with h | h | h
    · have : p * z ≤ p * -1 := Int.mul_le_mul_of_nonneg_left (by omega) (by omega)
      omega
    · exact h
    · have : p * 1 ≤ p * z := Int.mul_le_mul_of_nonneg_left (by omega) (by omega)
      omega
  subst this
  omega

/-- The pigeonhole. -/
theorem nodup_le {α : Type} [DecidableEq α] : ∀ (l L : List α), l.Nodup → (∀ x ∈ l, x ∈ L) → l.length ≤ L.length
  | [], _, _, _ => by simp
  | a :: l, L, hn, hs => by
    have hc := List.nodup_cons.1 hn
    have ha := hs a (List.mem_cons_self ..)
    have ih := nodup_le l (L.erase a) hc.2 (fun x hx => (List.mem_erase_of_ne (fun e => hc.1 (by rw [← e]; exact hx))).2 (hs x (List.mem_cons_of_mem _ hx)))
    rw [List.length_erase_of_mem ha] at ih
    have : 0 < L.length := List.length_pos_of_mem ha
    simp
    omega
theorem twice {α : Type} [DecidableEq α] (f : Nat → α) (L : List α) (h : ∀ k, f k ∈ L) : ∃ i j, i < j ∧ f i = f j := by
  by_cases hn : ((List.range (L.length + 1)).map f).Nodup
  · have := nodup_le _ L hn (fun x hx => by obtain ⟨k, _, rfl⟩ := List.mem_map.1 hx; exact h k)
    simp at this
    omega
  · rw [List.Nodup, List.pairwise_map] at hn
    apply Classical.byContradiction
    intro hc
    apply hn
    refine List.pairwise_lt_range.imp ?_
    intro a b hab he
    exact hc ⟨a, b, hab, he⟩

/-- The first row. -/
def ntR' (l : List Row) : Row := l.getD 0 []
theorem ntR'_mem {l : List Row} (h : l ≠ []) : ntR' l ∈ l := by
  cases l with
  | nil => exact absurd rfl h
  | cons a l => simp [ntR']
/-- A list of matrices that are a group, as far as points see it. -/
structure Acts (p : Int) (n : Nat) (l : List Row) : Prop where
  prime : IsP p
  least : 1 ≤ n
  most : n ≤ 3
  det : ∀ m ∈ l, detV n m % p ≠ 0
  closed : ∀ a ∈ l, ∀ b ∈ l, timesM p n a b ∈ l
  one : unitM n ∈ l
def Pt (p : Int) (n : Nat) (x : Row) : Prop := x.length = n ∧ InR p x
theorem lead_pt {p : Int} (hp : IsP p) {n : Nat} (x m : Row) : Pt p n (leadV p n x m) := ⟨leadV_len .., leadV_inR (by have := hp.pos; omega) _ _ _⟩
theorem Acts.self {p : Int} {n : Nat} {l : List Row} (h : Acts p n l) {x : Row} (hx : Pt p n x) : x ∈ orbitS p n l x :=
  orbitS_mem.2 ⟨_, h.one, (lead_unit h.most (by have := h.prime.pos; omega) hx.2 hx.1).symm⟩
/-- The powers of a matrix of the group. -/
def powM (p : Int) (n : Nat) (g : Row) : Nat → Row
  | 0 => unitM n
  | k + 1 => timesM p n (powM p n g k) g
theorem Acts.pow {p : Int} {n : Nat} {l : List Row} (h : Acts p n l) {g : Row} (hg : g ∈ l) : ∀ k, powM p n g k ∈ l
  | 0 => h.one
  | k + 1 => h.closed _ (h.pow hg k) _ hg
theorem Acts.back {p : Int} {n : Nat} {l : List Row} (h : Acts p n l) {x g : Row} (hx : Pt p n x) (hg : g ∈ l) : x ∈ orbitS p n l (leadV p n x g) := by
  have hpp := h.prime.pos
  obtain ⟨i, j, hij, he⟩ := twice (fun k => leadV p n x (powM p n g k)) (orbitS p n l x) (fun k => orbitS_mem.2 ⟨_, h.pow hg k, rfl⟩)
  have hstep : ∀ k, leadV p n x (powM p n g (k + 1)) = leadV p n (leadV p n x (powM p n g k)) g := fun k => (lead_times h.most _ _ _).symm
  have hdown : ∀ i j, leadV p n x (powM p n g (i + 1)) = leadV p n x (powM p n g (j + 1)) → leadV p n x (powM p n g i) = leadV p n x (powM p n g j) := by
    intro i j he
    rw [hstep, hstep] at he
    exact lead_inj h.prime h.least h.most (leadV_inR (by omega) _ _ _) (leadV_inR (by omega) _ _ _) (leadV_len ..) (leadV_len ..) (h.det g hg) he
  have hz : ∀ i j, i < j → leadV p n x (powM p n g i) = leadV p n x (powM p n g j) → ∃ k, leadV p n x (powM p n g 0) = leadV p n x (powM p n g (k + 1)) := by
    intro i
    induction i with
    | zero => intro j hj he; exact ⟨j - 1, by rw [show j - 1 + 1 = j by omega]; exact he⟩
    | succ i ih => intro j hj he; exact ih (j - 1) (by omega) (hdown i (j - 1) (by rw [show j - 1 + 1 = j by omega]; exact he))
  obtain ⟨k, hk⟩ := hz i j hij he
  have h0 : leadV p n x (powM p n g 0) = x := lead_unit h.most (by omega) hx.2 hx.1
  rw [h0] at hk
  have hcomm : ∀ k, leadV p n x (powM p n g (k + 1)) = leadV p n (leadV p n x g) (powM p n g k) := by
    intro k
    induction k with
    | zero =>
      rw [hstep, h0]
      exact (lead_unit h.most (by omega) (leadV_inR (by omega) _ _ _) (leadV_len ..)).symm
    | succ k ih => rw [hstep, ih, lead_times h.most]; rfl
  rw [hcomm] at hk
  exact orbitS_mem.2 ⟨_, h.pow hg k, hk⟩
theorem Acts.trans {p : Int} {n : Nat} {l : List Row} (h : Acts p n l) {x y z : Row} (h1 : y ∈ orbitS p n l x) (h2 : z ∈ orbitS p n l y) : z ∈ orbitS p n l x := by
  obtain ⟨a, ha, rfl⟩ := orbitS_mem.1 h1
  obtain ⟨b, hb, rfl⟩ := orbitS_mem.1 h2
  exact orbitS_mem.2 ⟨_, h.closed a ha b hb, lead_times h.most _ _ _⟩
theorem Acts.symm {p : Int} {n : Nat} {l : List Row} (h : Acts p n l) {x y : Row} (hx : Pt p n x) (h1 : y ∈ orbitS p n l x) : x ∈ orbitS p n l y := by
  obtain ⟨a, ha, rfl⟩ := orbitS_mem.1 h1
  exact h.back hx ha
/-- A point is in an orbit just if both orbits begin with the same point. -/
theorem Acts.first {p : Int} {n : Nat} {l : List Row} (h : Acts p n l) {x y : Row} (hx : Pt p n x) (hy : Pt p n y) : y ∈ orbitS p n l x ↔ ntR' (orbitS p n l x) = ntR' (orbitS p n l y) := by
  constructor
  · intro hm
    rw [show orbitS p n l x = orbitS p n l y from sorted_ext (orbitS_sorted ..) (orbitS_sorted ..) fun z => ⟨fun hz => h.trans (h.symm hx hm) hz, fun hz => h.trans hm hz⟩]
  · intro he
    have h1 : ntR' (orbitS p n l x) ∈ orbitS p n l x := ntR'_mem (List.ne_nil_of_mem (h.self hx))
    have h2 : ntR' (orbitS p n l y) ∈ orbitS p n l y := ntR'_mem (List.ne_nil_of_mem (h.self hy))
    rw [← he] at h2
    exact h.trans h1 (h.symm hy h2)
end Go.Proofs.Ytbenhcognapdpaa.Lin
