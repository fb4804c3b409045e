/- Plain laws: a matrix beside the unit matrix reduces to the unit matrix beside another one just if its determinant is not 0. -/
import Derived.Test.YtbenhcognapdpaaDetM
set_option linter.unusedVariables false
set_option linter.unusedSimpArgs false
namespace Go.Proofs.Ytbenhcognapdpaa.Lin

theorem incr_ge {l : List Row} {n : Nat} (h0 : ∀ r ∈ l, 0 ≤ lead r) (h : l.Pairwise (fun r s => lead r < lead s)) : ∀ i (hi : i < l.length), (i : Int) ≤ lead l[i] := by
  intro i
  induction i with
  | zero => intro hi; exact h0 _ (List.getElem_mem hi)
  | succ i ih =>
    intro hi
    have h1 := ih (by omega)
    have h2 := List.pairwise_iff_getElem.1 h i (i + 1) (by omega) hi (by omega)
    omega
theorem incr_le {l : List Row} {n : Int} (hn : ∀ r ∈ l, lead r < n) (h : l.Pairwise (fun r s => lead r < lead s)) : ∀ k i (hi : i < l.length), i + k + 1 = l.length → lead l[i] + k < n := by
  intro k
  induction k with
  | zero => intro i hi _; have := hn _ (List.getElem_mem hi); omega
  | succ k ih =>
    intro i hi he
    have h1 := ih (i + 1) (by omega) (by omega)
    have h2 := List.pairwise_iff_getElem.1 h i (i + 1) hi (by omega) (by omega)
    omega

theorem det3 (t00 t01 t02 t10 t11 t12 t20 t21 t22 g00 g01 g02 g10 g11 g12 g20 g21 g22 : Int) :
    (t00*(t11*t22-t12*t21) - t01*(t10*t22-t12*t20) + t02*(t10*t21-t11*t20)) * (g00*(g11*g22-g12*g21) - g01*(g10*g22-g12*g20) + g02*(g10*g21-g11*g20))
    = (t00*g00+t01*g10+t02*g20) * ((t10*g01+t11*g11+t12*g21)*(t20*g02+t21*g12+t22*g22) - (t10*g02+t11*g12+t12*g22)*(t20*g01+t21*g11+t22*g21))
    - (t00*g01+t01*g11+t02*g21) * ((t10*g00+t11*g10+t12*g20)*(t20*g02+t21*g12+t22*g22) - (t10*g02+t11*g12+t12*g22)*(t20*g00+t21*g10+t22*g20))
    + (t00*g02+t01*g12+t02*g22) * ((t10*g00+t11*g10+t12*g20)*(t20*g01+t21*g11+t22*g21) - (t10*g01+t11*g11+t12*g21)*(t20*g00+t21*g10+t22*g20)) := by
  grind
theorem near3 (p q00 q01 q02 q10 q11 q12 q20 q21 q22 : Int) :
    (1 - p*q00) * ((1 - p*q11)*(1 - p*q22) - (0 - p*q12)*(0 - p*q21)) - (0 - p*q01) * ((0 - p*q10)*(1 - p*q22) - (0 - p*q12)*(0 - p*q20)) + (0 - p*q02) * ((0 - p*q10)*(0 - p*q21) - (1 - p*q11)*(0 - p*q20))
    = 1 + p * ((0 - q00)*((1 - p*q11)*(1 - p*q22) - (0 - p*q12)*(0 - p*q21)) + (0 - q11 - q22 + p*q11*q22 - p*q12*q21) + q01*((0 - p*q10)*(1 - p*q22) - (0 - p*q12)*(0 - p*q20)) - q02*((0 - p*q10)*(0 - p*q21) - (1 - p*q11)*(0 - p*q20))) := by
  grind

/-- A row whose left part is 0 and whose right part is not: the determinant is 0. -/
theorem det_zero {p : Int} {n : Nat} {m r : Row} (hn : 1 ≤ n) (hn3 : n ≤ 3) (hb : Bound p n m r) (hz : ∀ j < n, nt r j = 0) {k : Nat} (hk : k < n) (h1 : nt r (n + k) = 1) : p ∣ detV n m := by
  obtain rfl | rfl | rfl : n = 1 ∨ n = 2 ∨ n = 3 := by omega
  · obtain ⟨a, ha⟩ := hb 0 (by omega)
    have z0 := hz 0 (by omega)
    obtain rfl : k = 0 := by omega
    simp [dotF, sumTo, z0, h1] at ha
    exact ⟨- a, by simp [detV]; grind⟩
  · obtain ⟨a, ha⟩ := hb 0 (by omega)
    obtain ⟨b, hb⟩ := hb 1 (by omega)
    have z0 := hz 0 (by omega)
    have z1 := hz 1 (by omega)
    simp [dotF, sumTo, z0, z1] at ha hb
    obtain rfl | rfl : k = 0 ∨ k = 1 := by omega
    all_goals simp at h1
    all_goals rw [h1] at ha hb
    · exact ⟨- a * nt m 4 + b * nt m 3, by simp [detV]; grind⟩
    · exact ⟨- b * nt m 0 + a * nt m 1, by simp [detV]; grind⟩
  · obtain ⟨a, ha⟩ := hb 0 (by omega)
    obtain ⟨b, hb'⟩ := hb 1 (by omega)
    obtain ⟨c, hc⟩ := hb 2 (by omega)
    have z0 := hz 0 (by omega)
    have z1 := hz 1 (by omega)
    have z2 := hz 2 (by omega)
    simp [dotF, sumTo, z0, z1, z2] at ha hb' hc
    obtain rfl | rfl | rfl : k = 0 ∨ k = 1 ∨ k = 2 := by omega
    all_goals simp at h1
    all_goals rw [h1] at ha hb' hc
    · exact ⟨- a * (nt m 4 * nt m 8 - nt m 5 * nt m 7) - b * (nt m 5 * nt m 6 - nt m 3 * nt m 8) - c * (nt m 3 * nt m 7 - nt m 4 * nt m 6), by simp [detV]; grind⟩
    · exact ⟨- a * (nt m 2 * nt m 7 - nt m 1 * nt m 8) - b * (nt m 0 * nt m 8 - nt m 2 * nt m 6) - c * (nt m 1 * nt m 6 - nt m 0 * nt m 7), by simp [detV]; grind⟩
    · exact ⟨- a * (nt m 1 * nt m 5 - nt m 2 * nt m 4) - b * (nt m 2 * nt m 3 - nt m 0 * nt m 5) - c * (nt m 0 * nt m 4 - nt m 1 * nt m 3), by simp [detV]; grind⟩

/-- A right inverse: the determinant is not 0. -/
theorem det_one {p : Int} {n : Nat} {m : Row} (hp : 2 ≤ p) (hn : 1 ≤ n) (hn3 : n ≤ 3) (R : Nat → Row) (hb : ∀ i < n, Bound p n m (R i)) (hr : ∀ i < n, ∀ j < n, nt (R i) j = if i = j then 1 else 0) : ¬ p ∣ detV n m := by
  rintro ⟨d, hd⟩
  have one : ∀ x : Int, 1 = p * x → False := by
    intro x hx
    rcases Int.lt_or_le x 1 with h | h
    · have : p * x ≤ 0 := Int.mul_nonpos_of_nonneg_of_nonpos (by omega) (by omega)
      omega
    · have : p * 1 ≤ p * x := Int.mul_le_mul_of_nonneg_left h (by omega)
      omega
  obtain rfl | rfl | rfl : n = 1 ∨ n = 2 ∨ n = 3 := by omega
  · obtain ⟨a, ha⟩ := hb 0 (by omega) 0 (by omega)
    have z0 := hr 0 (by omega) 0 (by omega)
    simp [dotF, sumTo, z0] at ha
    simp [detV] at hd
    exact one (a + nt (R 0) 1 * d) (by grind)
  · obtain ⟨a, ha⟩ := hb 0 (by omega) 0 (by omega)
    obtain ⟨b, hb1⟩ := hb 0 (by omega) 1 (by omega)
    obtain ⟨a', ha'⟩ := hb 1 (by omega) 0 (by omega)
    obtain ⟨b', hb1'⟩ := hb 1 (by omega) 1 (by omega)
    have z00 := hr 0 (by omega) 0 (by omega)
    have z01 := hr 0 (by omega) 1 (by omega)
    have z10 := hr 1 (by omega) 0 (by omega)
    have z11 := hr 1 (by omega) 1 (by omega)
    simp [dotF, sumTo, z00, z01, z10, z11] at ha hb1 ha' hb1'
    simp [detV] at hd
    clear hb hr
    refine one ((nt (R 0) 2 * nt (R 1) 3 - nt (R 0) 3 * nt (R 1) 2) * d + a + b' - p * a * b' + p * b * a') ?_
    have s00 : nt (R 0) 2 * nt m 0 + nt (R 0) 3 * nt m 3 = 1 - p * a := by grind
    have s01 : nt (R 0) 2 * nt m 1 + nt (R 0) 3 * nt m 4 = 0 - p * b := by grind
    have s10 : nt (R 1) 2 * nt m 0 + nt (R 1) 3 * nt m 3 = 0 - p * a' := by grind
    have s11 : nt (R 1) 2 * nt m 1 + nt (R 1) 3 * nt m 4 = 1 - p * b' := by grind
    grind
  · obtain ⟨q00, e00⟩ := hb 0 (by omega) 0 (by omega)
    obtain ⟨q01, e01⟩ := hb 0 (by omega) 1 (by omega)
    obtain ⟨q02, e02⟩ := hb 0 (by omega) 2 (by omega)
    obtain ⟨q10, e10⟩ := hb 1 (by omega) 0 (by omega)
    obtain ⟨q11, e11⟩ := hb 1 (by omega) 1 (by omega)
    obtain ⟨q12, e12⟩ := hb 1 (by omega) 2 (by omega)
    obtain ⟨q20, e20⟩ := hb 2 (by omega) 0 (by omega)
    obtain ⟨q21, e21⟩ := hb 2 (by omega) 1 (by omega)
    obtain ⟨q22, e22⟩ := hb 2 (by omega) 2 (by omega)
    have z0 := hr 0 (by omega)
    have z1 := hr 1 (by omega)
    have z2 := hr 2 (by omega)
    simp [dotF, sumTo, z0, z1, z2] at e00 e01 e02 e10 e11 e12 e20 e21 e22
    simp [detV] at hd
    have s00 : nt (R 0) 3 * nt m 0 + nt (R 0) 4 * nt m 3 + nt (R 0) 5 * nt m 6 = 1 - p * q00 := by grind
    have s01 : nt (R 0) 3 * nt m 1 + nt (R 0) 4 * nt m 4 + nt (R 0) 5 * nt m 7 = 0 - p * q01 := by grind
    have s02 : nt (R 0) 3 * nt m 2 + nt (R 0) 4 * nt m 5 + nt (R 0) 5 * nt m 8 = 0 - p * q02 := by grind
    have s10 : nt (R 1) 3 * nt m 0 + nt (R 1) 4 * nt m 3 + nt (R 1) 5 * nt m 6 = 0 - p * q10 := by grind
    have s11 : nt (R 1) 3 * nt m 1 + nt (R 1) 4 * nt m 4 + nt (R 1) 5 * nt m 7 = 1 - p * q11 := by grind
    have s12 : nt (R 1) 3 * nt m 2 + nt (R 1) 4 * nt m 5 + nt (R 1) 5 * nt m 8 = 0 - p * q12 := by grind
    have s20 : nt (R 2) 3 * nt m 0 + nt (R 2) 4 * nt m 3 + nt (R 2) 5 * nt m 6 = 0 - p * q20 := by grind
    have s21 : nt (R 2) 3 * nt m 1 + nt (R 2) 4 * nt m 4 + nt (R 2) 5 * nt m 7 = 0 - p * q21 := by grind
    have s22 : nt (R 2) 3 * nt m 2 + nt (R 2) 4 * nt m 5 + nt (R 2) 5 * nt m 8 = 1 - p * q22 := by grind
    have h := det3 (nt (R 0) 3) (nt (R 0) 4) (nt (R 0) 5) (nt (R 1) 3) (nt (R 1) 4) (nt (R 1) 5) (nt (R 2) 3) (nt (R 2) 4) (nt (R 2) 5) (nt m 0) (nt m 1) (nt m 2) (nt m 3) (nt m 4) (nt m 5) (nt m 6) (nt m 7) (nt m 8)
    rw [s00, s01, s02, s10, s11, s12, s20, s21, s22, near3, hd] at h
    clear hb hr e00 e01 e02 e10 e11 e12 e20 e21 e22 s00 s01 s02 s10 s11 s12 s20 s21 s22 z0 z1 z2
    generalize (nt (R 0) 3*(nt (R 1) 4*nt (R 2) 5-nt (R 1) 5*nt (R 2) 4) - nt (R 0) 4*(nt (R 1) 3*nt (R 2) 5-nt (R 1) 5*nt (R 2) 3) + nt (R 0) 5*(nt (R 1) 3*nt (R 2) 4-nt (R 1) 4*nt (R 2) 3)) = T at h
    obtain ⟨X, hX⟩ : ∃ X, T * (p * d) = 1 + p * X := ⟨_, h⟩
    exact one (T * d - X) (by grind)

/-- The reduced list of a matrix beside the unit matrix. -/
theorem inv_iff {p : Int} (hp : IsP p) {n : Nat} {m : Row} (hm : IsM m) (hn : 1 ≤ n) (hn3 : n ≤ 3) (h : EntOk p n m) :
    (∀ i (hi : i < (echelon p (augs n m n)).length), lead (echelon p (augs n m n))[i] = i) ↔ detV n m % p ≠ 0 := by
  have hpp := hp.pos
  have hlen := augs_length hp hm hn3 h n (Nat.le_refl n)
  have hbd := ech_bound hp hm hn3 h
  have hred := echelon_red hp _ (augs_good hp hm hn3 h (Nat.le_refl n))
  generalize echelon p (augs n m n) = R at *
  have hlt : R.Pairwise (fun r s => lead r < lead s) := hred.apart.imp fun h => h.1
  constructor
  · intro hl hd
    refine det_one (m := m) hpp.1 hn hn3 (fun i => R.getD i []) ?_ ?_ (Int.dvd_of_emod_eq_zero hd)
    · intro i hi
      rw [List.getD_eq_getElem?_getD, List.getElem?_eq_getElem (by omega)]
      exact hbd _ (List.getElem_mem (by omega))
    · intro i hi j hj
      rw [List.getD_eq_getElem?_getD, List.getElem?_eq_getElem (by omega)]
      show nt R[i] j = _
      have hg := hred.good _ (List.getElem_mem (show i < R.length by omega))
      have e1 := hl i (by omega)
      have e2 := hl j (by omega)
      rcases Nat.lt_trichotomy i j with h1 | h1 | h1
      · have hz := List.pairwise_iff_getElem.1 hred.zero i j (by omega) (by omega) h1
        have := hz.1
        rw [e2] at this
        rw [if_neg (by omega)]
        simpa using this
      · subst h1
        have := hg.2.2.2
        rw [e1] at this
        rw [if_pos rfl]
        simpa using this
      · have hz := List.pairwise_iff_getElem.1 hred.zero j i (by omega) (by omega) h1
        have := hz.2
        rw [e2] at this
        rw [if_neg (by omega)]
        simpa using this
  · intro hd i hi
    have hlead : ∀ r ∈ R, lead r < n := by
      intro r hr
      by_cases hc : lead r < n
      · exact hc
      · exfalso
        have hg := hred.good r hr
        have hll := lead_lt r hg.2.2.1
        apply hd
        apply Int.emod_eq_zero_of_dvd
        refine det_zero hn hn3 (hbd r hr) (fun j hj => nt_before_lead r j (by omega)) (k := (lead r).toNat - n) (by omega) ?_
        rw [show n + ((lead r).toNat - n) = (lead r).toNat by omega]
        exact hg.2.2.2
    have h1 := incr_ge (n := n) (fun r hr => (hred.good r hr).2.2.1) hlt i hi
    have h2 := incr_le hlead hlt (R.length - i - 1) i hi (by omega)
    omega
end Go.Proofs.Ytbenhcognapdpaa.Lin
