/- Own texts of this claim, in one file: ComM, PolM, OrbM2, ValM, Base, SmallW, SmallW2. -/
import Derived.Test.YtbenhcognapdpaaGreatKR9a
import Derived.Test.YtbenhcognapdpaaGreatProg
import Derived.Test.YtbenhcognapdpaaGreatWWords
import Derived.Test.YtbenhcognapdpaaGreatWLast
import Derived.Test.YtbenhcognapdpaaGreatWArr
import Derived.WalkKit
import Derived.WalkSpells
import Derived.Below
import Derived.Outline
import Derived.Deep.LoopGhost
import Derived.Deep.QuietTactic
import Derived.BigQuiet
import Derived.StillTailTactics
import Derived.Lib.Hide
/- Plain law: how many different rows a list holds, by sorting and by asking what was met. No program in sight. -/
set_option linter.unusedVariables false
set_option linter.unusedSimpArgs false
namespace Go.Proofs.YtbenhcognapdpaaGreat.Lin

def metIns (met : List Row) (own : Row) : List Row := if own ∈ met then met else met ++ [own]
def metL (l : List Row) : List Row := l.foldl metIns []
theorem metL_snoc (l : List Row) (x : Row) : metL (l ++ [x]) = metIns (metL l) x := by simp [metL]
theorem metIns_mem {met : List Row} {own x : Row} : x ∈ metIns met own ↔ x ∈ met ∨ x = own := by
  unfold metIns
  split
  · constructor
    · exact .inl
    · rintro (h | rfl)
      · exact h
      · assumption
  · simp
theorem foldl_met_mem (l : List Row) : ∀ (met : List Row) (x : Row), x ∈ l.foldl metIns met ↔ x ∈ met ∨ x ∈ l := by
  induction l with
  | nil => simp
  | cons a l ih =>
    intro met x
    rw [List.foldl_cons, ih, metIns_mem, List.mem_cons, or_assoc]
theorem metL_mem {l : List Row} {x : Row} : x ∈ metL l ↔ x ∈ l := by unfold metL; rw [foldl_met_mem]; simp
theorem metIns_nodup {met : List Row} {own : Row} (h : met.Nodup) : (metIns met own).Nodup := by
  unfold metIns
  split
  · exact h
  · rename_i hn
    rw [List.nodup_append]
    refine ⟨h, by simp, fun a ha b hb e => ?_⟩
    rw [List.mem_singleton] at hb
    subst hb
    exact hn (e ▸ ha)
theorem foldl_met_nodup (l : List Row) : ∀ (met : List Row), met.Nodup → (l.foldl metIns met).Nodup := by
  induction l with
  | nil => intro met h; exact h
  | cons a l ih => intro met h; exact ih _ (metIns_nodup h)
theorem metL_nodup (l : List Row) : (metL l).Nodup := foldl_met_nodup l [] (by simp)
theorem sorted_nodup {l : List Row} (h : Sorted l) : l.Nodup := List.Pairwise.imp (fun {a b} hab e => by rw [e, cmpL_self] at hab; omega) h
theorem metL_len {l l' zs : List Row} (hp : l'.Perm l) (hs : Sorted zs) (hm : ∀ r, r ∈ zs ↔ r ∈ l') : zs.length = (metL l).length :=
  ((List.perm_ext_iff_of_nodup (sorted_nodup hs) (metL_nodup l)).2 fun x => by rw [hm, metL_mem, hp.mem_iff]).length_eq
theorem metIns_len (met : List Row) (own : Row) : (metIns met own).length ≤ met.length + 1 := by
  unfold metIns; split <;> simp
theorem foldl_met_len (l : List Row) : ∀ (met : List Row), (l.foldl metIns met).length ≤ met.length + l.length := by
  induction l with
  | nil => intro met; simp
  | cons a l ih =>
    intro met
    have h1 := ih (metIns met a)
    have h2 := metIns_len met a
    rw [List.foldl_cons, List.length_cons]
    omega
theorem metL_le (l : List Row) : (metL l).length ≤ l.length := by have := foldl_met_len l []; simpa [metL] using this
end Go.Proofs.YtbenhcognapdpaaGreat.Lin
/- Plain definitions of polynomials: monomials, their order, terms. No program in sight. -/
set_option linter.unusedVariables false
set_option linter.unusedSimpArgs false
namespace Go.Proofs.YtbenhcognapdpaaGreat.Lin

abbrev Tm := Row × Int
def degE (e : Row) : Int := nt e 0 + nt e 1 + nt e 2
def cmpE (a b : Row) : Int := if degE a - degE b ≠ 0 then degE a - degE b else if nt a 0 ≠ nt b 0 then nt b 0 - nt a 0 else nt b 1 - nt a 1
/-- Three bytes. -/
def Is3 (e : Row) : Prop := e.length = 3 ∧ ∀ x ∈ e, 0 ≤ x ∧ x ≤ 255
theorem Is3.nt {e : Row} (h : Is3 e) (j : Nat) : 0 ≤ Lin.nt e j ∧ Lin.nt e j ≤ 255 := by
  rcases Nat.lt_or_ge j e.length with hj | hj
  · rw [nt_eq e j hj]; exact h.2 _ (List.getElem_mem hj)
  · rw [nt_out e j hj]; omega
theorem Is3.deg {e : Row} (h : Is3 e) : 0 ≤ degE e ∧ degE e ≤ 765 := by
  have h0 := h.nt 0; have h1 := h.nt 1; have h2 := h.nt 2
  unfold degE; omega
theorem Is3.cmp {a b : Row} (ha : Is3 a) (hb : Is3 b) : -765 ≤ cmpE a b ∧ cmpE a b ≤ 765 := by
  have h1 := ha.deg; have h2 := hb.deg
  have h3 := ha.nt 0; have h4 := ha.nt 1; have h5 := hb.nt 0; have h6 := hb.nt 1
  unfold cmpE
  split
  · omega
  · split <;> omega
/-- Term i; nothing behind the end. (A name that simp does not open.) -/
def tmR (ts : List Tm) (i : Nat) : Tm := ts.getD i ([0, 0, 0], 0)
theorem tmR_eq (ts : List Tm) (i : Nat) (h : i < ts.length) : tmR ts i = ts[i] := by
  simp [tmR, List.getD_eq_getElem?_getD, List.getElem?_eq_getElem h]
theorem tmR_mem (ts : List Tm) (i : Nat) (h : i < ts.length) : tmR ts i ∈ ts := by rw [tmR_eq ts i h]; exact List.getElem_mem h
theorem take_succ_tmR (ts : List Tm) (i : Nat) (h : i < ts.length) : ts.take (i + 1) = ts.take i ++ [tmR ts i] := by
  rw [tmR_eq ts i h, List.take_succ_eq_append_getElem h]
/-- No letters behind the first d. -/
def NoMore (d : Int) (e : Row) : Prop := ∀ k : Nat, d ≤ k → k < 3 → nt e k = 0
instance (d : Int) (e : Row) : Decidable (NoMore d e) := Nat.decidableBallLT 3 (fun k _ => d ≤ k → nt e k = 0) |> fun h => decidable_of_iff _ ⟨fun g k h1 h2 => g k h2 h1, fun g k h2 h1 => g k h1 h2⟩
def expsB (d : Int) (e : Row) : Bool := decide (NoMore d e ∧ degE e ≤ 12)
/-- Term j is as a polynomial's has to be. -/
structure TOk (p d : Int) (ts : List Tm) (j : Nat) : Prop where
  deg : degE (tmR ts j).1 ≤ 12
  low : 1 ≤ (tmR ts j).2
  high : (tmR ts j).2 < p
  ord : ∀ j', j = j' + 1 → cmpE (tmR ts j').1 (tmR ts j).1 < 0
  no : NoMore d (tmR ts j).1
structure PolyOk (p d : Int) (ts : List Tm) : Prop where
  prime : primeB p = true
  vars : 1 ≤ d ∧ d ≤ 3
  terms : ∀ j < ts.length, TOk p d ts j
noncomputable def polyB (p d : Int) (ts : List Tm) : Bool := @decide (PolyOk p d ts) (Classical.propDecidable _)
theorem polyB_iff {p d : Int} {ts : List Tm} : polyB p d ts = true ↔ PolyOk p d ts := by unfold polyB; exact @decide_eq_true_iff _ (Classical.propDecidable _)
theorem polyB_not {p d : Int} {ts : List Tm} (h : ¬ PolyOk p d ts) : polyB p d ts = false := by unfold polyB; exact @decide_eq_false _ (Classical.propDecidable _) h
end Go.Proofs.YtbenhcognapdpaaGreat.Lin
/- Plain laws: a point is in an orbit just if both orbits begin alike. -/
set_option linter.unusedVariables false
set_option linter.unusedSimpArgs false
namespace Go.Proofs.YtbenhcognapdpaaGreat.Lin

theorem emod_eq_of {p a b q : Int} (h : a - b = p * q) : a % p = b % p := by
  rw [show a = b + p * q by omega, Int.add_mul_emod_self_left]
theorem timesM_nt (p : Int) (n : Nat) (g h : Row) {a b : Nat} (ha : a < n) (hb : b < n) (hn : n ≤ 3) : nt (timesM p n g h) (a * 3 + b) = dot g h a b n % p := by
  unfold timesM
  rw [mk9_nt _ _ _ (by omega) (by omega), if_pos ⟨ha, hb⟩]
theorem lead_times {p : Int} {n : Nat} (hn3 : n ≤ 3) (x g h : Row) : leadV p n (leadV p n x g) h = leadV p n x (timesM p n g h) := by
  refine row_ext (by simp [leadV_len]) fun j hj => ?_
  rw [leadV_len] at hj
  rw [leadV_nt _ _ _ _ hj, leadV_nt _ _ _ _ hj]
  have hx : ∀ k, k < n → ∃ q, nt (leadV p n x g) k = dotV x g k n - p * q := fun k hk => ⟨dotV x g k n / p, by rw [leadV_nt _ _ _ _ hk, Int.emod_def]⟩
  have ht : ∀ k, k < n → ∃ q, nt (timesM p n g h) (k * 3 + j) = dot g h k j n - p * q := fun k hk => ⟨dot g h k j n / p, by rw [timesM_nt p n g h hk hj hn3, Int.emod_def]⟩
  obtain rfl | rfl | rfl | rfl : n = 0 ∨ n = 1 ∨ n = 2 ∨ n = 3 := by omega
  · omega
  · obtain ⟨a, ha⟩ := hx 0 (by omega)
    obtain ⟨b, hb⟩ := ht 0 (by omega)
    simp only [dotV, dot] at *
    rw [ha, hb]
    exact emod_eq_of (q := - a * nt h (0 * 3 + j) + nt x 0 * b) (by grind)
  · obtain ⟨a0, ha0⟩ := hx 0 (by omega)
    obtain ⟨a1, ha1⟩ := hx 1 (by omega)
    obtain ⟨b0, hb0⟩ := ht 0 (by omega)
    obtain ⟨b1, hb1⟩ := ht 1 (by omega)
    simp only [dotV, dot] at *
    rw [ha0, ha1, hb0, hb1]
    exact emod_eq_of (q := - a0 * nt h (0 * 3 + j) - a1 * nt h (1 * 3 + j) + nt x 0 * b0 + nt x 1 * b1) (by grind)
  · obtain ⟨a0, ha0⟩ := hx 0 (by omega)
    obtain ⟨a1, ha1⟩ := hx 1 (by omega)
    obtain ⟨a2, ha2⟩ := hx 2 (by omega)
    obtain ⟨b0, hb0⟩ := ht 0 (by omega)
    obtain ⟨b1, hb1⟩ := ht 1 (by omega)
    obtain ⟨b2, hb2⟩ := ht 2 (by omega)
    simp only [dotV, dot] at *
    rw [ha0, ha1, ha2, hb0, hb1, hb2]
    exact emod_eq_of (q := - a0 * nt h (0 * 3 + j) - a1 * nt h (1 * 3 + j) - a2 * nt h (2 * 3 + j) + nt x 0 * b0 + nt x 1 * b1 + nt x 2 * b2) (by grind)
theorem unitM_nt (n : Nat) {a b : Nat} (ha : a < n) (hb : b < n) (hn : n ≤ 3) : nt (unitM n) (a * 3 + b) = if a = b then 1 else 0 := by
  unfold unitM
  rw [mk9_nt _ _ _ (by omega) (by omega), if_pos ⟨ha, hb⟩]
theorem lead_unit {p : Int} {n : Nat} (hn3 : n ≤ 3) {x : Row} (hp : 0 < p) (hx : InR p x) (hl : x.length = n) : leadV p n x (unitM n) = x := by
  refine row_ext (by rw [leadV_len, hl]) fun j hj => ?_
  rw [leadV_len] at hj
  rw [leadV_nt _ _ _ _ hj]
  have hb := hx.nt hp j
  have hu : ∀ k, k < n → nt (unitM n) (k * 3 + j) = if k = j then 1 else 0 := fun k hk => unitM_nt n hk hj hn3
  have e : dotV x (unitM n) j n = nt x j := by
    obtain rfl | rfl | rfl | rfl : n = 0 ∨ n = 1 ∨ n = 2 ∨ n = 3 := by omega
    · omega
    · obtain rfl : j = 0 := by omega
      simp only [dotV]
      rw [hu 0 (by omega)]
      simp
    · simp only [dotV]
      rw [hu 0 (by omega), hu 1 (by omega)]
      obtain rfl | rfl : j = 0 ∨ j = 1 := by omega
      all_goals simp
    · simp only [dotV]
      rw [hu 0 (by omega), hu 1 (by omega), hu 2 (by omega)]
      obtain rfl | rfl | rfl : j = 0 ∨ j = 1 ∨ j = 2 := by omega
      all_goals simp
  rw [e]
  exact Int.emod_eq_of_lt hb.1 hb.2
/-- A matrix whose determinant is not 0 leads different points to different points. -/
theorem lead_inj {p : Int} (hp : IsP p) {n : Nat} (hn : 1 ≤ n) (hn3 : n ≤ 3) {x y m : Row} (hx : InR p x) (hy : InR p y) (hxl : x.length = n) (hyl : y.length = n) (hd : detV n m % p ≠ 0) (h : leadV p n x m = leadV p n y m) : x = y := by
  have hpp := hp.pos
  have hj : ∀ j, j < n → ∃ q, dotV x m j n - dotV y m j n = p * q := by
    intro j hj
    have e : nt (leadV p n x m) j = nt (leadV p n y m) j := by rw [h]
    rw [leadV_nt _ _ _ _ hj, leadV_nt _ _ _ _ hj] at e
    have := Int.emod_emod_of_dvd (dotV x m j n - dotV y m j n) (Int.dvd_refl p)
    have h2 : (dotV x m j n - dotV y m j n) % p = 0 := by rw [Int.sub_emod, e]; simp
    obtain ⟨q, hq⟩ := Int.dvd_of_emod_eq_zero h2
    exact ⟨q, hq⟩
  have hk : ∀ k, k < n → ∃ q, detV n m * (nt x k - nt y k) = p * q := by
    obtain rfl | rfl | rfl : n = 1 ∨ n = 2 ∨ n = 3 := by omega
    · intro k hk
      obtain rfl : k = 0 := by omega
      obtain ⟨a, ha⟩ := hj 0 (by omega)
      simp only [dotV] at ha
      exact ⟨a, by simp [detV]; grind⟩
    · intro k hk
      obtain ⟨a, ha⟩ := hj 0 (by omega)
      obtain ⟨b, hb⟩ := hj 1 (by omega)
      simp only [dotV] at ha hb
      simp at ha hb
      obtain rfl | rfl : k = 0 ∨ k = 1 := by omega
      · exact ⟨a * nt m 4 - b * nt m 3, by simp [detV]; grind⟩
      · exact ⟨b * nt m 0 - a * nt m 1, by simp [detV]; grind⟩
    · intro k hk
      obtain ⟨a, ha⟩ := hj 0 (by omega)
      obtain ⟨b, hb⟩ := hj 1 (by omega)
      obtain ⟨c, hc⟩ := hj 2 (by omega)
      simp only [dotV] at ha hb hc
      simp at ha hb hc
      obtain rfl | rfl | rfl : k = 0 ∨ k = 1 ∨ k = 2 := by omega
      · exact ⟨a * (nt m 4 * nt m 8 - nt m 5 * nt m 7) + b * (nt m 5 * nt m 6 - nt m 3 * nt m 8) + c * (nt m 3 * nt m 7 - nt m 4 * nt m 6), by simp [detV]; grind⟩
      · exact ⟨a * (nt m 2 * nt m 7 - nt m 1 * nt m 8) + b * (nt m 0 * nt m 8 - nt m 2 * nt m 6) + c * (nt m 1 * nt m 6 - nt m 0 * nt m 7), by simp [detV]; grind⟩
      · exact ⟨a * (nt m 1 * nt m 5 - nt m 2 * nt m 4) + b * (nt m 2 * nt m 3 - nt m 0 * nt m 5) + c * (nt m 0 * nt m 4 - nt m 1 * nt m 3), by simp [detV]; grind⟩
  refine row_ext (by omega) fun k hkl => ?_
  obtain ⟨q, hq⟩ := hk k (by omega)
  have hiv := (inv_spec hp hd).1
  have h1 := hx.nt (show 0 < p by omega) k
  have h2 := hy.nt (show 0 < p by omega) k
  rw [Int.emod_def (detV n m) p] at hiv
  obtain ⟨s, hs⟩ : ∃ s, invOf p (detV n m) * (detV n m - p * (detV n m / p)) = 1 + p * s := ⟨_, by have := Int.emod_add_mul_ediv (invOf p (detV n m) * (detV n m - p * (detV n m / p))) p; rw [hiv] at this; exact this.symm⟩
  have hz : ∃ z, nt x k - nt y k = p * z := ⟨invOf p (detV n m) * q - invOf p (detV n m) * (detV n m / p) * (nt x k - nt y k) - s * (nt x k - nt y k), by grind⟩
  obtain ⟨z, hz⟩ := hz
  have : z = 0 := by
    rcases Int.lt_trichotomy z 0 with h | h | h
    · have : p * z ≤ p * -1 := Int.mul_le_mul_of_nonneg_left (by omega) (by omega)
      omega
    · exact h
    · have : p * 1 ≤ p * z := Int.mul_le_mul_of_nonneg_left (by omega) (by omega)
      omega
  subst this
  omega

/-- The pigeonhole. -/
theorem nodup_le {α : Type} [DecidableEq α] : ∀ (l L : List α), l.Nodup → (∀ x ∈ l, x ∈ L) → l.length ≤ L.length
  | [], _, _, _ => by simp
  | a :: l, L, hn, hs => by
    have hc := List.nodup_cons.1 hn
    have ha := hs a (List.mem_cons_self ..)
    have ih := nodup_le l (L.erase a) hc.2 (fun x hx => (List.mem_erase_of_ne (fun e => hc.1 (by rw [← e]; exact hx))).2 (hs x (List.mem_cons_of_mem _ hx)))
    rw [List.length_erase_of_mem ha] at ih
    have : 0 < L.length := List.length_pos_of_mem ha
    simp
    omega
theorem twice {α : Type} [DecidableEq α] (f : Nat → α) (L : List α) (h : ∀ k, f k ∈ L) : ∃ i j, i < j ∧ f i = f j := by
  by_cases hn : ((List.range (L.length + 1)).map f).Nodup
  · have := nodup_le _ L hn (fun x hx => by obtain ⟨k, _, rfl⟩ := List.mem_map.1 hx; exact h k)
    simp at this
    omega
  · rw [List.Nodup, List.pairwise_map] at hn
    apply Classical.byContradiction
    intro hc
    apply hn
    refine List.pairwise_lt_range.imp ?_
    intro a b hab he
    exact hc ⟨a, b, hab, he⟩

/-- The first row. -/
def ntR' (l : List Row) : Row := l.getD 0 []
theorem ntR'_mem {l : List Row} (h : l ≠ []) : ntR' l ∈ l := by
  cases l with
  | nil => exact absurd rfl h
  | cons a l => simp [ntR']
/-- A list of matrices that are a group, as far as points see it. -/
structure Acts (p : Int) (n : Nat) (l : List Row) : Prop where
  prime : IsP p
  least : 1 ≤ n
  most : n ≤ 3
  det : ∀ m ∈ l, detV n m % p ≠ 0
  closed : ∀ a ∈ l, ∀ b ∈ l, timesM p n a b ∈ l
  one : unitM n ∈ l
def Pt (p : Int) (n : Nat) (x : Row) : Prop := x.length = n ∧ InR p x
theorem lead_pt {p : Int} (hp : IsP p) {n : Nat} (x m : Row) : Pt p n (leadV p n x m) := ⟨leadV_len .., leadV_inR (by have := hp.pos; omega) _ _ _⟩
theorem Acts.self {p : Int} {n : Nat} {l : List Row} (h : Acts p n l) {x : Row} (hx : Pt p n x) : x ∈ orbitS p n l x :=
  orbitS_mem.2 ⟨_, h.one, (lead_unit h.most (by have := h.prime.pos; omega) hx.2 hx.1).symm⟩
/-- The powers of a matrix of the group. -/
def powM (p : Int) (n : Nat) (g : Row) : Nat → Row
  | 0 => unitM n
  | k + 1 => timesM p n (powM p n g k) g
theorem Acts.pow {p : Int} {n : Nat} {l : List Row} (h : Acts p n l) {g : Row} (hg : g ∈ l) : ∀ k, powM p n g k ∈ l
  | 0 => h.one
  | k + 1 => h.closed _ (h.pow hg k) _ hg
theorem Acts.back {p : Int} {n : Nat} {l : List Row} (h : Acts p n l) {x g : Row} (hx : Pt p n x) (hg : g ∈ l) : x ∈ orbitS p n l (leadV p n x g) := by
  have hpp := h.prime.pos
  obtain ⟨i, j, hij, he⟩ := twice (fun k => leadV p n x (powM p n g k)) (orbitS p n l x) (fun k => orbitS_mem.2 ⟨_, h.pow hg k, rfl⟩)
  have hstep : ∀ k, leadV p n x (powM p n g (k + 1)) = leadV p n (leadV p n x (powM p n g k)) g := fun k => (lead_times h.most _ _ _).symm
  have hdown : ∀ i j, leadV p n x (powM p n g (i + 1)) = leadV p n x (powM p n g (j + 1)) → leadV p n x (powM p n g i) = leadV p n x (powM p n g j) := by
    intro i j he
    rw [hstep, hstep] at he
    exact lead_inj h.prime h.least h.most (leadV_inR (by omega) _ _ _) (leadV_inR (by omega) _ _ _) (leadV_len ..) (leadV_len ..) (h.det g hg) he
  have hz : ∀ i j, i < j → leadV p n x (powM p n g i) = leadV p n x (powM p n g j) → ∃ k, leadV p n x (powM p n g 0) = leadV p n x (powM p n g (k + 1)) := by
    intro i
    induction i with
    | zero => intro j hj he; exact ⟨j - 1, by rw [show j - 1 + 1 = j by omega]; exact he⟩
    | succ i ih => intro j hj he; exact ih (j - 1) (by omega) (hdown i (j - 1) (by rw [show j - 1 + 1 = j by omega]; exact he))
  obtain ⟨k, hk⟩ := hz i j hij he
  have h0 : leadV p n x (powM p n g 0) = x := lead_unit h.most (by omega) hx.2 hx.1
  rw [h0] at hk
  have hcomm : ∀ k, leadV p n x (powM p n g (k + 1)) = leadV p n (leadV p n x g) (powM p n g k) := by
    intro k
    induction k with
    | zero =>
      rw [hstep, h0]
      exact (lead_unit h.most (by omega) (leadV_inR (by omega) _ _ _) (leadV_len ..)).symm
    | succ k ih => rw [hstep, ih, lead_times h.most]; rfl
  rw [hcomm] at hk
  exact orbitS_mem.2 ⟨_, h.pow hg k, hk⟩
theorem Acts.trans {p : Int} {n : Nat} {l : List Row} (h : Acts p n l) {x y z : Row} (h1 : y ∈ orbitS p n l x) (h2 : z ∈ orbitS p n l y) : z ∈ orbitS p n l x := by
  obtain ⟨a, ha, rfl⟩ := orbitS_mem.1 h1
  obtain ⟨b, hb, rfl⟩ := orbitS_mem.1 h2
  exact orbitS_mem.2 ⟨_, h.closed a ha b hb, lead_times h.most _ _ _⟩
theorem Acts.symm {p : Int} {n : Nat} {l : List Row} (h : Acts p n l) {x y : Row} (hx : Pt p n x) (h1 : y ∈ orbitS p n l x) : x ∈ orbitS p n l y := by
  obtain ⟨a, ha, rfl⟩ := orbitS_mem.1 h1
  exact h.back hx ha
/-- A point is in an orbit just if both orbits begin with the same point. -/
theorem Acts.first {p : Int} {n : Nat} {l : List Row} (h : Acts p n l) {x y : Row} (hx : Pt p n x) (hy : Pt p n y) : y ∈ orbitS p n l x ↔ ntR' (orbitS p n l x) = ntR' (orbitS p n l y) := by
  constructor
  · intro hm
    rw [show orbitS p n l x = orbitS p n l y from sorted_ext (orbitS_sorted ..) (orbitS_sorted ..) fun z => ⟨fun hz => h.trans (h.symm hx hm) hz, fun hz => h.trans hm hz⟩]
  · intro he
    have h1 : ntR' (orbitS p n l x) ∈ orbitS p n l x := ntR'_mem (List.ne_nil_of_mem (h.self hx))
    have h2 : ntR' (orbitS p n l y) ∈ orbitS p n l y := ntR'_mem (List.ne_nil_of_mem (h.self hy))
    rw [← he] at h2
    exact h.trans h1 (h.symm hy h2)
end Go.Proofs.YtbenhcognapdpaaGreat.Lin
/- Plain definitions: values of polynomials at points. No program in sight. -/
set_option linter.unusedVariables false
set_option linter.unusedSimpArgs false
namespace Go.Proofs.YtbenhcognapdpaaGreat.Lin

/-- n times a, m times over, modulo p. -/
def powV (p a n : Int) : Nat → Int
  | 0 => n
  | m + 1 => powV p a n m * a % p
/-- A term's value, the first i letters in. -/
def termV (p : Int) (x : Row) (t : Tm) : Nat → Int
  | 0 => t.2
  | i + 1 => powV p (nt x i) (termV p x t i) (nt t.1 i).toNat
def sumV (p : Int) (x : Row) (ts : List Tm) : Nat → Int
  | 0 => 0
  | j + 1 => sumV p x ts j + termV p x (tmR ts j) x.length
def valueV (p : Int) (x : Row) (ts : List Tm) : Int := sumV p x ts ts.length % p
theorem powV_bd {p a n : Int} (hp : 0 < p) (hn : 0 ≤ n ∧ n < p) : ∀ m, 0 ≤ powV p a n m ∧ powV p a n m < p
  | 0 => hn
  | m + 1 => ⟨Int.emod_nonneg _ (by omega), Int.emod_lt_of_pos _ hp⟩
theorem termV_bd {p : Int} {x : Row} {t : Tm} (hp : 0 < p) (ht : 0 ≤ t.2 ∧ t.2 < p) : ∀ i, 0 ≤ termV p x t i ∧ termV p x t i < p
  | 0 => ht
  | i + 1 => powV_bd hp (termV_bd hp ht i) _
theorem sumV_bd {p : Int} {x : Row} {ts : List Tm} (hp : 0 < p) (ht : ∀ j < ts.length, 0 ≤ (tmR ts j).2 ∧ (tmR ts j).2 < p) : ∀ j ≤ ts.length, 0 ≤ sumV p x ts j ∧ sumV p x ts j ≤ j * p
  | 0, _ => by simp [sumV]
  | j + 1, hj => by
    have h1 := sumV_bd (x := x) hp ht j (by omega)
    have h2 := termV_bd (x := x) hp (ht j (by omega)) x.length
    simp only [sumV]
    have e : ((j + 1 : Nat) : Int) * p = j * p + p := by rw [Int.natCast_add, Int.add_mul]; simp
    omega
/-- A polynomial: its prime, its letters, its terms. -/
abbrev Pv := Int × Int × List Tm
def pvR (ps : List Pv) (i : Nat) : Pv := ps.getD i (0, 0, [])
theorem pvR_eq (ps : List Pv) (i : Nat) (h : i < ps.length) : pvR ps i = ps[i] := by
  simp [pvR, List.getD_eq_getElem?_getD, List.getElem?_eq_getElem h]
theorem pvR_mem (ps : List Pv) (i : Nat) (h : i < ps.length) : pvR ps i ∈ ps := by rw [pvR_eq ps i h]; exact List.getElem_mem h
theorem take_succ_pvR (ps : List Pv) (i : Nat) (h : i < ps.length) : ps.take (i + 1) = ps.take i ++ [pvR ps i] := by
  rw [pvR_eq ps i h, List.take_succ_eq_append_getElem h]
/-- The bytes are bytes. -/
def IsPv (P : Pv) : Prop := ∀ t ∈ P.2.2, Is3 t.1
noncomputable def polB (P : Pv) : Bool := polyB P.1 P.2.1 P.2.2
/-- Two polynomials are of one prime and have as many letters. -/
def likeB (P Q : Pv) : Bool := (P.1 == Q.1) && (P.2.1 == Q.2.1)
/-- The values of polynomials at a point. -/
def valsV (ps : List Pv) (x : Row) : Row := ps.map fun P => valueV P.1 x P.2.2
theorem valsV_take (ps : List Pv) (x : Row) (i : Nat) (h : i < ps.length) : valsV (ps.take (i + 1)) x = valsV (ps.take i) x ++ [valueV (pvR ps i).1 x (pvR ps i).2.2] := by
  unfold valsV
  rw [take_succ_pvR ps i h, List.map_append]
  rfl
end Go.Proofs.YtbenhcognapdpaaGreat.Lin
/- Words for the walks of this seat: kinds of elements, and what is read of them. -/
set_option linter.unusedVariables false
set_option linter.unusedSimpArgs false
namespace Go.Proofs.YtbenhcognapdpaaGreat
open Go.RowKit Go.Proofs.YtbenhcognapdpaaGreatW.PrintWords Go.Proofs.YtbenhcognapdpaaGreatW.PrintLast Lin
abbrev Yy : Bool := true
abbrev Nn : Bool := false

abbrev kI : Kd Int := Kd.int .i64
abbrev kB : Kd Int := Kd.int .u8
abbrev kR : Kd (List Int) := Kd.slice 2 kI

theorem infoI : (Tryz.prog.info? 2).map (fun i => (i.zero, i.size, i.bytes)) = some (some (.int .i64 0), 1, 8) := by kernel_rfl
theorem infoR : (Tryz.prog.info? 84).map (fun i => (i.zero, i.size, i.bytes)) = some (some (.slice none 0 0), 1, 24) := by kernel_rfl

theorem ret_i {k : IntKind} {a b : Int} (h : a = b) : Ending.returned (.int k a) = .returned (.int k b) := by rw [h]
theorem ret_b {a b : Bool} (h : a = b) : Ending.returned (.bool a) = .returned (.bool b) := by rw [h]
/-- A slice that is read: its value. -/
def Rd {α : Type} (d : Kd α) (w : World) (v : Value) (xs : List α) : Prop := ∃ A c, v = .slice A xs.length c ∧ xs.length ≤ c ∧ d.C w A xs.length xs

/-- The cell of a number of a row that is read, the index a natural number. -/
theorem at_nt {w : World} {A : Option Addr} {n : Nat} {k : IntKind} {xs : List Int} (h : (Kd.int k).C w A n xs) (i : Nat) (h1 : i < n) : ∃ ad, A = some ad ∧ w.cell? (ad.add i) = some (.int k (nt xs i)) := by
  obtain ⟨ad, e, hc⟩ := Kd.at_int h (i : Int) (by omega) (by omega)
  exact ⟨ad, e, by simpa [rd, nt] using hc⟩

theorem bsize {w W : World} (h : Below w.heap.size w W) : w.heap.size ≤ W.heap.size := h.size
theorem tmod_mod {p x : Int} (hp : 0 < p) : (x.tmod p + p) % p = x % p := by
  have h1 := Int.lt_tmod_of_pos x hp
  rw [Int.add_emod_right]
  rw [Int.tmod_def, Int.sub_eq_add_neg, ← Int.mul_neg, Int.add_mul_emod_self_left]

section
variable {P : Program} {ops : Array Oper} {rest : List Oper} {o : Oper} {a : Act} {Q : Exit → Act → World → Prop}
/-- append(v, x): v an own slice of numbers. -/
theorem app_int {w0 W : World} (hgd : o.guard = none) (s x : Operand) (t : TypeId) (ho : o.op = .call { callee := .builtin .append, args := #[s, x], argTypes := #[t, t] })
    (ht : P.underlying t = some (.slice 2)) (hinfo : (P.info? 2).map (fun i => (i.zero, i.size, i.bytes)) = some (some (.int .i64 0), 1, 8))
    (v : Value) (xs : List Int) (p : Int) (hs : a.eval s = v) (hx : a.eval x = .slice (some ⟨W.heap.size, 0, none⟩) 1 1)
    (HO : kI.R 2 W w0.heap.size (fun _ => True) v xs) (HB : Below w0.heap.size w0 W) (hl : xs.length < 17592186044416)
    (h : ∀ v1 w1, kI.R 2 w1 w0.heap.size (fun _ => True) v1 (xs ++ [p]) → Below w0.heap.size w0 w1 → W.grownBy w1 v.ownBlock → (v1.ownBlock = v.ownBlock ∨ ∃ b, v1.ownBlock = some b ∧ W.heap.size ≤ b) → wpList P ops Q rest (a.put o.dst v1) w1) :
    wpList P ops Q (o :: rest) a (W.alloc (.cells #[.int .i64 p] 2)) :=
  Kd.R_append kI w0.heap.size hgd s x t 2 (.int .i64 0) 8 ho ht hinfo rfl (by decide) (by omega) v xs p [.int .i64 p] (fun _ => True) (fun _ => False) hs hx rfl (fun _ h => h.elim) (fun _ _ => trivial) HO HB HB.size (by omega) h
/-- append(v, ys...): v an own slice of numbers, ys read. -/
theorem app_ints {w0 W : World} (hgd : o.guard = none) (s x : Operand) (t : TypeId) (ho : o.op = .call { callee := .builtin .append, args := #[s, x], argTypes := #[t, t] })
    (ht : P.underlying t = some (.slice 2)) (hinfo : (P.info? 2).map (fun i => (i.zero, i.size, i.bytes)) = some (some (.int .i64 0), 1, 8))
    (v : Value) (xs ys : List Int) (A : Option Addr) (c : Nat) (hs : a.eval s = v) (hx : a.eval x = .slice A ys.length c)
    (HO : kI.R 2 W w0.heap.size (fun _ => True) v xs) (HR : kI.C W A ys.length ys) (HB : Below w0.heap.size w0 W) (hl : xs.length + ys.length < 17592186044416)
    (h : ∀ v1 w1, kI.R 2 w1 w0.heap.size (fun _ => True) v1 (xs ++ ys) → Below w0.heap.size w0 w1 → W.grownBy w1 v.ownBlock → (v1.ownBlock = v.ownBlock ∨ ∃ b, v1.ownBlock = some b ∧ W.heap.size ≤ b) → wpList P ops Q rest (a.put o.dst v1) w1) :
    wpList P ops Q (o :: rest) a W :=
  Kd.R_append_rows kI (Rr := kI.K W) w0.heap.size hgd s x t 2 (.int .i64 0) 8 ho ht hinfo rfl (by decide) (by omega) v xs ys A ys.length c (fun _ => True) (fun _ => False) hs hx HO HR (fun _ _ h => h) (fun _ h => h.elim) (fun _ _ => trivial) HB HB.size (by omega) h
end

/-- A literal without elements. -/
theorem R_lit0 {α : Type} (d : Kd α) (e : Nat) (w : World) (B : Nat) (h : B ≤ w.heap.size) : d.R e (w.alloc (.cells #[] e)) B (fun _ => True) (.slice (some ⟨w.heap.size, 0, none⟩) 0 0) [] := by
  refine ⟨fun _ _ => trivial, [], ?_, Reps.none _ _⟩
  have h2 := World.ownsRow_lit (base := B) (e := e) (size := d.sz) w #[] 0 h (by simp [maxLen]) (by simp)
  simpa using h2
/-- A row of a list of rows. (A name that simp does not open.) -/
def ntR (xs : List (List Int)) (i : Nat) : List Int := xs.getD i []
theorem ntR_eq (xs : List (List Int)) (i : Nat) (h : i < xs.length) : ntR xs i = xs[i] := by
  simp [ntR, List.getD_eq_getElem?_getD, List.getElem?_eq_getElem h]
theorem ntR_mem (xs : List (List Int)) (i : Nat) (h : i < xs.length) : ntR xs i ∈ xs := by rw [ntR_eq xs i h]; exact List.getElem_mem h
theorem take_succ_ntR (xs : List (List Int)) (i : Nat) (h : i < xs.length) : xs.take (i + 1) = xs.take i ++ [ntR xs i] := by
  rw [ntR_eq xs i h, List.take_succ_eq_append_getElem h]
theorem at_row {w : World} {A : Option Addr} {n : Nat} {xs : List (List Int)} (h : kR.C w A n xs) (i : Nat) (h1 : i < n) :
    ∃ ad A0 c0 r, r = ntR xs i ∧ A = some ad ∧ w.cell? (ad.add i) = some (.slice A0 r.length c0) ∧ r.length ≤ c0 ∧ kI.C w A0 r.length r := by
  obtain ⟨ad, c, e, _, hK, hc0⟩ := Kd.C_get h ([] : List Int) (i : Int) (by omega) (by omega)
  have hc : ∀ j u, c[j]? = some u → w.cell? (ad.add (i * 1 + j)) = some u := hc0
  obtain ⟨A0, c0, rfl, l0, g0⟩ := hK
  exact ⟨ad, A0, c0, ntR xs i, rfl, e, by have hq := hc 0 _ rfl; simpa [ntR] using hq, by simpa [ntR] using l0, by simpa [ntR] using g0⟩
/-- A number of a row of the call's own: read, written. -/
theorem own_cell {e base g n cap : Nat} {ok : Nat → Prop} {W : World} {xs : List Int} (h : kI.R e W base ok (.slice (some ⟨g, 0, none⟩) n cap) xs) (i : Nat) (hi : i < n) : W.cell? ⟨g, i, none⟩ = some (.int .i64 (nt xs i)) ∧ W.frozen? ⟨g, i, none⟩ = false := by
  have := Kd.R_celln (0 : Int) h (i : Int) (by omega) (by omega)
  simpa [rdOf, nt] using this
theorem own_put {e base g n cap : Nat} {ok : Nat → Prop} {W : World} {xs : List Int} (h : kI.R e W base ok (.slice (some ⟨g, 0, none⟩) n cap) xs) (i : Nat) (x : Int) : kI.R e (W.setCell ⟨g, i, none⟩ (.int .i64 x)) base ok (.slice (some ⟨g, 0, none⟩) n cap) (xs.set i x) := by
  have := Kd.R_putn h (i : Int) x
  simp only [Int.toNat_natCast] at this
  exact this
/-- A block that is new is none of an elder row's. -/
theorem R_fresh {α : Type} {d : Kd α} {e base : Nat} {ok : Nat → Prop} {W : World} {v : Value} {xs : List α} (h : d.R e W base ok v xs) (o : Obj) (n c : Nat) : d.R e (W.alloc o) base (fun k => some k ≠ (Value.slice (some ⟨W.heap.size, 0, none⟩) n c).ownBlock) v xs := by
  refine Kd.R_mono (Kd.R_alloc (Kd.R_bound h) o) (fun k hk => ?_)
  have := hk.2.2.1
  simp [Value.ownBlock]
  omega
theorem R_any {α : Type} {d : Kd α} {e base : Nat} {ok : Nat → Prop} {W : World} {v : Value} {xs : List α} (h : d.R e W base ok v xs) : d.R e W base (fun _ => True) v xs := Kd.R_mono h (fun _ _ => trivial)
/-- What is apart from an own row stays apart behind an append to it. -/
theorem R_next {α : Type} {d : Kd α} {e base : Nat} {W w1 : World} {u v v1 : Value} {xs : List α} (h : d.R e W base (fun k => some k ≠ v.ownBlock) u xs) (hg : W.grownBy w1 v.ownBlock) (hat : v1.ownBlock = v.ownBlock ∨ ∃ b, v1.ownBlock = some b ∧ W.heap.size ≤ b) : d.R e w1 base (fun k => some k ≠ v1.ownBlock) u xs :=
  Kd.R_mono (Kd.R_after (ok := fun _ => True) (Kd.R_mono h (fun k hk => ⟨trivial, hk⟩)) hg hat) (fun k hk => hk.2)

section
variable {P : Program} {ops : Array Oper} {rest : List Oper} {o : Oper} {a : Act} {Q : Exit → Act → World → Prop} {Kc : Act → World → Prop}
/-- append(v, u): v an own slice of rows, u an own row, another one. -/
theorem app_row {w0 W : World} (hgd : o.guard = none) (s x : Operand) (t : TypeId) (ho : o.op = .call { callee := .builtin .append, args := #[s, x], argTypes := #[t, t] })
    (ht : P.underlying t = some (.slice 84)) (hinfo : (P.info? 84).map (fun i => (i.zero, i.size, i.bytes)) = some (some (.slice none 0 0), 1, 24))
    (v : Value) (xs : List (List Int)) (u : Value) (p : List Int) (hs : a.eval s = v) (hx : a.eval x = .slice (some ⟨W.heap.size, 0, none⟩) 1 1)
    (HP : kI.R 2 W w0.heap.size (fun k => some k ≠ v.ownBlock) u p)
    (HO : kR.R 84 W w0.heap.size (fun _ => True) v xs) (HB : Below w0.heap.size w0 W) (hl : xs.length < 1000000000000)
    (h : ∀ v1 w1, kR.R 84 w1 w0.heap.size (fun _ => True) v1 (xs ++ [p]) → Below w0.heap.size w0 w1 → W.grownBy w1 v.ownBlock → (v1.ownBlock = v.ownBlock ∨ ∃ b, v1.ownBlock = some b ∧ W.heap.size ≤ b) → wpList P ops Q rest (a.put o.dst v1) w1) :
    wpList P ops Q (o :: rest) a (W.alloc (.cells #[u] 84)) :=
  Kd.R_append kR w0.heap.size hgd s x t 84 (.slice none 0 0) 24 ho ht hinfo rfl (by decide) (by omega) v xs p [u] (fun _ => True) (fun k => some k ≠ v.ownBlock) hs hx (Kd.M_row HP) (fun _ h => ⟨trivial, h⟩) (fun _ _ => trivial) HO HB HB.size (by omega) h
theorem app_row_step {w0 W : World} (hw : Region.wanted o (yielded ops a.tmps) = true) (s x : Operand) (t : TypeId) (ho : o.op = .call { callee := .builtin .append, args := #[s, x], argTypes := #[t, t] })
    (ht : P.underlying t = some (.slice 84)) (hinfo : (P.info? 84).map (fun i => (i.zero, i.size, i.bytes)) = some (some (.slice none 0 0), 1, 24))
    (v : Value) (xs : List (List Int)) (u : Value) (p : List Int) (hs : a.eval s = v) (hx : a.eval x = .slice (some ⟨W.heap.size, 0, none⟩) 1 1)
    (HP : kI.R 2 W w0.heap.size (fun k => some k ≠ v.ownBlock) u p)
    (HO : kR.R 84 W w0.heap.size (fun _ => True) v xs) (HB : Below w0.heap.size w0 W) (hl : xs.length < 1000000000000)
    (h : ∀ v1 w1, kR.R 84 w1 w0.heap.size (fun _ => True) v1 (xs ++ [p]) → Below w0.heap.size w0 w1 → W.grownBy w1 v.ownBlock → (v1.ownBlock = v.ownBlock ∨ ∃ b, v1.ownBlock = some b ∧ W.heap.size ≤ b) → Kc (a.put o.dst v1) w1) :
    if Region.wanted o (yielded ops a.tmps) = true then Oper.wp P o a (W.alloc (.cells #[u] 84)) Kc Q else Kc (a.put o.dst undef) (W.alloc (.cells #[u] 84)) :=
  Kd.R_append_step kR w0.heap.size hw s x t 84 (.slice none 0 0) 24 ho ht hinfo rfl (by decide) (by omega) v xs p [u] (fun _ => True) (fun k => some k ≠ v.ownBlock) hs hx (Kd.M_row HP) (fun _ h => ⟨trivial, h⟩) (fun _ _ => trivial) HO HB HB.size (by omega) h
end
/-- A block of the call's own, known whole. (A name that the walk does not open.) -/
def Blk (w : World) (g : Nat) (t : Nat) (cs : Array Value) : Prop := w.heap[g]? = some (.cells cs t (0, 0))
theorem Blk.new (w : World) (cs : Array Value) (t : Nat) : Blk (w.alloc (.cells cs t)) w.heap.size t cs := heap_alloc_new w _
theorem Blk.new1 (w : World) (o : Obj) (cs : Array Value) (t : Nat) : Blk ((w.alloc o).alloc (.cells cs t)) (w.heap.size + 1) t cs := by
  have h := Blk.new (w.alloc o) cs t
  have e : (w.alloc o).heap.size = w.heap.size + 1 := by simp
  rwa [e] at h
theorem Blk.new2 (w : World) (o o' : Obj) (cs : Array Value) (t : Nat) : Blk (((w.alloc o).alloc o').alloc (.cells cs t)) (w.heap.size + 1 + 1) t cs := by
  have h := Blk.new1 (w.alloc o) o' cs t
  have e : (w.alloc o).heap.size = w.heap.size + 1 := by simp
  rwa [e] at h
theorem Blk.new3 (w : World) (o o' o2 : Obj) (cs : Array Value) (t : Nat) : Blk ((((w.alloc o).alloc o').alloc o2).alloc (.cells cs t)) (w.heap.size + 1 + 1 + 1) t cs := by
  have h := Blk.new2 (w.alloc o) o' o2 cs t
  have e : (w.alloc o).heap.size = w.heap.size + 1 := by simp
  rwa [e] at h
section
variable {w w1 : World} {g t : Nat} {cs : Array Value}
theorem Blk.lt (h : Blk w g t cs) : g < w.heap.size := (Array.getElem?_eq_some_iff.1 h).1
theorem Blk.alloc (h : Blk w g t cs) (o : Obj) : Blk (w.alloc o) g t cs := (Below.heap_alloc _ _ _ h.lt).trans h
theorem Blk.drew (h : Blk w g t cs) : Blk w.drew g t cs := h
theorem Blk.drewN (h : Blk w g t cs) (n : Nat) : Blk (w.drewN n) g t cs := by rw [Blk, World.heap_drewN]; exact h
theorem Blk.cell (h : Blk w g t cs) (i : Nat) {v : Value} (hv : cs[i]? = some v) : w.cell? ⟨g, i, none⟩ = some v := (blk_cell h i).trans hv
theorem Blk.frozen (h : Blk w g t cs) (i : Nat) : w.frozen? ⟨g, i, none⟩ = false := blk_frozen h i
theorem Blk.set (h : Blk w g t cs) (i : Nat) (u : Value) : Blk (w.setCell ⟨g, i, none⟩ u) g t (cs.setIfInBounds i u) := blk_set h i u
theorem Blk.far (h : Blk w g t cs) {p : Addr} (hp : g ≠ p.block) (u : Value) : Blk (w.setCell p u) g t cs := blk_far h hp u
theorem Blk.below {B : Nat} (h : Blk w g t cs) (hb : Below B w w1) (hg : g < B) : Blk w1 g t cs := (hb.block g hg).trans h
theorem Blk.keep (h : Blk w g t cs) (hb : Below w.heap.size w w1) : Blk w1 g t cs := h.below hb h.lt
theorem Blk.grown {row : Option Nat} (h : Blk w g t cs) (hg : w.grownBy w1 row) (hn : some g ≠ row) : Blk w1 g t cs := (hg.block g h.lt hn).trans h
end
theorem Blk.setRow {w : World} {g t : Nat} {cs : Array Value} (h : Blk w g t cs) (cs' : Array Value) : Blk (w.setRow g cs') g t cs' := setRow_heap w g cs cs' t (0, 0) h
theorem Blk.setRow_far {w : World} {g g' t : Nat} {cs : Array Value} (h : Blk w g t cs) (hn : g' ≠ g) (cs' : Array Value) : Blk (w.setRow g' cs') g t cs := by
  unfold Blk at *
  simp only [World.setRow, Array.getElem?_modify]
  rw [if_neg hn]
  exact h
theorem below_setRow {B : Nat} {a w : World} (h : Below B a w) {g : Nat} (hg : B ≤ g) (cs : Array Value) : Below B a (w.setRow g cs) :=
  h.trans ⟨rfl, rfl, rfl, by simp [World.setRow], fun k hk => by simp only [World.setRow, Array.getElem?_modify]; rw [if_neg (by omega)]⟩
section
variable {P : Program} {ops : Array Oper} {rest : List Oper} {o : Oper} {a : Act} {Q : Exit → Act → World → Prop}
/-- A whole array or struct read out of a block. -/
theorem load_blk {W : World} {g t : Nat} {cs : Array Value} (hgd : o.guard = none) (ty : TypeId) (x : Tmp) (ho : o.op = .load ty (.tmp x)) (H : Blk W g t cs) (hx : a.eval (.tmp x) = .pointer (some ⟨g, 0, none⟩)) (d : TypeDesc)
    (hu : P.underlying ty = some d) (hd : (match d with | .struct _ | .array _ _ => true | _ => false) = true) (hi : (P.info? ty).map (·.size) = some cs.size)
    (h : wpList P ops Q rest (a.put o.dst (.agg cs)) W) : wpList P ops Q (o :: rest) a W := wpList_load_row hgd ty (.tmp x) ho g hx t cs (0, 0) d H hu hd hi h
/-- .. and written. -/
theorem store_blk {W : World} {g t : Nat} {old cs : Array Value} (hgd : o.guard = none) (ty : TypeId) (x : Tmp) (y : Operand) (ho : o.op = .store ty (.tmp x) y) (H : Blk W g t old) (hx : a.eval (.tmp x) = .pointer (some ⟨g, 0, none⟩)) (hy : a.eval y = .agg cs)
    (hi : (P.info? ty).map (·.size) = some cs.size) (hold : old.size = cs.size) (h1 : cs.all (·.oneCell') = true)
    (h : wpList P ops Q rest (a.put o.dst undef) (W.setRow g cs)) : wpList P ops Q (o :: rest) a W := wpList_store_row hgd ty (.tmp x) y ho g cs hx hy t old H hi hold h1 h
end
/-- A whole array or struct read at an address. -/
theorem run_loadVar_at {P : Program} (w : World) (ad : Addr) (ty : TypeId) (cs : List Value) (d : TypeDesc) (hc : ∀ j v, cs[j]? = some v → w.cell? (ad.add j) = some v)
    (hu : P.underlying ty = some d) (hd : (match d with | .struct _ | .array _ _ => true | _ => false) = true) (hi : (P.info? ty).map (·.size) = some cs.length) :
    (loadVar ty ad).run P w = .ok (.agg cs.toArray) w := by
  have hl : (loadCells ad cs.length).run P w = .ok cs.toArray w := run_loadCells_list (P := P) w ad cs hc
  cases hq : P.info? ty with
  | none => simp [hq] at hi
  | some i =>
    have hs : i.size = cs.length := by simpa [hq] using hi
    have hagg : (isAgg ty).run P w = .ok true w := by
      unfold isAgg
      rw [Sem.run_bind, run_underlying hu w]
      cases d <;> simp_all
    simp [loadVar, Sem.run_bind, hagg, sizeOf, typeInfo, hq, hs, hl]
section
variable {P : Program} {ops : Array Oper} {rest : List Oper} {o : Oper} {a : Act} {Q : Exit → Act → World → Prop}
theorem load_at {W : World} {cs : List Value} (hgd : o.guard = none) (ty : TypeId) (x : Tmp) (ho : o.op = .load ty (.tmp x)) (ad : Addr) (hc : ∀ j v, cs[j]? = some v → W.cell? (ad.add j) = some v) (hx : a.eval (.tmp x) = .pointer (some ad)) (d : TypeDesc)
    (hu : P.underlying ty = some d) (hd : (match d with | .struct _ | .array _ _ => true | _ => false) = true) (hi : (P.info? ty).map (·.size) = some cs.length)
    (h : wpList P ops Q rest (a.put o.dst (.agg cs.toArray)) W) : wpList P ops Q (o :: rest) a W := by
  refine wpList_plain hgd fun K hK => ?_
  unfold Oper.wp execOp
  simp only [ho, hx, Instr.loadAt, Instr.sureAddr, Sem.run_bind, Sem.run_pure, Result.andThen_ok, run_loadVar_at W ad ty cs d hc hu hd hi]
  exact hK _ _ h
end
end Go.Proofs.YtbenhcognapdpaaGreat
/- Walks: tests on numbers and rows, comparisons. -/
set_option linter.unusedVariables false
set_option linter.unusedSimpArgs false
namespace Go.Proofs.YtbenhcognapdpaaGreat
open Go.RowKit Go.Proofs.YtbenhcognapdpaaGreatW.PrintWords Go.Proofs.YtbenhcognapdpaaGreatW.PrintLast Lin

set_option maxRecDepth 100000 in
theorem l01Prime_calls (p : Int) (w : World) : Calls Tryz.prog 139 #[.int .i64 p] w fun e w' => e = .returned (.bool (primeB p)) ∧ w = w' := by
  by_cases h : IsP p
  · have hb : primeB p = true := primeB_iff.2 h
    rw [hb]
    unfold IsP at h
    rcases h with h | h | h | h | h | h
    all_goals
      subst h
      go_enter Tryz.func139, Tryz.ntmps139
      go_wp2
      go_ret
      exact ⟨rfl, rfl⟩
  · have hb : primeB p = false := decide_eq_false h
    rw [hb]
    unfold IsP at h
    have h1 : (p == 2) = false := by rw [beq_eq_false_iff_ne]; omega
    have h2 : (p == 3) = false := by rw [beq_eq_false_iff_ne]; omega
    have h3 : (p == 5) = false := by rw [beq_eq_false_iff_ne]; omega
    have h4 : (p == 7) = false := by rw [beq_eq_false_iff_ne]; omega
    have h5 : (p == 11) = false := by rw [beq_eq_false_iff_ne]; omega
    have h6 : (p == 13) = false := by rw [beq_eq_false_iff_ne]; omega
    clear h
    go_enter Tryz.func139, Tryz.ntmps139
    go_wp2
    go_ret
    exact ⟨rfl, rfl⟩

set_option maxRecDepth 100000 in
theorem isPrime_calls (p : Int) (w : World) : Calls Tryz.prog 154 #[.int .i64 p] w fun e w' => e = .returned (.bool (primeB p)) ∧ w = w' := by
  by_cases h : IsP p
  · have hb : primeB p = true := primeB_iff.2 h
    rw [hb]
    unfold IsP at h
    rcases h with h | h | h | h | h | h
    all_goals
      subst h
      go_enter Tryz.func154, Tryz.ntmps154
      go_wp2
      go_ret
      exact ⟨rfl, rfl⟩
  · have hb : primeB p = false := decide_eq_false h
    rw [hb]
    unfold IsP at h
    have h1 : (p == 2) = false := by rw [beq_eq_false_iff_ne]; omega
    have h2 : (p == 3) = false := by rw [beq_eq_false_iff_ne]; omega
    have h3 : (p == 5) = false := by rw [beq_eq_false_iff_ne]; omega
    have h4 : (p == 7) = false := by rw [beq_eq_false_iff_ne]; omega
    have h5 : (p == 11) = false := by rw [beq_eq_false_iff_ne]; omega
    have h6 : (p == 13) = false := by rw [beq_eq_false_iff_ne]; omega
    clear h
    go_enter Tryz.func154, Tryz.ntmps154
    go_wp2
    go_ret
    exact ⟨rfl, rfl⟩

def inB (x a b : Int) : Bool := decide (a ≤ x ∧ x ≤ b)
theorem l01In_calls (x a b : Int) (w : World) : Calls Tryz.prog 116 #[.int .i64 x, .int .i64 a, .int .i64 b] w fun e w' => e = .returned (.bool (inB x a b)) ∧ w = w' := by
  by_cases h1 : a ≤ x
  · by_cases h2 : x ≤ b
    · have hb : inB x a b = true := decide_eq_true ⟨h1, h2⟩
      rw [hb]
      go_enter Tryz.func116, Tryz.ntmps116
      go_wp2
      go_ret
      exact ⟨ret_b (by simp), rfl⟩
    · have hb : inB x a b = false := decide_eq_false (by omega)
      rw [hb]
      go_enter Tryz.func116, Tryz.ntmps116
      go_wp2
      go_ret
      exact ⟨ret_b (by simp), rfl⟩
  · have hb : inB x a b = false := decide_eq_false (by omega)
    have h1' : decide (a ≤ x) = false := decide_eq_false h1
    rw [hb]
    go_enter Tryz.func116, Tryz.ntmps116
    go_wp2
    go_ret
    exact ⟨ret_b rfl, rfl⟩
def varsB (d : Int) : Bool := decide (1 ≤ d ∧ d ≤ 3)
theorem isVars_calls (d : Int) (w : World) : Calls Tryz.prog 155 #[.int .i64 d] w fun e w' => e = .returned (.bool (varsB d)) ∧ w = w' := by
  by_cases h1 : 1 ≤ d
  · by_cases h2 : d ≤ 3
    · have hb : varsB d = true := decide_eq_true ⟨h1, h2⟩
      rw [hb]
      go_enter Tryz.func155, Tryz.ntmps155
      go_wp2
      go_ret
      exact ⟨ret_b (by simp), rfl⟩
    · have hb : varsB d = false := decide_eq_false (by omega)
      rw [hb]
      go_enter Tryz.func155, Tryz.ntmps155
      go_wp2
      go_ret
      exact ⟨ret_b (by simp), rfl⟩
  · have hb : varsB d = false := decide_eq_false (by omega)
    have h1' : decide (1 ≤ d) = false := decide_eq_false h1
    rw [hb]
    go_enter Tryz.func155, Tryz.ntmps155
    go_wp2
    go_ret
    exact ⟨ret_b rfl, rfl⟩

set_option maxHeartbeats 400000 in
theorem field_calls (p : Int) (A : Option Addr) (n c : Nat) (l : List Int) (w : World) (hr : kI.C w A n l) :
    Calls Tryz.prog 221 #[.int .i64 p, .slice A n c] w fun e w' => e = .returned (.bool (fieldB p l)) ∧ Drawn0 w w' := by
  obtain rfl := Kd.C_len hr
  have hm := Kd.C_max hr
  have HR := Aside0.mk hr
  clear hr
  go_enter Tryz.func221, Tryz.ntmps221
  go_wp2
  go_loopw [9] (fun v wr => ∃ k : Nat, v = .int .i64 k ∧ k ≤ l.length ∧ Aside0 (∀ j < k, 0 ≤ nt l j ∧ nt l j < p) ∧ Drawn0 w wr) (fun v _ => l.length - (intOf v).toNat)
  case atStart => exact ⟨0, rfl, by omega, ⟨fun j hj => by omega⟩, Drawn0.refl _⟩
  case round =>
    obtain ⟨k, rfl, hk, HZ, ⟨m, rfl⟩⟩ := hrel
    by_cases hlt : k < l.length
    · obtain ⟨ad, rfl, hc⟩ := at_nt HR.out k hlt
      by_cases h0 : 0 ≤ nt l k
      · have hb : decide (nt l k < 0) = false := decide_eq_false (by omega)
        by_cases h1 : nt l k < p
        · have hb1 : decide (p ≤ nt l k) = false := decide_eq_false (by omega)
          have HN := Aside0.mk (And.intro h0 h1)
          go_wp2
          go_roundw
          case rel => exact ⟨k + 1, by go_num, by omega, ⟨fun j hj => by rcases Nat.lt_succ_iff_lt_or_eq.1 hj with h | h; exact HZ.out j h; subst h; exact HN.out⟩, (by repeat (first | exact Drawn0.refl _ | apply Drawn0.step))⟩
          case measure => simp [intOf]; omega
        · have hb1 : decide (p ≤ nt l k) = true := decide_eq_true (by omega)
          have HN := Aside0.mk (fieldB_false (p := p) hlt (by omega))
          go_wp2
          go_ret
          exact ⟨ret_b HN.out.symm, (by repeat (first | exact Drawn0.refl _ | apply Drawn0.step))⟩
      · have hb : decide (nt l k < 0) = true := decide_eq_true (by omega)
        have HN := Aside0.mk (fieldB_false (p := p) hlt (by omega))
        go_wp2
        go_ret
        exact ⟨ret_b HN.out.symm, (by repeat (first | exact Drawn0.refl _ | apply Drawn0.step))⟩
    · have HE := Aside0.mk (show k = l.length by omega)
      go_wp2
      go_ret
      exact ⟨ret_b (fieldB_true (fun j hj => HZ.out j (by rw [HE.out]; exact hj))).symm, (by repeat (first | exact Drawn0.refl _ | apply Drawn0.step))⟩

end Go.Proofs.YtbenhcognapdpaaGreat
/- Walks: rows held against rows. -/
set_option linter.unusedVariables false
set_option linter.unusedSimpArgs false
namespace Go.Proofs.YtbenhcognapdpaaGreat
open Go.RowKit Go.Proofs.YtbenhcognapdpaaGreatW.PrintWords Go.Proofs.YtbenhcognapdpaaGreatW.PrintLast Lin

set_option maxRecDepth 100000 in
set_option maxHeartbeats 400000 in
theorem l09Same_calls (A : Option Addr) (n c : Nat) (a : List Int) (A' : Option Addr) (n' c' : Nat) (b : List Int) (w : World) (hr : kI.C w A n a) (hr' : kI.C w A' n' b) (hn : n = n') :
    Calls Tryz.prog 88 #[.slice A n c, .slice A' n' c'] w fun e w' => e = .returned (.bool (sameB a b)) ∧ Drawn0 w w' := by
  obtain rfl := Kd.C_len hr
  obtain rfl := Kd.C_len hr'
  have hm := Kd.C_max hr
  have HR := Aside0.mk hr
  have HR' := Aside0.mk hr'
  have HL := Aside0.mk hn
  clear hr hr' hn
  go_enter Tryz.func88, Tryz.ntmps88
  go_wp2
  go_loopw [5] (fun v wr => ∃ k : Nat, v = .int .i64 k ∧ k ≤ a.length ∧ Aside0 (∀ j < k, nt a j = nt b j) ∧ Drawn0 w wr) (fun v _ => a.length - (intOf v).toNat)
  case atStart => exact ⟨0, rfl, by omega, ⟨fun j hj => by omega⟩, Drawn0.refl _⟩
  case round =>
    obtain ⟨k, rfl, hk, HZ, ⟨m, rfl⟩⟩ := hrel
    by_cases hlt : k < a.length
    · have hlt' : k < b.length := by have := HL.out; omega
      obtain ⟨ad, rfl, hc⟩ := at_nt HR.out k hlt
      obtain ⟨ad', rfl, hc'⟩ := at_nt HR'.out k hlt'
      by_cases h0 : nt a k = nt b k
      · have hb : (nt a k != nt b k) = false := by simp [h0]
        have HN := Aside0.mk h0
        clear h0
        go_wp2
        go_quiet (fail)
        go_wp2
        go_roundw
        case rel => exact ⟨k + 1, by go_num, by omega, ⟨fun j hj => by rcases Nat.lt_succ_iff_lt_or_eq.1 hj with h | h; exact HZ.out j h; subst h; exact HN.out⟩, (by repeat (first | exact Drawn0.refl _ | apply Drawn0.step))⟩
        case measure => simp [intOf]; omega
      · have hb : (nt a k != nt b k) = true := by simpa using h0
        have HN := Aside0.mk (sameB_false HL.out hlt h0)
        clear h0
        go_wp2
        go_quiet (fail)
        go_wp2
        go_ret
        exact ⟨ret_b HN.out.symm, (by repeat (first | exact Drawn0.refl _ | apply Drawn0.step))⟩
    · have HE := Aside0.mk (show k = a.length by omega)
      go_wp2
      go_ret
      exact ⟨ret_b (sameB_true HL.out (fun j hj => HZ.out j (by rw [HE.out]; exact hj))).symm, (by repeat (first | exact Drawn0.refl _ | apply Drawn0.step))⟩

set_option maxRecDepth 100000 in
set_option maxHeartbeats 400000 in
theorem equal_calls (A : Option Addr) (n c : Nat) (a : List Int) (A' : Option Addr) (n' c' : Nat) (b : List Int) (w : World) (hr : kI.C w A n a) (hr' : kI.C w A' n' b) :
    Calls Tryz.prog 94 #[.slice A n c, .slice A' n' c'] w fun e w' => e = .returned (.bool (sameB a b)) ∧ Drawn0 w w' := by
  obtain rfl := Kd.C_len hr
  obtain rfl := Kd.C_len hr'
  have hm := Kd.C_max hr
  have HR := Aside0.mk hr
  have HR' := Aside0.mk hr'
  clear hr hr'
  by_cases hn : a.length = b.length
  · have hnb : ((a.length : Int) != (b.length : Int)) = false := by rw [bne_eq_false_iff_eq]; omega
    have HL := Aside0.mk hn
    clear hn
    go_enter Tryz.func94, Tryz.ntmps94
    go_wp2
    go_loopw [13] (fun v wr => ∃ k : Nat, v = .int .i64 k ∧ k ≤ a.length ∧ Aside0 (∀ j < k, nt a j = nt b j) ∧ Drawn0 w wr) (fun v _ => a.length - (intOf v).toNat)
    case atStart => exact ⟨0, rfl, by omega, ⟨fun j hj => by omega⟩, Drawn0.refl _⟩
    case round =>
      obtain ⟨k, rfl, hk, HZ, ⟨m, rfl⟩⟩ := hrel
      by_cases hlt : k < a.length
      · have hlt' : k < b.length := by have := HL.out; omega
        obtain ⟨ad, rfl, hc⟩ := at_nt HR.out k hlt
        obtain ⟨ad', rfl, hc'⟩ := at_nt HR'.out k hlt'
        by_cases h0 : nt a k = nt b k
        · have hb : (nt a k != nt b k) = false := by simp [h0]
          have HN := Aside0.mk h0
          clear h0
          go_wp2
          go_quiet (fail)
          go_wp2
          go_roundw
          case rel => exact ⟨k + 1, by go_num, by omega, ⟨fun j hj => by rcases Nat.lt_succ_iff_lt_or_eq.1 hj with h | h; exact HZ.out j h; subst h; exact HN.out⟩, (by repeat (first | exact Drawn0.refl _ | apply Drawn0.step))⟩
          case measure => simp [intOf]; omega
        · have hb : (nt a k != nt b k) = true := by simpa using h0
          have HN := Aside0.mk (sameB_false HL.out hlt h0)
          clear h0
          go_wp2
          go_quiet (fail)
          go_wp2
          go_ret
          exact ⟨ret_b HN.out.symm, (by repeat (first | exact Drawn0.refl _ | apply Drawn0.step))⟩
      · have HE := Aside0.mk (show k = a.length by omega)
        go_wp2
        go_ret
        exact ⟨ret_b (sameB_true HL.out (fun j hj => HZ.out j (by rw [HE.out]; exact hj))).symm, (by repeat (first | exact Drawn0.refl _ | apply Drawn0.step))⟩
  · have hnb : ((a.length : Int) != (b.length : Int)) = true := by rw [bne_iff_ne]; omega
    have HS := Aside0.mk (show sameB a b = false from decide_eq_false (fun e => hn (by rw [e])))
    clear hn
    go_enter Tryz.func94, Tryz.ntmps94
    go_wp2
    go_ret
    exact ⟨ret_b HS.out.symm, (by repeat (first | exact Drawn0.refl _ | apply Drawn0.step))⟩

set_option maxRecDepth 100000 in
set_option maxHeartbeats 400000 in
theorem l02Compare_calls (A : Option Addr) (n c : Nat) (a : List Int) (A' : Option Addr) (n' c' : Nat) (b : List Int) (w : World) (hr : kI.C w A n a) (hr' : kI.C w A' n' b) (hn : n = n') :
    Calls Tryz.prog 216 #[.slice A n c, .slice A' n' c'] w fun e w' => e = .returned (.int .i64 (cmpL a b)) ∧ Drawn0 w w' := by
  obtain rfl := Kd.C_len hr
  obtain rfl := Kd.C_len hr'
  have hm := Kd.C_max hr
  have HR := Aside0.mk hr
  have HR' := Aside0.mk hr'
  have HL := Aside0.mk hn
  clear hr hr' hn
  go_enter Tryz.func216, Tryz.ntmps216
  go_wp2
  go_loopw [5] (fun v wr => ∃ k : Nat, v = .int .i64 k ∧ k ≤ a.length ∧ Aside0 (∀ j < k, nt a j = nt b j) ∧ Drawn0 w wr) (fun v _ => a.length - (intOf v).toNat)
  case atStart => exact ⟨0, rfl, by omega, ⟨fun j hj => by omega⟩, Drawn0.refl _⟩
  case round =>
    obtain ⟨k, rfl, hk, HZ, ⟨m, rfl⟩⟩ := hrel
    by_cases hlt : k < a.length
    · have hlt' : k < b.length := by have := HL.out; omega
      obtain ⟨ad, rfl, hc⟩ := at_nt HR.out k hlt
      obtain ⟨ad', rfl, hc'⟩ := at_nt HR'.out k hlt'
      by_cases h0 : nt a k < nt b k
      · have HN := Aside0.mk (cmpL_lt hlt hlt' HZ.out h0)
        have hb : decide (nt a k < nt b k) = true := decide_eq_true h0
        go_wp2
        go_quiet (fail)
        go_wp2
        go_ret
        exact ⟨ret_i HN.out.symm, (by repeat (first | exact Drawn0.refl _ | apply Drawn0.step))⟩
      · have hb : decide (nt a k < nt b k) = false := decide_eq_false h0
        by_cases h1 : nt b k < nt a k
        · have HN := Aside0.mk (cmpL_gt hlt hlt' HZ.out h1)
          have hb1 : decide (nt b k < nt a k) = true := decide_eq_true h1
          go_wp2
          go_quiet (fail)
          go_wp2
          go_quiet (fail)
          go_wp2
          go_ret
          exact ⟨ret_i HN.out.symm, (by repeat (first | exact Drawn0.refl _ | apply Drawn0.step))⟩
        · have hb1 : decide (nt b k < nt a k) = false := decide_eq_false h1
          have HN := Aside0.mk (show nt a k = nt b k by omega)
          go_wp2
          go_quiet (fail)
          go_wp2
          go_quiet (fail)
          go_wp2
          go_roundw
          case rel => exact ⟨k + 1, by go_num, by omega, ⟨fun j hj => by rcases Nat.lt_succ_iff_lt_or_eq.1 hj with h | h; exact HZ.out j h; subst h; exact HN.out⟩, (by repeat (first | exact Drawn0.refl _ | apply Drawn0.step))⟩
          case measure => simp [intOf]; omega
    · have HE := Aside0.mk (show k = a.length by omega)
      go_wp2
      go_ret
      exact ⟨ret_i (by rw [cmpL_end (by have := HL.out; omega) (fun j hj => HZ.out j (by rw [HE.out]; exact hj)), if_neg (by have := HL.out; omega)]), (by repeat (first | exact Drawn0.refl _ | apply Drawn0.step))⟩

theorem isNaN_calls (x : Int) (w : World) : Calls Tryz.prog 256 #[.int .i64 x] w fun e w' => e = .returned (.bool false) ∧ w = w' := by
  have hb : (x != x) = false := by simp
  go_enter Tryz.func256, Tryz.ntmps256
  go_wp2
  go_ret
  exact ⟨ret_b (by simp), rfl⟩
theorem cmpI_calls (x y : Int) (w : World) : Calls Tryz.prog 224 #[.int .i64 x, .int .i64 y] w fun e w' => e = .returned (.int .i64 (cmpI x y)) ∧ w = w' := by
  rcases Int.lt_trichotomy x y with h | h | h
  · have hb : decide (x < y) = true := decide_eq_true h
    have HE := Aside0.mk (show cmpI x y = -1 by simp [cmpI, h])
    go_enter Tryz.func224, Tryz.ntmps224
    go_wp2_with ((go_at_call 256; refine (isNaN_calls _ _).mono ?_; rintro e w' ⟨rfl, rfl⟩))
    go_ret
    exact ⟨ret_i HE.out.symm, rfl⟩
  · subst h
    have HE := Aside0.mk (show cmpI x x = 0 by simp [cmpI])
    go_enter Tryz.func224, Tryz.ntmps224
    go_wp2_with ((go_at_call 256; refine (isNaN_calls _ _).mono ?_; rintro e w' ⟨rfl, rfl⟩))
    go_ret
    exact ⟨ret_i HE.out.symm, rfl⟩
  · have hb : decide (x < y) = false := decide_eq_false (by omega)
    have hb2 : decide (y < x) = true := decide_eq_true h
    have HE := Aside0.mk (show cmpI x y = 1 by simp [cmpI, h]; omega)
    go_enter Tryz.func224, Tryz.ntmps224
    go_wp2_with ((go_at_call 256; refine (isNaN_calls _ _).mono ?_; rintro e w' ⟨rfl, rfl⟩))
    go_ret
    exact ⟨ret_i HE.out.symm, rfl⟩
end Go.Proofs.YtbenhcognapdpaaGreat
