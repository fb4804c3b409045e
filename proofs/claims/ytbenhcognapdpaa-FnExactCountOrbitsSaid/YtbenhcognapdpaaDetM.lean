/- Plain laws: determinants, and the reduced lists of a matrix beside the unit matrix. No program in sight. -/
import Derived.Test.YtbenhcognapdpaaLinM
import Derived.Test.YtbenhcognapdpaaMatM
import Derived.Test.YtbenhcognapdpaaSmallM
set_option linter.unusedVariables false
set_option linter.unusedSimpArgs false
namespace Go.Proofs.Ytbenhcognapdpaa.Lin

/-- The sum of the first numbers. -/
def sumTo (f : Nat → Int) : Nat → Int
  | 0 => 0
  | k + 1 => sumTo f k + f k
def dotF (c : Nat → Int) (r : Row) (k : Nat) : Int := sumTo (fun j => c j * nt r j) k
theorem dotF_less {p : Int} {n : Nat} (c : Nat → Int) {r o : Row} (k : Int) (hr : r.length = n) (ho : o.length = n) (h1 : p ∣ dotF c r n) (h2 : p ∣ dotF c o n) : p ∣ dotF c (lessOf p r o k) n := by
  have key : ∀ m, m ≤ n → ∃ q, dotF c (lessOf p r o k) m = dotF c r m - k * dotF c o m + p * q := by
    intro m
    induction m with
    | zero => intro _; exact ⟨0, by simp [dotF, sumTo]⟩
    | succ m ih =>
      intro hm
      obtain ⟨q, hq⟩ := ih (by omega)
      refine ⟨q - c m * ((nt r m - k * nt o m) / p), ?_⟩
      have e := lessOf_get p r o k (by omega) m (by omega)
      rw [Int.emod_def] at e
      simp only [dotF, sumTo] at hq ⊢
      rw [hq, e]
      grind
  obtain ⟨q, hq⟩ := key n (Nat.le_refl n)
  obtain ⟨a, ha⟩ := h1
  obtain ⟨b, hb⟩ := h2
  exact ⟨a - k * b + q, by rw [hq, ha, hb]; grind⟩
theorem dotF_scale {p : Int} {n : Nat} (c : Nat → Int) {r : Row} (k : Int) (hr : r.length = n) (h1 : p ∣ dotF c r n) : p ∣ dotF c (scaleRow p r k) n := by
  have key : ∀ m, m ≤ n → ∃ q, dotF c (scaleRow p r k) m = k * dotF c r m + p * q := by
    intro m
    induction m with
    | zero => intro _; exact ⟨0, by simp [dotF, sumTo]⟩
    | succ m ih =>
      intro hm
      obtain ⟨q, hq⟩ := ih (by omega)
      refine ⟨q - c m * ((nt r m * k) / p), ?_⟩
      have e := scaleRow_get p r k m (by omega)
      rw [Int.emod_def] at e
      simp only [dotF, sumTo] at hq ⊢
      rw [hq, e]
      grind
  obtain ⟨q, hq⟩ := key n (Nat.le_refl n)
  obtain ⟨a, ha⟩ := h1
  exact ⟨k * a + q, by rw [hq, ha]; grind⟩

/-- What is kept by the steps holds of every row of a reduced list. -/
theorem restOf_all {p : Int} {n : Nat} (hp : 0 < p) {K : Row → Prop} (hl : ∀ r o k, r.length = n → o.length = n → K r → K o → K (lessOf p r o k)) (list : List Row) : ∀ (row : Row), GoodRows p n list → (∀ r ∈ list, K r) → row.length = n → InR p row → K row → K (restOf p list row) := by
  induction list with
  | nil => intro row _ _ _ _ h; exact h
  | cons r rs ih =>
    intro row hg hk h1 h2 h3
    have hr := hg r (List.mem_cons_self ..)
    have hrs : GoodRows p n rs := fun x hx => hg x (List.mem_cons_of_mem _ hx)
    simp only [restOf, List.foldl_cons]
    split
    · exact ih row hrs (fun x hx => hk x (List.mem_cons_of_mem _ hx)) h1 h2 h3
    · exact ih _ hrs (fun x hx => hk x (List.mem_cons_of_mem _ hx)) (by rw [lessOf_length _ _ _ _ (by omega)]; exact h1) (lessOf_inR _ _ _ _ hp (by omega)) (hl _ _ _ h1 hr.1 h3 (hk r (List.mem_cons_self ..)))
theorem echelon_all {p : Int} {n : Nat} (hp : IsP p) {K : Row → Prop} (hl : ∀ r o k, r.length = n → o.length = n → K r → K o → K (lessOf p r o k)) (hs : ∀ r k, r.length = n → K r → K (scaleRow p r k)) (rows : List Row) (h : ∀ r ∈ rows, r.length = n ∧ InR p r ∧ K r) : ∀ r ∈ echelon p rows, K r := by
  have hpp := hp.pos
  induction rows using snoc_ind with
  | h0 => intro r hr; cases hr
  | h1 l a ih =>
    have hla : ∀ r ∈ l, r.length = n ∧ InR p r ∧ K r := fun r hr => h r (List.mem_append_left _ hr)
    have ha := h a (by simp)
    have hred := echelon_red hp l (n := n) fun r hr => ⟨(hla r hr).1, (hla r hr).2.1⟩
    have ih := ih hla
    rw [echelon_snoc]
    have hrest := restOf_good (by omega) _ a hred.rows ha.1 ha.2.1
    have hK := restOf_all (by omega) hl _ a hred.rows ih ha.1 ha.2.1 ha.2.2
    unfold echStep
    split
    · exact ih
    · rw [insRow_rec]
      intro r hr
      rcases insRec_mem.1 hr with rfl | ⟨x, hx, rfl⟩
      · exact hs _ _ hrest.1 hK
      · exact hl _ _ _ (hred.rows x hx).1 (by rw [scaleRow_length]; exact hrest.1) (ih x hx) (hs _ _ hrest.1 hK)
theorem rest_keep {p : Int} {n : Nat} (hp : 0 < p) {j : Nat} (hj : j < n) (list : List Row) : ∀ (row : Row), GoodRows p n list → (∀ r ∈ list, nt r j = 0) → row.length = n → InR p row → nt (restOf p list row) j = nt row j := by
  induction list with
  | nil => intro row _ _ _ _; rfl
  | cons r rs ih =>
    intro row hg hk h1 h2
    have hr := hg r (List.mem_cons_self ..)
    have hrs : GoodRows p n rs := fun x hx => hg x (List.mem_cons_of_mem _ hx)
    have hks : ∀ r ∈ rs, nt r j = 0 := fun x hx => hk x (List.mem_cons_of_mem _ hx)
    simp only [restOf, List.foldl_cons]
    split
    · exact ih row hrs hks h1 h2
    · refine (ih _ hrs hks (by rw [lessOf_length _ _ _ _ (by omega)]; exact h1) (lessOf_inR _ _ _ _ hp (by omega))).trans ?_
      rw [lessOf_get _ _ _ _ (by omega) _ (by omega), hk r (List.mem_cons_self ..)]
      have := h2.nt hp j
      rw [Int.mul_zero, Int.sub_zero]
      exact Int.emod_eq_of_lt this.1 this.2

/-- The row of a matrix beside the row of the unit matrix. -/
def augF (n : Nat) (m : Row) (i j : Nat) : Int := if j < n then nt m (i * 3 + j) else if j = n + i then 1 else 0
def augRow (n : Nat) (m : Row) (i : Nat) : Row := (List.range (2 * n)).map (augF n m i)
def augs (n : Nat) (m : Row) (i : Nat) : List Row := (List.range i).map (augRow n m)
theorem augRow_len (n : Nat) (m : Row) (i : Nat) : (augRow n m i).length = 2 * n := by simp [augRow]
theorem augRow_nt (n : Nat) (m : Row) (i : Nat) {j : Nat} (hj : j < 2 * n) : nt (augRow n m i) j = augF n m i j := by
  rw [nt_eq _ _ (by rw [augRow_len]; exact hj)]
  simp [augRow]
theorem augs_succ (n : Nat) (m : Row) (i : Nat) : augs n m (i + 1) = augs n m i ++ [augRow n m i] := by
  simp [augs, List.range_succ]
theorem augs_len (n : Nat) (m : Row) (i : Nat) : (augs n m i).length = i := by simp [augs]
/-- The numbers of a matrix are right. -/
def EntOk (p : Int) (n : Nat) (m : Row) : Prop := ∀ a < 3, ∀ b < 3, nt m (a * 3 + b) < p ∧ (n ≤ a ∨ n ≤ b → nt m (a * 3 + b) = 0)
instance (p : Int) (n : Nat) (m : Row) : Decidable (EntOk p n m) := by unfold EntOk; infer_instance
theorem aug_good {p : Int} (hp : IsP p) {n : Nat} {m : Row} (hm : IsM m) (hn : n ≤ 3) (h : EntOk p n m) {i : Nat} (hi : i < n) : (augRow n m i).length = 2 * n ∧ InR p (augRow n m i) := by
  have hpp := hp.pos
  refine ⟨augRow_len .., inR_of_get fun j hj => ?_⟩
  rw [augRow_len] at hj
  rw [augRow_nt _ _ _ hj]
  unfold augF
  split
  · exact ⟨(hm.nt _).1, (h i (by omega) j (by omega)).1⟩
  · split <;> omega
theorem augs_good {p : Int} (hp : IsP p) {n : Nat} {m : Row} (hm : IsM m) (hn : n ≤ 3) (h : EntOk p n m) {i : Nat} (hi : i ≤ n) : ∀ r ∈ augs n m i, r.length = 2 * n ∧ InR p r := by
  intro r hr
  obtain ⟨k, hk, rfl⟩ := List.mem_map.1 hr
  exact aug_good hp hm hn h (by have := List.mem_range.1 hk; omega)
theorem augs_length {p : Int} (hp : IsP p) {n : Nat} {m : Row} (hm : IsM m) (hn : n ≤ 3) (h : EntOk p n m) : ∀ i, i ≤ n → (echelon p (augs n m i)).length = i := by
  have hpp := hp.pos
  intro i
  induction i with
  | zero => intro _; rfl
  | succ i ih =>
    intro hi
    have ih := ih (by omega)
    rw [augs_succ, echelon_snoc]
    have hred := echelon_red hp _ (augs_good hp hm hn h (show i ≤ n by omega))
    have hz : ∀ r ∈ echelon p (augs n m i), nt r (n + i) = 0 := by
      refine echelon_all hp (n := 2 * n) (K := fun r => nt r (n + i) = 0) ?_ ?_ _ ?_
      · intro r o k hr ho h1 h2
        rw [lessOf_get _ _ _ _ (by omega) _ (by omega), h1, h2]; simp
      · intro r k hr h1
        rw [scaleRow_get _ _ _ _ (by omega), h1]; simp
      · intro r hr
        have hg := augs_good hp hm hn h (show i ≤ n by omega) r hr
        refine ⟨hg.1, hg.2, ?_⟩
        obtain ⟨k, hk, rfl⟩ := List.mem_map.1 hr
        have := List.mem_range.1 hk
        rw [augRow_nt _ _ _ (by omega)]
        unfold augF
        rw [if_neg (by omega), if_neg (by omega)]
    have hg := aug_good hp hm hn h (show i < n by omega)
    have h1 := rest_keep (by omega) (show n + i < 2 * n by omega) _ _ hred.rows hz hg.1 hg.2
    rw [augRow_nt _ _ _ (by omega)] at h1
    have h2 : augF n m i (n + i) = 1 := by unfold augF; rw [if_neg (by omega), if_pos rfl]
    have hl : 0 ≤ lead (restOf p (echelon p (augs n m i)) (augRow n m i)) := by
      by_cases hc : 0 ≤ lead (restOf p (echelon p (augs n m i)) (augRow n m i))
      · exact hc
      · exfalso
        have hlen := (restOf_good (by omega) _ _ hred.rows hg.1 hg.2).1
        have : lead (restOf p (echelon p (augs n m i)) (augRow n m i)) = -1 ∨ 0 ≤ lead (restOf p (echelon p (augs n m i)) (augRow n m i)) := by
          unfold lead; split <;> omega
        have hne : ¬ fstNZ (restOf p (echelon p (augs n m i)) (augRow n m i)) < (restOf p (echelon p (augs n m i)) (augRow n m i)).length := by
          intro hlt
          apply hc
          unfold lead
          rw [if_pos hlt]
          omega
        have := fstNZ_before (restOf p (echelon p (augs n m i)) (augRow n m i)) (n + i) (by omega)
        omega
    unfold echStep
    rw [if_neg (by omega), insRow_length, ih]

/-- The determinant, not yet reduced. -/
def detV (n : Nat) (m : Row) : Int :=
  if n = 2 then nt m 0 * nt m 4 - nt m 1 * nt m 3
  else if n = 3 then nt m 0 * (nt m 4 * nt m 8 - nt m 5 * nt m 7) - nt m 1 * (nt m 3 * nt m 8 - nt m 5 * nt m 6) + nt m 2 * (nt m 3 * nt m 7 - nt m 4 * nt m 6)
  else nt m 0
/-- What holds of the rows of the reduced list: the left part is the right part times the matrix. -/
def Bound (p : Int) (n : Nat) (m : Row) (r : Row) : Prop := ∀ j < n, p ∣ dotF (fun x => if x = j then 1 else if n ≤ x then - nt m ((x - n) * 3 + j) else 0) r (2 * n)
theorem aug_bound {p : Int} {n : Nat} {m : Row} (hn : n ≤ 3) {i : Nat} (hi : i < n) : Bound p n m (augRow n m i) := by
  intro j hj
  refine ⟨0, ?_⟩
  obtain rfl | rfl | rfl : n = 1 ∨ n = 2 ∨ n = 3 := by omega
  · obtain rfl : i = 0 := by omega
    obtain rfl : j = 0 := by omega
    simp [dotF, sumTo, augRow_nt, augF]
    omega
  · obtain rfl | rfl : i = 0 ∨ i = 1 := by omega
    all_goals obtain rfl | rfl : j = 0 ∨ j = 1 := by omega
    all_goals simp [dotF, sumTo, augRow_nt, augF]
    all_goals omega
  · obtain rfl | rfl | rfl : i = 0 ∨ i = 1 ∨ i = 2 := by omega
    all_goals obtain rfl | rfl | rfl : j = 0 ∨ j = 1 ∨ j = 2 := by omega
    all_goals simp [dotF, sumTo, augRow_nt, augF]
    all_goals omega
theorem ech_bound {p : Int} (hp : IsP p) {n : Nat} {m : Row} (hm : IsM m) (hn : n ≤ 3) (h : EntOk p n m) : ∀ r ∈ echelon p (augs n m n), Bound p n m r := by
  refine echelon_all hp (n := 2 * n) ?_ ?_ _ ?_
  · intro r o k hr ho h1 h2 j hj
    exact dotF_less _ k hr ho (h1 j hj) (h2 j hj)
  · intro r k hr h1 j hj
    exact dotF_scale _ k hr (h1 j hj)
  · intro r hr
    have hg := augs_good hp hm hn h (Nat.le_refl n) r hr
    refine ⟨hg.1, hg.2, ?_⟩
    obtain ⟨k, hk, rfl⟩ := List.mem_map.1 hr
    exact aug_bound hn (List.mem_range.1 hk)
end Go.Proofs.Ytbenhcognapdpaa.Lin
