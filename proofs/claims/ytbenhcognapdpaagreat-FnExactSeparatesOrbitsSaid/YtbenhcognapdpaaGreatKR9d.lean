/- Own texts of this claim, in one file: MatB, LinW1, LinW2, LinW3. -/
import Derived.Test.YtbenhcognapdpaaGreatKR9a
import Derived.Test.YtbenhcognapdpaaGreatKR9c
import Derived.Test.YtbenhcognapdpaaGreatKR9b
/- Walks: what a matrix is. -/
set_option linter.unusedVariables false
set_option linter.unusedSimpArgs false
namespace Go.Proofs.YtbenhcognapdpaaGreat
open Go.RowKit Go.Proofs.YtbenhcognapdpaaGreatW.PrintWords Go.Proofs.YtbenhcognapdpaaGreatW.PrintLast Lin

/-- What both programs take for a matrix. -/
def matB (p n : Int) (m : List Int) : Bool := primeB p && varsB n && (decide (EntOk p n.toNat m) && decide (detV n.toNat m % p ≠ 0))
def EOk (p : Int) (n : Nat) (m : List Int) (a b : Nat) : Prop := nt m (a * 3 + b) < p ∧ (n ≤ a ∨ n ≤ b → nt m (a * 3 + b) = 0)
def EUp (p : Int) (n : Nat) (m : List Int) (i j : Nat) : Prop := ∀ a b, a < 3 → b < 3 → (a < i ∨ a = i ∧ b < j) → EOk p n m a b
theorem EUp.step {p : Int} {n : Nat} {m : List Int} {i j : Nat} (h : EUp p n m i j) (h1 : EOk p n m i j) : EUp p n m i (j + 1) := by
  intro a b ha hb hab
  by_cases he : a = i ∧ b = j
  · obtain ⟨rfl, rfl⟩ := he; exact h1
  · exact h a b ha hb (by omega)
theorem EUp.next {p : Int} {n : Nat} {m : List Int} {i : Nat} (h : EUp p n m i 3) : EUp p n m (i + 1) 0 := fun a b ha hb hab => h a b ha hb (by omega)
theorem EUp.done {p : Int} {n : Nat} {m : List Int} (h : EUp p n m 3 0) : EntOk p n m := fun a ha b hb => h a b ha hb (by omega)
theorem matB_bad {p : Int} {n : Nat} {m : List Int} {i j : Nat} (hi : i < 3) (hj : j < 3) (h : ¬ EOk p n m i j) : matB p n m = false := by
  have : ¬ EntOk p n m := fun hh => h (hh i hi j hj)
  simp [matB, this]
theorem matB_ok {p : Int} {n : Nat} {m : List Int} (hp : IsP p) (hn : varsB n = true) (h : EntOk p n m) : matB p n m = decide (detV n m % p ≠ 0) := by
  have e : primeB p = true := primeB_iff.2 hp
  simp [matB, e, hn, h]
theorem matB_true {p : Int} {n : Nat} {m : List Int} (h : matB p n m = true) : IsP p ∧ 1 ≤ n ∧ n ≤ 3 ∧ EntOk p n m ∧ detV n m % p ≠ 0 := by
  simp only [matB, Bool.and_eq_true, decide_eq_true_iff, Int.toNat_natCast, primeB_iff, varsB] at h
  exact ⟨h.1.1, by omega, by omega, h.2⟩

theorem bne_dec (x : Int) : (x != 0) = decide (x ≠ 0) := by rw [Bool.eq_iff_iff]; simp
set_option maxRecDepth 100000 in
set_option maxHeartbeats 1000000 in
theorem IsMatrix_calls (p n : Int) (m : List Int) (w : World) (hm : IsM m) :
    Calls Tryz.prog 218 #[.int .i64 p, .int .i64 n, .agg (mcells m)] w fun e w' => e = .returned (.bool (matB p n m)) ∧ Below w.heap.size w w' := by
  have HM := Aside0.mk hm
  clear hm
  cases hpb : primeB p
  · have HN : Aside0 (matB p n m = false) := ⟨by simp [matB, hpb]⟩
    go_enter Tryz.func218, Tryz.ntmps218
    go_wp2_with ((go_at_call 154; refine (isPrime_calls p _).mono ?_; rw [hpb]; rintro e w' ⟨rfl, rfl⟩))
    go_ret
    exact ⟨ret_b HN.out.symm, below_alloc (Below.refl _ _) _⟩
  cases hvb : varsB n
  · have HN : Aside0 (matB p n m = false) := ⟨by simp [matB, hvb]⟩
    go_enter Tryz.func218, Tryz.ntmps218
    go_wp2_with (first
      | (go_at_call 154; refine (isPrime_calls p _).mono ?_; rw [hpb]; rintro e w' ⟨rfl, rfl⟩)
      | (go_at_call 155; refine (isVars_calls n _).mono ?_; rw [hvb]; rintro e w' ⟨rfl, rfl⟩))
    go_ret
    exact ⟨ret_b HN.out.symm, below_alloc (Below.refl _ _) _⟩
  have hP := primeB_iff.1 hpb
  have hpp := hP.pos
  have hvv : 1 ≤ n ∧ n ≤ 3 := of_decide_eq_true hvb
  obtain ⟨n, rfl⟩ : ∃ k : Nat, n = k := ⟨n.toNat, by omega⟩
  go_enter Tryz.func218, Tryz.ntmps218
  go_wp2_with (first
    | (go_at_call 154; refine (isPrime_calls p _).mono ?_; rw [hpb]; rintro e w' ⟨rfl, rfl⟩)
    | (go_at_call 155; refine (isVars_calls n _).mono ?_; rw [hvb]; rintro e w' ⟨rfl, rfl⟩))
  go_loopw [17] (fun v wr => ∃ i : Nat, v = .int .i64 i ∧ i ≤ 3 ∧ Aside0 (EUp p n m i 0) ∧ Blk wr w.heap.size 138 (mcells m) ∧ Aside0 (Below w.heap.size w wr)) (fun v _ => 3 - (intOf v).toNat)
  case atStart => exact ⟨0, rfl, by omega, ⟨fun a b _ _ h => by omega⟩, Blk.new _ _ _, ⟨below_alloc (Below.refl _ _) _⟩⟩
  case round =>
    obtain ⟨i, rfl, hi, HE, H1, HB⟩ := hrel
    by_cases hlt : i < 3
    · have hd3 : decide ((i : Int) < 3) = true := decide_eq_true (by omega)
      go_wp2
      obtain ⟨wo, rfl⟩ : ∃ wo, wo = wr := ⟨_, rfl⟩
      go_loopw [20] (fun v wr => ∃ j : Nat, v = .int .i64 j ∧ j ≤ 3 ∧ Aside0 (EUp p n m i j) ∧ Blk wr w.heap.size 138 (mcells m) ∧ Aside0 (Below w.heap.size w wr)) (fun v _ => 3 - (intOf v).toNat)
      case atStart => exact ⟨0, rfl, by omega, HE, H1, HB⟩
      case round =>
        clear HE H1 HB
        obtain ⟨j, rfl, hj, HE, H1, HB⟩ := hrel
        by_cases hjl : j < 3
        · have hc := H1.cell (i * 3 + j) (mcells_get m _ (by have := HM.out.1; omega))
          have hv := HM.out.nt (i * 3 + j)
          have hcs : (p ≤ nt m (i * 3 + j) ∨ (nt m (i * 3 + j) < p ∧ n ≤ i ∧ nt m (i * 3 + j) ≠ 0) ∨ (nt m (i * 3 + j) < p ∧ i < n ∧ n ≤ j ∧ nt m (i * 3 + j) ≠ 0)) ∨
              ((nt m (i * 3 + j) < p ∧ n ≤ i ∧ nt m (i * 3 + j) = 0) ∨ (nt m (i * 3 + j) < p ∧ i < n ∧ n ≤ j ∧ nt m (i * 3 + j) = 0) ∨ (nt m (i * 3 + j) < p ∧ i < n ∧ j < n)) := by omega
          rcases hcs with hcs | hcs
          · have HN : Aside0 (matB p n m = false) := ⟨matB_bad hlt hjl (fun h => by unfold EOk at h; omega)⟩
            rcases hcs with h1 | ⟨h1, h2, h3⟩ | ⟨h1, h2, h3, h4⟩
            · go_wp2
              go_ret
              exact ⟨ret_b HN.out.symm, HB.out⟩
            · have hb : (nt m (i * 3 + j) != 0) = true := by simpa using h3
              clear h3
              go_wp2
              go_ret
              exact ⟨ret_b HN.out.symm, HB.out⟩
            · have hb : (nt m (i * 3 + j) != 0) = true := by simpa using h4
              clear h4
              go_wp2
              go_ret
              exact ⟨ret_b HN.out.symm, HB.out⟩
          · have HN : Aside0 (EUp p n m i (j + 1)) := ⟨HE.out.step ⟨by omega, by omega⟩⟩
            rcases hcs with ⟨h1, h2, h3⟩ | ⟨h1, h2, h3, h4⟩ | ⟨h1, h2, h3⟩
            · have hb : (nt m (i * 3 + j) != 0) = false := by simp [h3]
              clear h3
              go_wp2
              go_roundw
              case rel => exact ⟨j + 1, by go_num, by omega, HN, H1, HB⟩
              case measure => simp [intOf]; omega
            · have hb : (nt m (i * 3 + j) != 0) = false := by simp [h4]
              clear h4
              go_wp2
              go_roundw
              case rel => exact ⟨j + 1, by go_num, by omega, HN, H1, HB⟩
              case measure => simp [intOf]; omega
            · go_wp2
              go_roundw
              case rel => exact ⟨j + 1, by go_num, by omega, HN, H1, HB⟩
              case measure => simp [intOf]; omega
        · obtain rfl : j = 3 := by omega
          have HN : Aside0 (EUp p n m (i + 1) 0) := ⟨HE.out.next⟩
          go_wp2
          go_roundw
          case rel => exact ⟨i + 1, by go_num, by omega, HN, H1, HB⟩
          case measure => simp [intOf]; omega
    · obtain rfl : i = 3 := by omega
      have HN : Aside0 (matB p n m = decide (detV n m % p ≠ 0)) := ⟨matB_ok hP hvb HE.out.done⟩
      go_wp2_with (first
        | (refine load_blk rfl _ 5 rfl H1 rfl _ Tryz.underlying138 rfl (sizeM_of HM.out.1) ?_)
        | (go_at_call 253; refine (determinant_calls p n m _ (by omega) (by omega) (by omega) (by omega) HM.out).mono ?_; rintro e w' ⟨rfl, hb⟩; have HB2 := Aside0.mk hb; clear hb))
      go_ret
      exact ⟨ret_b ((bne_dec _).trans HN.out.symm), below_step HB.out HB2.out⟩

def areB (p n : Int) (l : List (List Int)) : Bool := l.all (matB p n) && (primeB p && varsB n)
theorem areB_bad {p n : Int} {l : List (List Int)} {k : Nat} (hk : k < l.length) {m : List Int} (hm : m = ntR l k) (h : matB p n m = false) : areB p n l = false := by
  have : l.all (matB p n) = false := by
    rw [List.all_eq_false]
    exact ⟨m, by rw [hm]; exact ntR_mem l k hk, by simp [h]⟩
  simp [areB, this]
theorem areB_ok {p n : Int} {l : List (List Int)} (h : ∀ k < l.length, matB p n (ntR l k) = true) : areB p n l = (primeB p && varsB n) := by
  have : l.all (matB p n) = true := by
    rw [List.all_eq_true]
    intro x hx
    obtain ⟨k, hk, rfl⟩ := List.mem_iff_getElem.1 hx
    rw [← ntR_eq l k hk]
    exact h k hk
  simp [areB, this]

set_option maxRecDepth 100000 in
set_option maxHeartbeats 1000000 in
theorem areMatrices_calls (p n : Int) (A : Option Addr) (k c : Nat) (l : List (List Int)) (w : World) (hr : kM.C w A k l) (hl : ∀ m ∈ l, IsM m) :
    Calls Tryz.prog 149 #[.int .i64 p, .int .i64 n, .slice A k c] w fun e w' => e = .returned (.bool (areB p n l)) ∧ Below w.heap.size w w' := by
  obtain rfl := Kd.C_len hr
  have hmx := Kd.C_max hr
  have HR := Aside0.mk hr
  have HL := Aside0.mk hl
  clear hr hl
  go_enter Tryz.func149, Tryz.ntmps149
  go_wp2
  go_loopw [11] (fun v wr => ∃ i : Nat, v = .int .i64 i ∧ i ≤ l.length ∧ Aside0 (∀ j < i, matB p n (ntR l j) = true) ∧ Aside0 (Below w.heap.size w wr)) (fun v _ => l.length - (intOf v).toNat)
  case atStart => exact ⟨0, rfl, by omega, ⟨fun j hj => by omega⟩, ⟨Below.refl _ _⟩⟩
  case round =>
    obtain ⟨i, rfl, hi, HE, HB⟩ := hrel
    by_cases hlt : i < l.length
    · obtain ⟨ad, m, hmm, rfl, hm9, hc⟩ := mat_at HR.out i hlt
      have HM : Aside0 (IsM m) := ⟨HL.out m (hmm ▸ ntR_mem l i hlt)⟩
      have HC := Aside0.mk (hc.below HB.out)
      have HMM := Aside0.mk hmm
      clear hmm hc
      cases hmb : matB p n m
      · have HN : Aside0 (areB p n l = false) := ⟨areB_bad hlt HMM.out hmb⟩
        have Hz := Blk.new wr (mcells [0, 0, 0, 0, 0, 0, 0, 0, 0]) 138
        have H1 := Hz.setRow (mcells m)
        go_wp2_with (first
          | (refine store_blk rfl _ 8 _ rfl Hz rfl rfl (sizeM_of hm9) (by rw [mcells_size, mcells_size, hm9]; rfl) (mcells_one _) ?_)
          | (refine load_agg rfl _ 13 rfl (ad.add (i * 9)) HC.out rfl _ Tryz.underlying138 rfl (sizeM_of hm9) ?_)
          | (refine load_blk rfl _ 8 rfl H1 rfl _ Tryz.underlying138 rfl (sizeM_of hm9) ?_)
          | (go_at_call 218; refine (IsMatrix_calls p n m _ HM.out).mono ?_; rw [hmb]; rintro e w' ⟨rfl, hb⟩; have HB2 := Aside0.mk hb; clear hb))
        go_ret
        exact ⟨ret_b HN.out.symm, below_step (below_setRow (below_alloc HB.out _) HB.out.size _) HB2.out⟩
      · have HN : Aside0 (∀ j < i + 1, matB p n (ntR l j) = true) := ⟨fun j hj => by rcases Nat.lt_succ_iff_lt_or_eq.1 hj with h | h; exact HE.out j h; subst h; rw [← HMM.out]; exact hmb⟩
        have Hz := Blk.new wr (mcells [0, 0, 0, 0, 0, 0, 0, 0, 0]) 138
        have H1 := Hz.setRow (mcells m)
        go_wp2_with (first
          | (refine store_blk rfl _ 8 _ rfl Hz rfl rfl (sizeM_of hm9) (by rw [mcells_size, mcells_size, hm9]; rfl) (mcells_one _) ?_)
          | (refine load_agg rfl _ 13 rfl (ad.add (i * 9)) HC.out rfl _ Tryz.underlying138 rfl (sizeM_of hm9) ?_)
          | (refine load_blk rfl _ 8 rfl H1 rfl _ Tryz.underlying138 rfl (sizeM_of hm9) ?_)
          | (go_at_call 218; refine (IsMatrix_calls p n m _ HM.out).mono ?_; rw [hmb]; rintro e w' ⟨rfl, hb⟩; have HB2 := Aside0.mk hb; clear hb))
        go_roundw
        case rel => exact ⟨i + 1, by go_num, by omega, HN, ⟨below_step (below_setRow (below_alloc HB.out _) HB.out.size _) HB2.out⟩⟩
        case measure => simp [intOf]; omega
    · have HN : Aside0 (areB p n l = (primeB p && varsB n)) := ⟨areB_ok fun k hk => HE.out k (by omega)⟩
      cases hpb : primeB p
      · go_wp2_with ((go_at_call 154; refine (isPrime_calls p _).mono ?_; rw [hpb]; rintro e w' ⟨rfl, rfl⟩))
        go_ret
        exact ⟨ret_b (by rw [HN.out, hpb]; rfl), HB.out⟩
      · cases hvb : varsB n
        all_goals
          go_wp2_with (first
            | (go_at_call 154; refine (isPrime_calls p _).mono ?_; rw [hpb]; rintro e w' ⟨rfl, rfl⟩)
            | (go_at_call 155; refine (isVars_calls n _).mono ?_; rw [hvb]; rintro e w' ⟨rfl, rfl⟩))
          go_ret
          exact ⟨ret_b (by rw [HN.out, hpb, hvb]; rfl), HB.out⟩
end Go.Proofs.YtbenhcognapdpaaGreat
/- Walks: the specification's functions on rows of numbers. -/
set_option linter.unusedVariables false
set_option linter.unusedSimpArgs false
namespace Go.Proofs.YtbenhcognapdpaaGreat
open Go.RowKit Go.Proofs.YtbenhcognapdpaaGreatW.PrintWords Go.Proofs.YtbenhcognapdpaaGreatW.PrintLast Lin

set_option maxHeartbeats 400000 in
theorem l01Lead_calls (A : Option Addr) (c : Nat) (l : List Int) (w : World) (hr : kI.C w A l.length l) :
    Calls Tryz.prog 124 #[.slice A l.length c] w fun e w' => e = .returned (.int .i64 (lead l)) ∧ Drawn0 w w' := by
  have hm := Kd.C_max hr
  have HR := Aside0.mk hr
  clear hr
  go_enter Tryz.func124, Tryz.ntmps124
  go_wp2
  go_loopw [3] (fun v wr => ∃ k : Nat, v = .int .i64 k ∧ k ≤ l.length ∧ Aside0 (∀ j < k, nt l j = 0) ∧ Drawn0 w wr) (fun v _ => l.length - (intOf v).toNat)
  case atStart => exact ⟨0, rfl, by omega, ⟨fun j hj => by omega⟩, Drawn0.refl _⟩
  case round =>
    obtain ⟨k, rfl, hk, HZ, ⟨m, rfl⟩⟩ := hrel
    by_cases hlt : k < l.length
    · obtain ⟨ad, rfl, hc⟩ := at_nt HR.out k hlt
      by_cases h0 : nt l k = 0
      · have hb : (nt l k != 0) = false := by simp [h0]
        have HN := Aside0.mk h0
        clear h0
        go_wp2
        go_roundw
        case rel => exact ⟨k + 1, by go_num, by omega, ⟨fun j hj => by rcases Nat.lt_succ_iff_lt_or_eq.1 hj with h | h; exact HZ.out j h; subst h; exact HN.out⟩, by repeat (first | exact Drawn0.refl _ | apply Drawn0.step)⟩
        case measure => simp [intOf]; omega
      · have hb : (nt l k != 0) = true := by simpa using h0
        have HN := Aside0.mk h0
        clear h0
        go_wp2
        go_ret
        exact ⟨ret_i (lead_eq l k hlt HZ.out HN.out).symm, by repeat (first | exact Drawn0.refl _ | apply Drawn0.step)⟩
    · have hlt' : k = l.length := by omega
      have HE := Aside0.mk hlt'
      clear hlt'
      go_wp2
      go_ret
      exact ⟨ret_i (lead_none l (by rw [← HE.out]; exact HZ.out)).symm, by repeat (first | exact Drawn0.refl _ | apply Drawn0.step)⟩

theorem l01Mod_calls (p x : Int) (w : World) (hp : 0 < p) (hp2 : p ≤ 1000000) :
    Calls Tryz.prog 197 #[.int .i64 p, .int .i64 x] w fun e w' => e = .returned (.int .i64 (x % p)) ∧ w = w' := by
  have h0 : (p == 0) = false := by rw [beq_eq_false_iff_ne]; omega
  have h1 := Int.lt_tmod_of_pos x hp
  have h2 := Int.tmod_lt_of_pos x hp
  go_enter Tryz.func197, Tryz.ntmps197
  go_wp2
  go_ret
  exact ⟨ret_i (tmod_mod hp), rfl⟩

theorem invGo_step {p x : Int} {n : Nat} {k : Int} (h : ¬ k * x % p = 1) : invGo p x (n + 1) k = invGo p x n (k + 1) := by
  simp [invGo, h]
theorem invGo_hit {p x : Int} {n : Nat} {k : Int} (h : k * x % p = 1) : invGo p x (n + 1) k = k := by
  simp [invGo, h]

set_option maxHeartbeats 400000 in
theorem l01Inverse_calls (p x : Int) (w : World) (hp : 0 < p) (hp2 : p ≤ 1000) :
    Calls Tryz.prog 125 #[.int .i64 p, .int .i64 x] w fun e w' => e = .returned (.int .i64 (invOf p x)) ∧ Drawn0 w w' := by
  have hm1 := Int.emod_nonneg x (show p ≠ 0 by omega)
  have hm2 := Int.emod_lt_of_pos x hp
  obtain ⟨y, hy⟩ : ∃ y, y = x % p := ⟨_, rfl⟩
  rw [← hy] at hm1 hm2
  have HY := Aside0.mk hy
  clear hy
  have hp0 : (p == 0) = false := by rw [beq_eq_false_iff_ne]; omega
  go_enter Tryz.func125, Tryz.ntmps125
  go_wp2
  go_loopw [5] (fun v wr => ∃ k : Nat, v = .int .i64 k ∧ 1 ≤ k ∧ (k : Int) ≤ p ∧ Aside0 (invOf p x = invGo p y (p.toNat - k) k) ∧ Drawn0 w wr) (fun v _ => p.toNat - (intOf v).toNat)
  case atStart => exact ⟨1, rfl, by omega, by omega, ⟨by rw [HY.out]; rfl⟩, Drawn0.refl _⟩
  case round =>
    obtain ⟨k, rfl, hk1, hk, HZ, ⟨m, rfl⟩⟩ := hrel
    by_cases hlt : (k : Int) < p
    · have hb1 : (k : Int) * y ≤ 1000 * 1000 := Int.mul_le_mul (by omega) (by omega) (by omega) (by omega)
      have hb2 : 0 ≤ (k : Int) * y := Int.mul_nonneg (by omega) (by omega)
      obtain ⟨n, hn⟩ : ∃ n, p.toNat - k = n + 1 := ⟨p.toNat - k - 1, by omega⟩
      have HN := Aside0.mk hn
      clear hn
      by_cases h0 : (k : Int) * y % p = 1
      · have hb : ((k : Int) * y % p == 1) = true := by rw [beq_iff_eq]; exact h0
        have H0 := Aside0.mk h0
        clear h0
        go_wp2_with ((go_at_call 197; refine (l01Mod_calls _ _ _ (by omega) (by omega)).mono ?_; rw [← HY.out]; rintro e w' ⟨rfl, rfl⟩))
        go_ret
        exact ⟨ret_i (by rw [HZ.out, HN.out, invGo_hit H0.out]), (by repeat (first | exact Drawn0.refl _ | apply Drawn0.step))⟩
      · have hb : ((k : Int) * y % p == 1) = false := by rw [beq_eq_false_iff_ne]; exact h0
        have H0 := Aside0.mk h0
        clear h0
        go_wp2_with ((go_at_call 197; refine (l01Mod_calls _ _ _ (by omega) (by omega)).mono ?_; rw [← HY.out]; rintro e w' ⟨rfl, rfl⟩))
        go_roundw
        case rel => exact ⟨k + 1, by go_num, by omega, by omega, ⟨by rw [HZ.out, HN.out, invGo_step H0.out, show p.toNat - (k + 1) = n by have := HN.out; omega]; rfl⟩, (by repeat (first | exact Drawn0.refl _ | apply Drawn0.step))⟩
        case measure => simp [intOf]; omega
    · go_wp2
      go_ret
      exact ⟨ret_i (by rw [HZ.out, show p.toNat - k = 0 by omega]; rfl), (by repeat (first | exact Drawn0.refl _ | apply Drawn0.step))⟩
end Go.Proofs.YtbenhcognapdpaaGreat
/- Walks: rests and reduced lists of the specification. -/
set_option linter.unusedVariables false
set_option linter.unusedSimpArgs false
namespace Go.Proofs.YtbenhcognapdpaaGreat
open Go.RowKit Go.Proofs.YtbenhcognapdpaaGreatW.PrintWords Go.Proofs.YtbenhcognapdpaaGreatW.PrintLast Lin

set_option maxHeartbeats 400000 in
theorem l01Own_calls (A : Option Addr) (c : Nat) (l : List Int) (w : World) (hr : kI.C w A l.length l) (hl : l.length < 17592186044416) :
    Calls Tryz.prog 190 #[.slice A l.length c] w fun e w' => ∃ v, e = .returned v ∧ kI.R 2 w' w.heap.size (fun _ => True) v l ∧ Below w.heap.size w w' := by
  have HR := Aside0.mk hr
  clear hr
  go_enter Tryz.func190, Tryz.ntmps190
  go_wp2_with ((at_builtin; refine app_ints (w0 := w) rfl _ _ _ rfl Tryz.underlying84 infoI _ [] l A c rfl rfl (R_lit0 kI _ _ _ (Nat.le_refl _)) (Kd.C_alloc HR.out _) (below_alloc (Below.refl _ _) _) (by simpa using hl) ?_; intro v1 w1 HO HB _ _; rw [List.nil_append] at HO; have HO := Aside0.mk HO; have HB := Aside0.mk HB))
  go_ret
  exact ⟨_, rfl, HO.out, HB.out⟩

set_option maxRecDepth 100000 in
set_option maxHeartbeats 400000 in
theorem l01Less_calls (p : Int) (A : Option Addr) (c : Nat) (r : List Int) (A' : Option Addr) (c' : Nat) (o : List Int) (k : Int) (w : World) (hr : kI.C w A r.length r) (hr' : kI.C w A' o.length o) (ho : o.length = r.length)
    (hp : 0 < p) (hp2 : p ≤ 1000) (hR : InR p r) (hO : InR p o) (hk : 0 ≤ k ∧ k < p) (hl : r.length < 1000000) :
    Calls Tryz.prog 126 #[.int .i64 p, .slice A r.length c, .slice A' o.length c', .int .i64 k] w fun e w' => ∃ v, e = .returned v ∧ kI.R 2 w' w.heap.size (fun _ => True) v (lessOf p r o k) ∧ Below w.heap.size w w' := by
  have HR := Aside0.mk hr
  have HR' := Aside0.mk hr'
  have HL := Aside0.mk ho
  have HI := Aside0.mk (And.intro hR hO)
  clear hr hr' ho hR hO
  go_enter Tryz.func126, Tryz.ntmps126
  go_wp2
  go_loopw [9, 10] (fun v9 v10 wr => ∃ j : Nat, v10 = .int .i64 j ∧ j ≤ r.length ∧ Aside0 (kI.R 2 wr w.heap.size (fun _ => True) v9 ((lessOf p r o k).take j)) ∧ Aside0 (Below w.heap.size w wr)) (fun _ v10 _ => r.length - (intOf v10).toNat)
  case atStart => exact ⟨0, rfl, by omega, ⟨R_lit0 kI _ _ _ (Nat.le_refl _)⟩, ⟨below_alloc (Below.refl _ _) _⟩⟩
  case round =>
    obtain ⟨j, rfl, hj, HO, HB⟩ := hrel
    by_cases hlt : j < r.length
    · obtain ⟨ad, rfl, hc⟩ := at_nt HR.out j hlt
      obtain ⟨ad', rfl, hc'⟩ := at_nt HR'.out j (by rw [HL.out]; exact hlt)
      have hlt' : j < o.length := by rw [HL.out]; exact hlt
      have hk1 := HI.out.1.nt hp j
      have hk2 := HI.out.2.nt hp j
      have hkb1 : 0 ≤ k * nt o j := Int.mul_nonneg hk.1 hk2.1
      have hkb2 : k * nt o j ≤ 1000 * 1000 := Int.mul_le_mul (by omega) (by omega) (by omega) (by omega)
      have hw := ((HB.out.cell (World.block_lt_of_cell? _ _ hc)).trans hc)
      have hw' := ((HB.out.cell (World.block_lt_of_cell? _ _ hc')).trans hc')
      have HM : Aside0 (∀ W, Calls Tryz.prog 197 #[.int .i64 p, .int .i64 (wrap64 (nt r j - wrap64 (k * nt o j)))] W fun e w' => e = .returned (.int .i64 ((nt r j - k * nt o j) % p)) ∧ W = w') := ⟨fun W => by
        rw [IntWalk.wrap64_in (k * nt o j) ⟨by omega, by omega⟩, IntWalk.wrap64_in (nt r j - k * nt o j) ⟨by omega, by omega⟩]
        exact l01Mod_calls p _ _ hp (by omega)⟩
      go_wp2
      replace HO := Aside0.mk (Kd.R_drew HO.out)
      replace HB := Aside0.mk (below_drew1 HB.out)
      refine start_ (n := 17) (S := fun w' => w'.cell? (ad.add j) = some (.int .i64 (nt r j)) ∧ w'.cell? (ad'.add j) = some (.int .i64 (nt o j))) (ds := []) #[Nn,Nn,Nn,Nn,Nn,Nn,Nn,Nn,Nn,Nn,Nn,Nn,Nn,Nn,Nn,Nn,Nn] (by kernel_rfl) rfl rfl ⟨((HB.out.cell (World.block_lt_of_cell? _ _ hc)).trans hc), ((HB.out.cell (World.block_lt_of_cell? _ _ hc')).trans hc')⟩ (fun hHeld => ?_)
      refine pure_ (i := 0) (N := some 18) (v := ?_) (a' := ?_) #[Yy,Nn,Nn,Nn,Nn,Nn,Nn,Nn,Nn,Nn,Nn,Nn,Nn,Nn,Nn,Nn,Nn] rfl rfl (by kernel_rfl) (fun _ _ _ h => h) (Or.inl ⟨by rfl, ?_⟩) ?_ ?_
      rotate_left
      · intro w'
        go_simp
        with_reducible rfl
      rotate_left
      · simp only [Act.put, List.setIfInBounds_toArray, List.set_cons_zero, List.set_cons_succ, i64_w, i32_w]
        rfl
      refine pure_ (i := 1) (N := some 19) (v := ?_) (a' := ?_) #[Yy,Yy,Nn,Nn,Nn,Nn,Nn,Nn,Nn,Nn,Nn,Nn,Nn,Nn,Nn,Nn,Nn] rfl rfl (by kernel_rfl) (fun _ _ _ h => h) (Or.inl ⟨by rfl, ?_⟩) ?_ ?_
      rotate_left
      · intro w'
        go_simp
        with_reducible rfl
      rotate_left
      · simp only [Act.put, List.setIfInBounds_toArray, List.set_cons_zero, List.set_cons_succ, i64_w, i32_w]
        rfl
      refine pure_ (i := 2) (N := some 20) (v := ?_) (a' := ?_) #[Yy,Yy,Yy,Nn,Nn,Nn,Nn,Nn,Nn,Nn,Nn,Nn,Nn,Nn,Nn,Nn,Nn] rfl rfl (by kernel_rfl) (fun _ _ _ h => h) (Or.inl ⟨by rfl, ?_⟩) ?_ ?_
      rotate_left
      · intro w'
        go_simp
        with_reducible rfl
      rotate_left
      · simp only [Act.put, List.setIfInBounds_toArray, List.set_cons_zero, List.set_cons_succ, i64_w, i32_w]
        rfl
      refine pure_ (i := 3) (N := some 21) (v := ?_) (a' := ?_) #[Yy,Yy,Yy,Yy,Nn,Nn,Nn,Nn,Nn,Nn,Nn,Nn,Nn,Nn,Nn,Nn,Nn] rfl rfl (by kernel_rfl) (fun _ _ _ h => h) (Or.inl ⟨by rfl, ?_⟩) ?_ ?_
      rotate_left
      · intro w'
        go_simp
        with_reducible rfl
      rotate_left
      · simp only [Act.put, List.setIfInBounds_toArray, List.set_cons_zero, List.set_cons_succ, i64_w, i32_w]
        rfl
      refine pure_ (i := 4) (N := some 22) (v := ?_) (a' := ?_) #[Yy,Yy,Yy,Yy,Yy,Nn,Nn,Nn,Nn,Nn,Nn,Nn,Nn,Nn,Nn,Nn,Nn] rfl rfl (by kernel_rfl) (fun _ _ _ h => h) (Or.inl ⟨by rfl, ?_⟩) ?_ ?_
      rotate_left
      · intro w'
        go_simp
        with_reducible rfl
      rotate_left
      · simp only [Act.put, List.setIfInBounds_toArray, List.set_cons_zero, List.set_cons_succ, i64_w, i32_w]
        rfl
      refine pure_ (i := 6) (N := some 24) (v := ?_) (a' := ?_) #[Yy,Yy,Yy,Yy,Yy,Nn,Yy,Nn,Nn,Nn,Nn,Nn,Nn,Nn,Nn,Nn,Nn] rfl rfl (by kernel_rfl) (fun _ _ _ h => h) (Or.inl ⟨by rfl, ?_⟩) ?_ ?_
      rotate_left
      · intro w'
        go_simp
        with_reducible rfl
      rotate_left
      · simp only [Act.put, List.setIfInBounds_toArray, List.set_cons_zero, List.set_cons_succ, i64_w, i32_w]
        rfl
      refine pure_ (i := 7) (N := some 25) (v := ?_) (a' := ?_) #[Yy,Yy,Yy,Yy,Yy,Nn,Yy,Yy,Nn,Nn,Nn,Nn,Nn,Nn,Nn,Nn,Nn] rfl rfl (by kernel_rfl) (fun _ _ _ h => h) (Or.inl ⟨by rfl, ?_⟩) ?_ ?_
      rotate_left
      · intro w'
        go_simp
        with_reducible rfl
      rotate_left
      · simp only [Act.put, List.setIfInBounds_toArray, List.set_cons_zero, List.set_cons_succ, i64_w, i32_w]
        rfl
      refine pure_ (i := 8) (N := some 26) (v := ?_) (a' := ?_) #[Yy,Yy,Yy,Yy,Yy,Nn,Yy,Yy,Yy,Nn,Nn,Nn,Nn,Nn,Nn,Nn,Nn] rfl rfl (by kernel_rfl) (fun _ _ _ h => h) (Or.inl ⟨by rfl, ?_⟩) ?_ ?_
      rotate_left
      · intro w'
        go_simp
        with_reducible rfl
      rotate_left
      · simp only [Act.put, List.setIfInBounds_toArray, List.set_cons_zero, List.set_cons_succ, i64_w, i32_w]
        rfl
      refine pure_ (i := 9) (N := some 27) (v := ?_) (a' := ?_) #[Yy,Yy,Yy,Yy,Yy,Nn,Yy,Yy,Yy,Yy,Nn,Nn,Nn,Nn,Nn,Nn,Nn] rfl rfl (by kernel_rfl) (fun _ _ _ h => h) (Or.inl ⟨by rfl, ?_⟩) ?_ ?_
      rotate_left
      · intro w'
        go_simp
        with_reducible rfl
      rotate_left
      · simp only [Act.put, List.setIfInBounds_toArray, List.set_cons_zero, List.set_cons_succ, i64_w, i32_w]
        rfl
      refine take_ (i := 5) (N := some 23) (v := ?_) (a' := ?_) #[Yy,Yy,Yy,Yy,Yy,Yy,Yy,Yy,Yy,Yy,Nn,Nn,Nn,Nn,Nn,Nn,Nn] rfl rfl (by kernel_rfl) (fun _ _ _ h => h) (Or.inl ⟨by rfl, ?_⟩) hHeld ?_ ?_
      rotate_left
      · rintro w' ⟨s0, s1⟩
        go_simp
        with_reducible rfl
      rotate_left
      · simp only [Act.put, List.setIfInBounds_toArray, List.set_cons_zero, List.set_cons_succ, i64_w, i32_w]
        rfl
      refine take_ (i := 10) (N := some 28) (v := ?_) (a' := ?_) #[Yy,Yy,Yy,Yy,Yy,Yy,Yy,Yy,Yy,Yy,Yy,Nn,Nn,Nn,Nn,Nn,Nn] rfl rfl (by kernel_rfl) (fun _ _ _ h => h) (Or.inl ⟨by rfl, ?_⟩) hHeld ?_ ?_
      rotate_left
      · rintro w' ⟨s0, s1⟩
        go_simp
        with_reducible rfl
      rotate_left
      · simp only [Act.put, List.setIfInBounds_toArray, List.set_cons_zero, List.set_cons_succ, i64_w, i32_w]
        rfl
      refine pure_ (i := 11) (N := some 29) (v := ?_) (a' := ?_) #[Yy,Yy,Yy,Yy,Yy,Yy,Yy,Yy,Yy,Yy,Yy,Yy,Nn,Nn,Nn,Nn,Nn] rfl rfl (by kernel_rfl) (fun _ _ _ h => h) (Or.inl ⟨by rfl, ?_⟩) ?_ ?_
      rotate_left
      · intro w'
        go_simp
        with_reducible rfl
      rotate_left
      · simp only [Act.put, List.setIfInBounds_toArray, List.set_cons_zero, List.set_cons_succ, i64_w, i32_w]
        rfl
      refine pure_ (i := 12) (N := some 30) (v := ?_) (a' := ?_) #[Yy,Yy,Yy,Yy,Yy,Yy,Yy,Yy,Yy,Yy,Yy,Yy,Yy,Nn,Nn,Nn,Nn] rfl rfl (by kernel_rfl) (fun _ _ _ h => h) (Or.inl ⟨by rfl, ?_⟩) ?_ ?_
      rotate_left
      · intro w'
        go_simp
        with_reducible rfl
      rotate_left
      · simp only [Act.put, List.setIfInBounds_toArray, List.set_cons_zero, List.set_cons_succ, i64_w, i32_w]
        rfl
      refine one_ (i := 13) (N := some 31) #[Yy,Yy,Yy,Yy,Yy,Yy,Yy,Yy,Yy,Yy,Yy,Yy,Yy,Yy,Nn,Nn,Nn] rfl rfl (by kernel_rfl) (by decide) (fun K hK => ?_)
      refine goes_ Tryz.func197 (by kernel_rfl) rfl #[.int .i64 p, .int .i64 (wrap64 (nt r j - wrap64 (k * nt o j)))] (by rfl) rfl rfl (by simp only [List.map_toArray, List.map_cons, List.map_nil]; rfl) ?_
      with_reducible refine (HM.out _).mono ?_
      rintro e w' ⟨rfl, rfl⟩
      refine ⟨_, rfl, ?_⟩
      refine hK.out _ _ ⟨((HB.out.cell (World.block_lt_of_cell? _ _ hc)).trans hc), ((HB.out.cell (World.block_lt_of_cell? _ _ hc')).trans hc')⟩ (fun hHeld => ?_)
      clear hK K
      refine norm_ (a' := ?_) ?_ ?_
      rotate_left
      · show Act.put _ (some 31) _ = _
        simp only [Act.put, List.setIfInBounds_toArray, List.set_cons_zero, List.set_cons_succ, i64_w, i32_w]
        rfl
      refine one_ (i := 14) (N := some 32) #[Yy,Yy,Yy,Yy,Yy,Yy,Yy,Yy,Yy,Yy,Yy,Yy,Yy,Yy,Yy,Nn,Nn] rfl rfl (by kernel_rfl) (by decide) (fun K hK => ?_)
      refine value_ (w1 := ?_) (v := ?_) (by rfl) rfl ?_ ?_
      rotate_left 2
      · go_simp
        constructor
        · rfl
        · rfl
      refine hK.out _ _ ⟨(((below_alloc HB.out _).cell (World.block_lt_of_cell? _ _ hc)).trans hc), (((below_alloc HB.out _).cell (World.block_lt_of_cell? _ _ hc')).trans hc')⟩ (fun hHeld => ?_)
      clear hK K
      refine norm_ (a' := ?_) ?_ ?_
      rotate_left
      · show Act.put _ (some 32) _ = _
        simp only [Act.put, List.setIfInBounds_toArray, List.set_cons_zero, List.set_cons_succ, i64_w, i32_w]
        rfl
      refine one_ (i := 15) (N := some 33) #[Yy,Yy,Yy,Yy,Yy,Yy,Yy,Yy,Yy,Yy,Yy,Yy,Yy,Yy,Yy,Yy,Nn] rfl rfl (by kernel_rfl) (by decide) (fun K hK => ?_)
      refine Kd.R_append_step kI (w0 := w) w.heap.size (by rfl) (.tmp 18) (.tmp 32) _ _ (.int .i64 0) 8 rfl Tryz.underlying84 infoI rfl (by decide) (by omega) _ ((lessOf p r o k).take j) ((nt r j - k * nt o j) % p) [.int .i64 _] (fun _ => True) (fun _ => False) rfl rfl rfl (fun _ hk => hk.elim) (fun _ _ => trivial) HO.out HB.out HB.out.size (by rw [List.length_take]; omega) ?_
      intro v1 w1 HO1 HB1 _ _
      replace HO1 := Aside0.mk HO1
      replace HB1 := Aside0.mk HB1
      refine hK.out _ _ ⟨((HB1.out.cell (World.block_lt_of_cell? _ _ hc)).trans hc), ((HB1.out.cell (World.block_lt_of_cell? _ _ hc')).trans hc')⟩ (fun hHeld => ?_)
      clear hK K
      refine norm_ (a' := ?_) ?_ ?_
      rotate_left
      · show Act.put _ (some 33) _ = _
        simp only [Act.put, List.setIfInBounds_toArray, List.set_cons_zero, List.set_cons_succ, i64_w, i32_w]
        rfl
      refine pure_ (i := 16) (N := some 9) (v := ?_) (a' := ?_) #[Yy,Yy,Yy,Yy,Yy,Yy,Yy,Yy,Yy,Yy,Yy,Yy,Yy,Yy,Yy,Yy,Yy] rfl rfl (by kernel_rfl) (fun _ _ _ h => h) (Or.inl ⟨by rfl, ?_⟩) ?_ ?_
      rotate_left
      · intro w'
        go_simp
        with_reducible rfl
      rotate_left
      · simp only [Act.put, List.setIfInBounds_toArray, List.set_cons_zero, List.set_cons_succ, i64_w, i32_w]
        rfl
      refine done_ (by kernel_rfl) ?_
      go_wp2
      go_roundw
      case rel => exact ⟨j + 1, by go_num, by omega, ⟨by rw [show (lessOf p r o k).take (j + 1) = (lessOf p r o k).take j ++ [(nt r j - k * nt o j) % p] from lessOf_take p r o k HL.out j hlt]; exact HO1.out⟩, HB1⟩
      case measure => simp [intOf]; omega
    · go_wp2
      go_ret
      exact ⟨_, rfl, by rw [show lessOf p r o k = (lessOf p r o k).take j from (List.take_of_length_le (by rw [lessOf_length _ _ _ _ HL.out]; omega)).symm]; exact HO.out, HB.out⟩

set_option maxRecDepth 100000 in
set_option maxHeartbeats 800000 in
theorem l01Rest_calls (p : Int) (n : Nat) (A : Option Addr) (c : Nat) (list : List (List Int)) (A' : Option Addr) (c' : Nat) (row : List Int) (w : World) (hr : kR.C w A list.length list) (hr' : kI.C w A' row.length row)
    (hp : 0 < p) (hp2 : p ≤ 1000) (hg : GoodRows p n list) (hn : row.length = n) (hR : InR p row) (hl : n < 1000000) (hll : list.length < 1000000) :
    Calls Tryz.prog 123 #[.int .i64 p, .slice A list.length c, .slice A' row.length c'] w fun e w' => ∃ v, e = .returned v ∧ kI.R 2 w' w.heap.size (fun _ => True) v (restOf p list row) ∧ Below w.heap.size w w' := by
  have HR := Aside0.mk hr
  have HR' := Aside0.mk hr'
  have HG := Aside0.mk hg
  have HN := Aside0.mk (And.intro hn hR)
  have hrl : row.length < 1000000 := by omega
  clear hr hr' hg hn hR
  go_enter Tryz.func123, Tryz.ntmps123
  go_wp2_with ((go_at_call 190; refine (l01Own_calls _ _ _ _ HR'.out (by omega)).mono ?_; rintro e w1 ⟨v1, rfl, HO, HB⟩; have HO := Aside0.mk HO; have HB := Aside0.mk HB))
  go_loopw [7, 8] (fun v7 v8 wr => ∃ i : Nat, v8 = .int .i64 i ∧ i ≤ list.length ∧ Aside0 (kI.R 2 wr w.heap.size (fun _ => True) v7 (restOf p (list.take i) row)) ∧ Aside0 (Below w.heap.size w wr)) (fun _ v8 _ => list.length - (intOf v8).toNat)
  case atStart => exact ⟨0, rfl, by omega, HO, HB⟩
  case round =>
    clear HO HB
    obtain ⟨i, rfl, hi, HO, HB⟩ := hrel
    have hgi : GoodRows p n (list.take i) := fun x hx => HG.out x (List.mem_of_mem_take hx)
    obtain ⟨ho1, ho2⟩ := restOf_good hp (list.take i) row hgi HN.out.1 HN.out.2
    obtain ⟨own, hown⟩ : ∃ own, own = restOf p (list.take i) row := ⟨_, rfl⟩
    rw [← hown] at HO ho1 ho2
    have HW := Aside0.mk hown
    clear hown hgi
    by_cases hlt : i < list.length
    · obtain ⟨ad, A0, c0, r, hrr, rfl, hc, hrc, hC⟩ := at_row HR.out i hlt
      have hgr := HG.out _ (ntR_mem list i hlt)
      rw [← hrr] at hgr
      obtain ⟨hl1, hl2, hl3, hl4⟩ := lead_lt r hgr.2.2
      obtain ⟨q, hq⟩ : ∃ q, q = (lead r).toNat := ⟨_, rfl⟩
      rw [← hq] at hl1 hl2 hl4
      have hq2 : q < own.length := by omega
      have hw := ((HB.out.cell (World.block_lt_of_cell? _ _ hc)).trans hc)
      have hCw := Kd.C_below hC HB.out
      obtain ⟨A7, c7, rfl, hc7, hC7⟩ := Kd.R_reads HO.out
      obtain ⟨ad7, rfl, hc7q⟩ := at_nt hC7 q hq2
      have hf := ho2.nt hp q
      have HX := Aside0.mk (And.intro hrr (And.intro hgr (And.intro hl2 (And.intro hCw (And.intro hC7 (And.intro ho1 (And.intro ho2 hq)))))))
      have hol : own.length < 1000000 := by omega
      clear hrr hgr hl2 hCw hC7 ho1 ho2 hq hC hl3 hl4
      by_cases h0 : nt own q = 0
      · have hb : (nt own q != 0) = false := by simp [h0]
        have H0 := Aside0.mk h0
        clear h0
        go_wp2_with ((go_at_call 124; refine (l01Lead_calls _ _ _ _ HX.out.2.2.2.1).mono ?_; rintro e w' ⟨rfl, ⟨nd, rfl⟩⟩; rw [HX.out.2.2.1]))
        go_roundw
        case rel => exact ⟨i + 1, by go_num, by omega, ⟨by rw [take_succ_ntR list i hlt, restOf_snoc, ← HX.out.1, ← HW.out, ← HX.out.2.2.2.2.2.2.2, if_pos H0.out]; exact Kd.R_drewN HO.out nd⟩, ⟨pw_below_drewN HB.out nd⟩⟩
        case measure => simp [intOf]; omega
      · have hb : (nt own q != 0) = true := by simpa using h0
        have H0 := Aside0.mk h0
        clear h0
        go_wp2_with (first
          | (go_at_call 124; refine (l01Lead_calls _ _ _ _ HX.out.2.2.2.1).mono ?_; rintro e w' ⟨rfl, ⟨nd, rfl⟩⟩; rw [HX.out.2.2.1])
          | (go_at_call 126; refine (l01Less_calls _ _ _ own _ _ r _ _ (Kd.C_drewN HX.out.2.2.2.2.1 _) (Kd.C_drewN HX.out.2.2.2.1 _) (by have h1 := HX.out.2.1.1; have h2 := HX.out.2.2.2.2.2.1; omega) hp hp2 HX.out.2.2.2.2.2.2.1 HX.out.2.1.2.1 hf hol).mono ?_; rintro e w' ⟨v2, rfl, HO2, HB2⟩; have HO2 := Aside0.mk HO2; have HB2 := Aside0.mk HB2))
        go_roundw
        case rel => exact ⟨i + 1, by go_num, by omega, ⟨by rw [take_succ_ntR list i hlt, restOf_snoc, ← HX.out.1, ← HW.out, ← HX.out.2.2.2.2.2.2.2, if_neg H0.out]; exact Kd.R_lower HO2.out HB.out.size⟩, ⟨below_step (pw_below_drewN HB.out _) HB2.out⟩⟩
        case measure => simp [intOf]; omega
    · go_wp2
      go_ret
      exact ⟨_, rfl, by rw [show restOf p list row = own by rw [HW.out, List.take_of_length_le (by omega)]]; exact HO.out, HB.out⟩
end Go.Proofs.YtbenhcognapdpaaGreat
/- Walk: the specification's reduced list. -/
set_option linter.unusedVariables false
set_option linter.unusedSimpArgs false
namespace Go.Proofs.YtbenhcognapdpaaGreat
open Go.RowKit Go.Proofs.YtbenhcognapdpaaGreatW.PrintWords Go.Proofs.YtbenhcognapdpaaGreatW.PrintLast Lin

theorem l01Less_calls' (p : Int) (A : Option Addr) (n c : Nat) (r : List Int) (A' : Option Addr) (n' c' : Nat) (o : List Int) (k : Int) (w : World) (hr : kI.C w A n r) (hr' : kI.C w A' n' o) (ho : n' = n)
    (hp : 0 < p) (hp2 : p ≤ 1000) (hR : InR p r) (hO : InR p o) (hk : 0 ≤ k ∧ k < p) (hl : n < 1000000) :
    Calls Tryz.prog 126 #[.int .i64 p, .slice A n c, .slice A' n' c', .int .i64 k] w fun e w' => ∃ v, e = .returned v ∧ kI.R 2 w' w.heap.size (fun _ => True) v (lessOf p r o k) ∧ Below w.heap.size w w' := by
  have h1 := Kd.C_len hr
  have h2 := Kd.C_len hr'
  subst h1 h2
  exact l01Less_calls p A c r A' c' o k w hr hr' ho hp hp2 hR hO hk hl

set_option maxRecDepth 100000 in
set_option maxHeartbeats 2000000 in
theorem l01Echelon_calls (p : Int) (n : Nat) (A : Option Addr) (c : Nat) (rows : List (List Int)) (w : World) (hr : kR.C w A rows.length rows)
    (hp : IsP p) (hg : ∀ r ∈ rows, r.length = n ∧ InR p r) (hl : n < 100000) (hll : rows.length < 100000) :
    Calls Tryz.prog 56 #[.int .i64 p, .slice A rows.length c] w fun e w' => ∃ v, e = .returned v ∧ kR.R 84 w' w.heap.size (fun _ => True) v (echelon p rows) ∧ Below w.heap.size w w' := by
  have HP := Aside0.mk hp
  have hpos := hp.pos
  have HR := Aside0.mk hr
  have HG := Aside0.mk hg
  clear hr hg hp
  go_enter Tryz.func56, Tryz.ntmps56
  go_wp2
  go_loopw [5, 6] (fun v5 v6 wr => ∃ i : Nat, v6 = .int .i64 i ∧ i ≤ rows.length ∧ Aside0 (kR.R 84 wr w.heap.size (fun _ => True) v5 (echelon p (rows.take i))) ∧ Aside0 (Below w.heap.size w wr)) (fun _ v6 _ => rows.length - (intOf v6).toNat)
  case atStart => exact ⟨0, rfl, by omega, ⟨R_lit0 kR _ _ _ (Nat.le_refl _)⟩, ⟨below_alloc (Below.refl _ _) _⟩⟩
  case round =>
    obtain ⟨i, rfl, hi, HO, HB⟩ := hrel
    have hred := echelon_red (n := n) HP.out (rows.take i) (fun r hr => HG.out r (List.mem_of_mem_take hr))
    have hlen := echelon_length p (rows.take i)
    rw [List.length_take] at hlen
    obtain ⟨out, hout⟩ : ∃ out, out = echelon p (rows.take i) := ⟨_, rfl⟩
    rw [← hout] at HO hred hlen
    have HD := Aside0.mk hred
    have HE := Aside0.mk hout
    clear hred hout
    by_cases hlt : i < rows.length
    · obtain ⟨ad, A0, c0, row, hrr, rfl, hc, hrc, hC⟩ := at_row HR.out i hlt
      obtain ⟨hn, hin⟩ := HG.out _ (ntR_mem rows i hlt)
      rw [← hrr] at hn hin
      have hw := ((HB.out.cell (World.block_lt_of_cell? _ _ hc)).trans hc)
      have HC := Aside0.mk (Kd.C_below hC HB.out)
      have HX := Aside0.mk (And.intro hrr (And.intro hn hin))
      have hol : out.length < 100000 := by omega
      have hrn : row.length < 100000 := by omega
      obtain ⟨A5, c5, rfl, hc5, hC5⟩ := Kd.R_reads HO.out
      have HC5 := Aside0.mk hC5
      obtain ⟨hq1, hq2⟩ := restOf_good (by omega) out row HD.out.rows hn hin
      obtain ⟨own, hown⟩ : ∃ own, own = restOf p out row := ⟨_, rfl⟩
      rw [← hown] at hq1 hq2
      have HW := Aside0.mk (And.intro hown (And.intro hq1 hq2))
      have hon : own.length < 100000 := by omega
      clear hrr hn hin hC hC5 hown hq1 hq2
      by_cases h0 : lead own < 0
      · have H0 := Aside0.mk h0
        go_wp2_with (first
          | (go_at_call 123; refine (l01Rest_calls p n _ _ out _ _ row _ HC5.out HC.out (by omega) (by omega) HD.out.rows HX.out.2.1 HX.out.2.2 (by omega) (by omega)).mono ?_; rintro e w1 ⟨v1, rfl, HO1, HB1⟩; rw [← HW.out.1] at HO1; obtain ⟨A1, c1, rfl, hc1, hC1⟩ := Kd.R_reads HO1; replace HO1 := Aside0.mk HO1; replace HB1 := Aside0.mk HB1; replace hC1 := Aside0.mk hC1)
          | (go_at_call 124; refine (l01Lead_calls _ _ own _ hC1.out).mono ?_; rintro e w' ⟨rfl, ⟨nd, rfl⟩⟩))
        go_roundw
        case rel => exact ⟨i + 1, by go_num, by omega, ⟨by rw [take_succ_ntR rows i hlt, echelon_snoc, ← HE.out, ← HX.out.1]; unfold echStep; rw [← HW.out.1, if_pos H0.out]; exact Kd.R_drewN (Kd.R_below HO.out HB1.out) nd⟩, ⟨pw_below_drewN (below_step HB.out HB1.out) nd⟩⟩
        case measure => simp [intOf]; omega
      · obtain ⟨hl1, hl2, hl3, hl4⟩ := lead_lt own (by omega)
        obtain ⟨q, hq⟩ : ∃ q, q = (lead own).toNat := ⟨_, rfl⟩
        rw [← hq] at hl1 hl2 hl4
        have HQ := Aside0.mk (And.intro hl2 (And.intro hl4 (And.intro hq h0)))
        have hbq := HW.out.2.2.nt (show 0 < p by omega) q
        have hiv := inv_spec HP.out (x := nt own q) (by rw [Int.emod_eq_of_lt hbq.1 hbq.2]; exact hl4)
        obtain ⟨iv, hivE⟩ : ∃ iv, iv = invOf p (nt own q) := ⟨_, rfl⟩
        rw [← hivE] at hiv
        have hiv1 := hiv.2.1
        have hiv2 := hiv.2.2
        have HIV := Aside0.mk hivE
        clear hl2 hl3 hl4 hq h0 hiv hivE
        go_wp2_with (first
          | (go_at_call 123; refine (l01Rest_calls p n _ _ out _ _ row _ HC5.out HC.out (by omega) (by omega) HD.out.rows HX.out.2.1 HX.out.2.2 (by omega) (by omega)).mono ?_; rintro e w1 ⟨v1, rfl, HO1, HB1⟩; rw [← HW.out.1] at HO1; obtain ⟨g, cap, rfl, hg1, hg2, cells, hcell⟩ := Kd.R_form HO1 (by omega); have hq1 := (own_cell HO1 q hl1).1; have hC1 := Aside0.mk (Kd.R_reads' HO1).2.2; replace HO1 := Aside0.mk HO1; replace HB1 := Aside0.mk HB1; replace hcell := Aside0.mk hcell)
          | (go_at_call 124; refine (l01Lead_calls _ _ own _ hC1.out).mono ?_; rintro e w' ⟨rfl, ⟨nd, rfl⟩⟩; rw [HQ.out.1])
          | (go_at_call 125; refine (l01Inverse_calls p _ _ (by omega) (by omega)).mono ?_; rintro e w' ⟨rfl, ⟨nd2, rfl⟩⟩; rw [← HIV.out]))
        have hfar : kR.R 84 (w1.drewN (nd + nd2)) w.heap.size (fun k => k ≠ g) (.slice A5 out.length c5) out := Kd.R_drewN (Kd.R_mono (Kd.R_elder HO.out HO1.out HB1.out) (fun k hk => by rintro rfl; exact hk.2 rfl)) _
        have HF := Aside0.mk hfar
        clear hfar
        have hB2 := pw_below_drewN (below_step HB.out HB1.out) (nd + nd2)
        have HB2 := Aside0.mk hB2
        have hgB : w.heap.size ≤ g := Nat.le_trans HB.out.size hg1
        have hon0 : 0 < own.length := by omega
        clear hB2
        go_loopw [10] (fun v10 wr2 => ∃ j : Nat, v10 = .int .i64 j ∧ j ≤ own.length ∧ Aside0 (kI.R 2 wr2 w.heap.size (fun _ => True) (.slice (some ⟨g, 0, none⟩) own.length cap) (scTo p own iv j)) ∧ Aside0 (kR.R 84 wr2 w.heap.size (fun k => k ≠ g) (.slice A5 out.length c5) out) ∧ Aside0 (Below w.heap.size w wr2)) (fun v10 _ => own.length - (intOf v10).toNat)
        case atStart => exact ⟨0, rfl, by omega, ⟨by rw [scTo_zero]; exact Kd.R_lower (Kd.R_drewN HO1.out _) HB.out.size⟩, HF, HB2⟩
        case round =>
          clear HF HB2
          obtain ⟨j, rfl, hj, HS, HF, HB2⟩ := hrel
          by_cases hjl : j < own.length
          · obtain ⟨hj1, hj2⟩ := own_cell HS.out j hjl
            rw [scTo_nt p own iv j hjl] at hj1
            have hjb := HW.out.2.2.nt (show 0 < p by omega) j
            have hm1 : 0 ≤ nt own j * iv := Int.mul_nonneg hjb.1 (by omega)
            have hm2 : nt own j * iv ≤ 13 * 13 := Int.mul_le_mul (by omega) (by omega) (by omega) (by omega)
            have hp0 : (p == 0) = false := by rw [beq_eq_false_iff_ne]; omega
            go_wp2
            go_roundw
            case rel => exact ⟨j + 1, by go_num, by omega, ⟨by rw [← scTo_set p own iv j hjl]; exact own_put HS.out j _⟩, ⟨Kd.R_far (p := ⟨g, j, none⟩) HF.out (fun _ h => h) _⟩, ⟨HB2.out.setCell hgB _⟩⟩
            case measure => simp [intOf]; omega
          · have hje : scTo p own iv j = scaleRow p own iv := scTo_all p own iv j (by omega)
            rw [hje] at HS
            clear hje
            obtain ⟨ow, how⟩ : ∃ ow, ow = scaleRow p own iv := ⟨_, rfl⟩
            have howl : ow.length = own.length := by rw [how, scaleRow_length]
            have howi : InR p ow := by rw [how]; exact scaleRow_inR (by omega) _ _
            rw [← how] at HS
            have HOW := Aside0.mk (And.intro how (And.intro howl howi))
            clear how howl howi
            go_wp2
            go_loopw [11, 12, 13] (fun v11 v12 v13 wr3 => ∃ (k : Nat) (put : Bool) (next : List (List Int)), v13 = .int .i64 k ∧ v12 = .bool put ∧ k ≤ out.length ∧ Aside0 ((out.take k).foldl (insSt p ow q) (false, []) = (put, next)) ∧ Aside0 (next.length ≤ k + put.toNat) ∧ Aside0 (kR.R 84 wr3 w.heap.size (fun _ => True) v11 next) ∧
              Aside0 (kI.R 2 wr3 w.heap.size (fun k => some k ≠ v11.ownBlock) (.slice (some ⟨g, 0, none⟩) own.length cap) ow) ∧ Aside0 (kR.R 84 wr3 w.heap.size (fun k => some k ≠ v11.ownBlock) (.slice A5 out.length c5) out) ∧ Aside0 (Below w.heap.size w wr3)) (fun _ _ v13 _ => out.length - (intOf v13).toNat)
            case atStart => exact ⟨0, false, [], rfl, rfl, by omega, ⟨rfl⟩, ⟨by simp⟩, ⟨R_lit0 kR _ _ _ HB2.out.size⟩, ⟨R_fresh HS.out _ _ _⟩, ⟨R_fresh HF.out _ _ _⟩, ⟨below_alloc HB2.out _⟩⟩
            case round =>
              clear HS HF HB2
              obtain ⟨k, put, next, rfl, rfl, hk, HFO, HNL, HN, HS, HF, HB2⟩ := hrel
              have hnx : next.length ≤ 100001 := by have := HNL.out; have := Bool.toNat_le put; omega
              by_cases hkl : k < out.length
              · obtain ⟨_, _, hFC⟩ := Kd.R_reads' HF.out
                obtain ⟨ad5, A6, c6, r, hrk, rfl, hc5k, hc6, hC6⟩ := at_row hFC k hkl
                obtain ⟨hg1r, hg2r, hg3r, hg4r⟩ := HD.out.good _ (ntR_mem out k hkl)
                rw [← hrk] at hg1r hg2r hg3r hg4r
                have hqr : q < r.length := by have := HW.out.2.1; omega
                have hbr := hg2r.nt (show 0 < p by omega) q
                have HK := Aside0.mk (And.intro hrk (And.intro hC6 (And.intro hg2r hg1r)))
                have hstep : (out.take (k + 1)).foldl (insSt p ow q) (false, []) = insSt p ow q (put, next) r := by rw [take_succ_ntR out k hkl, List.foldl_append, HFO.out, ← hrk]; rfl
                have HST := Aside0.mk hstep
                clear hFC hrk hC6 hg1r hg2r hg3r hg4r hstep HFO
                have hcases : (put = false ∧ (q : Int) < lead r) ∨ (put = false ∧ ¬ (q : Int) < lead r) ∨ put = true := by
                  cases put
                  · by_cases h : (q : Int) < lead r
                    · exact .inl ⟨rfl, h⟩
                    · exact .inr (.inl ⟨rfl, h⟩)
                  · exact .inr (.inr rfl)
                rcases hcases with hcs | hcs | hcs
                case' pos.inl =>
                  obtain ⟨rfl, hlr⟩ := hcs
                  have HFO2 : Aside0 ((out.take (k + 1)).foldl (insSt p ow q) (false, []) = (true, (next ++ [ow]) ++ [lessOf p r ow (nt r q)])) := ⟨by rw [HST.out]; simp [insSt, hlr]⟩
                  have HNL2 : Aside0 (((next ++ [ow]) ++ [lessOf p r ow (nt r q)]).length ≤ (k + 1) + true.toNat) := ⟨by have := HNL.out; simp at this ⊢; omega⟩
                  have hnx2 : (next ++ [ow]).length ≤ 100002 := by simp; omega
                  go_wp2_with (first
                    | (go_at_call 124; refine (l01Lead_calls _ _ r _ HK.out.2.1).mono ?_; rintro e w' ⟨rfl, ⟨nd3, rfl⟩⟩)
                    | (at_builtin; go_must (refine app_row (w0 := w) rfl _ _ _ rfl Tryz.underlying41 infoR u11 next _ ow rfl rfl (Kd.R_drewN HS.out _) (Kd.R_drewN HN.out _) (pw_below_drewN HB2.out _) (by omega) ?_); intro u11 wN hn hb hg hat; have HS9 := Aside0.mk (R_next (Kd.R_drewN HS.out nd3) hg hat); have HF9 := Aside0.mk (R_next (Kd.R_drewN HF.out nd3) hg hat); replace HN := Aside0.mk hn; replace HB2 := Aside0.mk hb; replace HS := HS9; replace HF := HF9; clear hn hb hg hat HS9 HF9))
                case' pos.inr.inl =>
                  obtain ⟨rfl, hlr⟩ := hcs
                  have HFO2 : Aside0 ((out.take (k + 1)).foldl (insSt p ow q) (false, []) = (false, next ++ [lessOf p r ow (nt r q)])) := ⟨by rw [HST.out]; simp [insSt, hlr]⟩
                  have HNL2 : Aside0 ((next ++ [lessOf p r ow (nt r q)]).length ≤ (k + 1) + false.toNat) := ⟨by have := HNL.out; simp at this ⊢; omega⟩
                  have hnx2 : next.length ≤ 100002 := by omega
                  go_wp2_with ((go_at_call 124; refine (l01Lead_calls _ _ r _ HK.out.2.1).mono ?_; rintro e wN ⟨rfl, hdr⟩; have hb := hdr.below; clear hdr; replace HN := Aside0.mk (Kd.R_below HN.out hb); replace HS := Aside0.mk (Kd.R_below HS.out hb); replace HF := Aside0.mk (Kd.R_below HF.out hb); replace HB2 := Aside0.mk (below_step HB2.out hb); clear hb))
                case' pos.inr.inr =>
                  obtain rfl := hcs
                  have HFO2 : Aside0 ((out.take (k + 1)).foldl (insSt p ow q) (false, []) = (true, next ++ [lessOf p r ow (nt r q)])) := ⟨by rw [HST.out]; simp [insSt]⟩
                  have HNL2 : Aside0 ((next ++ [lessOf p r ow (nt r q)]).length ≤ (k + 1) + true.toNat) := ⟨by have := HNL.out; simp at this ⊢; omega⟩
                  have hnx2 : next.length ≤ 100002 := by omega
                  go_wp2
                all_goals
                  clear hc5k HST
                  obtain ⟨_, _, hFC⟩ := Kd.R_reads' HF.out
                  obtain ⟨ad5', A6, c6, r', hrk', he5, hc5k, hc6, hC6⟩ := at_row hFC k hkl
                  obtain rfl : r' = r := hrk'.trans HK.out.1.symm
                  cases he5
                  obtain ⟨ad6, rfl, hc6q⟩ := at_nt hC6 q hqr
                  replace hC6 := Aside0.mk hC6
                  have HSC := Aside0.mk (show kI.C _ _ own.length ow from by have h := (Kd.R_reads' HS.out).2.2; rwa [HOW.out.2.1] at h)
                  clear hFC hrk'
                  refine start_ (n := 18) (S := fun w' => w'.cell? (ad5.add k) = some (.slice (some ad6) r'.length c6) ∧ w'.cell? (ad6.add q) = some (.int .i64 (nt r' q))) (ds := [16]) #[Nn,Nn,Nn,Nn,Nn,Nn,Nn,Nn,Nn,Nn,Nn,Nn,Nn,Nn,Nn,Nn,Nn,Nn] (by kernel_rfl) rfl rfl ⟨hc5k, hc6q⟩ (fun hHeld => ?_)
                  refine pure_ (i := 0) (N := some 77) (v := ?_) (a' := ?_) #[Yy,Nn,Nn,Nn,Nn,Nn,Nn,Nn,Nn,Nn,Nn,Nn,Nn,Nn,Nn,Nn,Nn,Nn] rfl rfl (by kernel_rfl) (fun _ _ _ h => h) (Or.inl ⟨by rfl, ?_⟩) ?_ ?_
                  rotate_left
                  · intro w'
                    go_simp
                    with_reducible rfl
                  rotate_left
                  · simp only [Act.put, List.setIfInBounds_toArray, List.set_cons_zero, List.set_cons_succ, i64_w, i32_w]
                    rfl
                  refine pure_ (i := 1) (N := some 78) (v := ?_) (a' := ?_) #[Yy,Yy,Nn,Nn,Nn,Nn,Nn,Nn,Nn,Nn,Nn,Nn,Nn,Nn,Nn,Nn,Nn,Nn] rfl rfl (by kernel_rfl) (fun _ _ _ h => h) (Or.inl ⟨by rfl, ?_⟩) ?_ ?_
                  rotate_left
                  · intro w'
                    go_simp
                    with_reducible rfl
                  rotate_left
                  · simp only [Act.put, List.setIfInBounds_toArray, List.set_cons_zero, List.set_cons_succ, i64_w, i32_w]
                    rfl
                  refine pure_ (i := 2) (N := some 79) (v := ?_) (a' := ?_) #[Yy,Yy,Yy,Nn,Nn,Nn,Nn,Nn,Nn,Nn,Nn,Nn,Nn,Nn,Nn,Nn,Nn,Nn] rfl rfl (by kernel_rfl) (fun _ _ _ h => h) (Or.inl ⟨by rfl, ?_⟩) ?_ ?_
                  rotate_left
                  · intro w'
                    go_simp
                    with_reducible rfl
                  rotate_left
                  · simp only [Act.put, List.setIfInBounds_toArray, List.set_cons_zero, List.set_cons_succ, i64_w, i32_w]
                    rfl
                  refine pure_ (i := 3) (N := some 80) (v := ?_) (a' := ?_) #[Yy,Yy,Yy,Yy,Nn,Nn,Nn,Nn,Nn,Nn,Nn,Nn,Nn,Nn,Nn,Nn,Nn,Nn] rfl rfl (by kernel_rfl) (fun _ _ _ h => h) (Or.inl ⟨by rfl, ?_⟩) ?_ ?_
                  rotate_left
                  · intro w'
                    go_simp
                    with_reducible rfl
                  rotate_left
                  · simp only [Act.put, List.setIfInBounds_toArray, List.set_cons_zero, List.set_cons_succ, i64_w, i32_w]
                    rfl
                  refine pure_ (i := 4) (N := some 81) (v := ?_) (a' := ?_) #[Yy,Yy,Yy,Yy,Yy,Nn,Nn,Nn,Nn,Nn,Nn,Nn,Nn,Nn,Nn,Nn,Nn,Nn] rfl rfl (by kernel_rfl) (fun _ _ _ h => h) (Or.inl ⟨by rfl, ?_⟩) ?_ ?_
                  rotate_left
                  · intro w'
                    go_simp
                    with_reducible rfl
                  rotate_left
                  · simp only [Act.put, List.setIfInBounds_toArray, List.set_cons_zero, List.set_cons_succ, i64_w, i32_w]
                    rfl
                  refine pure_ (i := 6) (N := some 83) (v := ?_) (a' := ?_) #[Yy,Yy,Yy,Yy,Yy,Nn,Yy,Nn,Nn,Nn,Nn,Nn,Nn,Nn,Nn,Nn,Nn,Nn] rfl rfl (by kernel_rfl) (fun _ _ _ h => h) (Or.inl ⟨by rfl, ?_⟩) ?_ ?_
                  rotate_left
                  · intro w'
                    go_simp
                    with_reducible rfl
                  rotate_left
                  · simp only [Act.put, List.setIfInBounds_toArray, List.set_cons_zero, List.set_cons_succ, i64_w, i32_w]
                    rfl
                  refine pure_ (i := 7) (N := some 84) (v := ?_) (a' := ?_) #[Yy,Yy,Yy,Yy,Yy,Nn,Yy,Yy,Nn,Nn,Nn,Nn,Nn,Nn,Nn,Nn,Nn,Nn] rfl rfl (by kernel_rfl) (fun _ _ _ h => h) (Or.inl ⟨by rfl, ?_⟩) ?_ ?_
                  rotate_left
                  · intro w'
                    go_simp
                    with_reducible rfl
                  rotate_left
                  · simp only [Act.put, List.setIfInBounds_toArray, List.set_cons_zero, List.set_cons_succ, i64_w, i32_w]
                    rfl
                  refine pure_ (i := 8) (N := some 85) (v := ?_) (a' := ?_) #[Yy,Yy,Yy,Yy,Yy,Nn,Yy,Yy,Yy,Nn,Nn,Nn,Nn,Nn,Nn,Nn,Nn,Nn] rfl rfl (by kernel_rfl) (fun _ _ _ h => h) (Or.inl ⟨by rfl, ?_⟩) ?_ ?_
                  rotate_left
                  · intro w'
                    go_simp
                    with_reducible rfl
                  rotate_left
                  · simp only [Act.put, List.setIfInBounds_toArray, List.set_cons_zero, List.set_cons_succ, i64_w, i32_w]
                    rfl
                  refine pure_ (i := 9) (N := some 86) (v := ?_) (a' := ?_) #[Yy,Yy,Yy,Yy,Yy,Nn,Yy,Yy,Yy,Yy,Nn,Nn,Nn,Nn,Nn,Nn,Nn,Nn] rfl rfl (by kernel_rfl) (fun _ _ _ h => h) (Or.inl ⟨by rfl, ?_⟩) ?_ ?_
                  rotate_left
                  · intro w'
                    go_simp
                    with_reducible rfl
                  rotate_left
                  · simp only [Act.put, List.setIfInBounds_toArray, List.set_cons_zero, List.set_cons_succ, i64_w, i32_w]
                    rfl
                  refine pure_ (i := 11) (N := some 88) (v := ?_) (a' := ?_) #[Yy,Yy,Yy,Yy,Yy,Nn,Yy,Yy,Yy,Yy,Nn,Yy,Nn,Nn,Nn,Nn,Nn,Nn] rfl rfl (by kernel_rfl) (fun _ _ _ h => h) (Or.inl ⟨by rfl, ?_⟩) ?_ ?_
                  rotate_left
                  · intro w'
                    go_simp
                    with_reducible rfl
                  rotate_left
                  · simp only [Act.put, List.setIfInBounds_toArray, List.set_cons_zero, List.set_cons_succ, i64_w, i32_w]
                    rfl
                  refine take_ (i := 5) (N := some 82) (v := ?_) (a' := ?_) #[Yy,Yy,Yy,Yy,Yy,Yy,Yy,Yy,Yy,Yy,Nn,Yy,Nn,Nn,Nn,Nn,Nn,Nn] rfl rfl (by kernel_rfl) (fun _ _ _ h => h) (Or.inl ⟨by rfl, ?_⟩) hHeld ?_ ?_
                  rotate_left
                  · rintro w' ⟨s0, s1⟩
                    go_simp
                    with_reducible rfl
                  rotate_left
                  · simp only [Act.put, List.setIfInBounds_toArray, List.set_cons_zero, List.set_cons_succ, i64_w, i32_w]
                    rfl
                  refine take_ (i := 10) (N := some 87) (v := ?_) (a' := ?_) #[Yy,Yy,Yy,Yy,Yy,Yy,Yy,Yy,Yy,Yy,Yy,Yy,Nn,Nn,Nn,Nn,Nn,Nn] rfl rfl (by kernel_rfl) (fun _ _ _ h => h) (Or.inl ⟨by rfl, ?_⟩) hHeld ?_ ?_
                  rotate_left
                  · rintro w' ⟨s0, s1⟩
                    go_simp
                    with_reducible rfl
                  rotate_left
                  · simp only [Act.put, List.setIfInBounds_toArray, List.set_cons_zero, List.set_cons_succ, i64_w, i32_w]
                    rfl
                  refine pure_ (i := 12) (N := some 89) (v := ?_) (a' := ?_) #[Yy,Yy,Yy,Yy,Yy,Yy,Yy,Yy,Yy,Yy,Yy,Yy,Yy,Nn,Nn,Nn,Nn,Nn] rfl rfl (by kernel_rfl) (fun _ _ _ h => h) (Or.inl ⟨by rfl, ?_⟩) ?_ ?_
                  rotate_left
                  · intro w'
                    go_simp
                    with_reducible rfl
                  rotate_left
                  · simp only [Act.put, List.setIfInBounds_toArray, List.set_cons_zero, List.set_cons_succ, i64_w, i32_w]
                    rfl
                  refine take_ (i := 13) (N := some 90) (v := ?_) (a' := ?_) #[Yy,Yy,Yy,Yy,Yy,Yy,Yy,Yy,Yy,Yy,Yy,Yy,Yy,Yy,Nn,Nn,Nn,Nn] rfl rfl (by kernel_rfl) (fun _ _ _ h => h) (Or.inl ⟨by rfl, ?_⟩) hHeld ?_ ?_
                  rotate_left
                  · rintro w' ⟨s0, s1⟩
                    go_simp
                    with_reducible rfl
                  rotate_left
                  · simp only [Act.put, List.setIfInBounds_toArray, List.set_cons_zero, List.set_cons_succ, i64_w, i32_w]
                    rfl
                  refine one_ (i := 14) (N := some 91) #[Yy,Yy,Yy,Yy,Yy,Yy,Yy,Yy,Yy,Yy,Yy,Yy,Yy,Yy,Yy,Nn,Nn,Nn] rfl rfl (by kernel_rfl) (by decide) (fun K hK => ?_)
                  refine goes_ Tryz.func126 (by kernel_rfl) rfl #[.int .i64 p, .slice (some ad6) r'.length c6, .slice (some ⟨g, 0, none⟩) own.length cap, .int .i64 (nt r' q)] (by rfl) rfl rfl (by simp only [List.map_toArray, List.map_cons, List.map_nil]; rfl) ?_
                  with_reducible refine (l01Less_calls' p _ _ _ r' _ _ _ ow _ _ (Kd.C_drew hC6.out) (Kd.C_drew HSC.out) (by have := HK.out.2.2.2; have := HW.out.2.1; omega) (by omega) (by omega) HK.out.2.2.1 HOW.out.2.2 hbr (by have := HK.out.2.2.2; omega)).mono ?_
                  rintro e w2 ⟨v2, rfl, ho2, hb2⟩
                  refine ⟨_, rfl, ?_⟩
                  obtain ⟨A2, c2, rfl⟩ := Kd.R_slice ho2
                  replace ho2 := Aside0.mk ho2
                  replace hb2 := Aside0.mk hb2
                  refine hK.out _ _ ⟨(hb2.out.cell (World.block_lt_of_cell? _ _ hc5k)).trans hc5k, (hb2.out.cell (World.block_lt_of_cell? _ _ hc6q)).trans hc6q⟩ (fun hHeld => ?_)
                  clear hK K
                  refine norm_ (a' := ?_) ?_ ?_
                  rotate_left
                  · show Act.put _ (some 91) _ = _
                    simp only [Act.put, List.setIfInBounds_toArray, List.set_cons_zero, List.set_cons_succ, i64_w, i32_w]
                    rfl
                  refine one_ (i := 15) (N := some 92) #[Yy,Yy,Yy,Yy,Yy,Yy,Yy,Yy,Yy,Yy,Yy,Yy,Yy,Yy,Yy,Yy,Nn,Nn] rfl rfl (by kernel_rfl) (by decide) (fun K hK => ?_)
                  refine value_ (w1 := ?_) (v := ?_) (by rfl) rfl ?_ ?_
                  rotate_left 2
                  · go_simp
                    constructor
                    · rfl
                    · rfl
                  refine hK.out _ _ ⟨((below_alloc hb2.out _).cell (World.block_lt_of_cell? _ _ hc5k)).trans hc5k, ((below_alloc hb2.out _).cell (World.block_lt_of_cell? _ _ hc6q)).trans hc6q⟩ (fun hHeld => ?_)
                  clear hK K
                  refine norm_ (a' := ?_) ?_ ?_
                  rotate_left
                  · show Act.put _ (some 92) _ = _
                    simp only [Act.put, List.setIfInBounds_toArray, List.set_cons_zero, List.set_cons_succ, i64_w, i32_w]
                    rfl
                  refine last_ (i := 16) (N := some 93) #[Yy,Yy,Yy,Yy,Yy,Yy,Yy,Yy,Yy,Yy,Yy,Yy,Yy,Yy,Yy,Yy,Yy,Nn] rfl rfl (by kernel_rfl) (by decide) (fun K hK => ?_)
                  refine app_row_step (w0 := w) (by rfl) (.tmp 77) (.tmp 92) _ rfl Tryz.underlying41 infoR u11 _ _ (lessOf p r' ow (nt r' q)) rfl rfl (Kd.R_lower (Kd.R_mono (Kd.R_newR ho2.out (Kd.R_drew HN.out)) (fun _ h => h.2)) (below_drew1 HB2.out).size) (Kd.R_below (Kd.R_drew HN.out) hb2.out) (below_step (below_drew1 HB2.out) hb2.out) (by omega) ?_
                  intro u11 wM hn hb hg hat
                  have HS9 := Aside0.mk (R_next (Kd.R_below (Kd.R_drew HS.out) hb2.out) hg hat)
                  have HF9 := Aside0.mk (R_next (Kd.R_below (Kd.R_drew HF.out) hb2.out) hg hat)
                  replace HN := Aside0.mk hn
                  replace HB2 := Aside0.mk hb
                  replace HS := HS9
                  replace HF := HF9
                  clear hn hb hg hat HS9 HF9
                  refine hK.out _ _ ?_
                  clear hK K
                  refine norm_ (a' := ?_) ?_ ?_
                  rotate_left
                  · show Act.put _ (some 93) _ = _
                    simp only [Act.put, List.setIfInBounds_toArray, List.set_cons_zero, List.set_cons_succ, i64_w, i32_w]
                    rfl
                  refine pure_ (i := 17) (N := some 11) (v := ?_) (a' := ?_) #[Yy,Yy,Yy,Yy,Yy,Yy,Yy,Yy,Yy,Yy,Yy,Yy,Yy,Yy,Yy,Yy,Yy,Yy] rfl rfl (by kernel_rfl) (fun _ _ _ h => h) (Or.inl ⟨by rfl, ?_⟩) ?_ ?_
                  rotate_left
                  · intro w'
                    go_simp
                    with_reducible rfl
                  rotate_left
                  · simp only [Act.put, List.setIfInBounds_toArray, List.set_cons_zero, List.set_cons_succ, i64_w, i32_w]
                    rfl
                  refine done_ (by kernel_rfl) ?_
                  go_wp2
                  go_roundw
                  case rel => exact ⟨k + 1, _, _, by go_num, rfl, by omega, HFO2, HNL2, HN, HS, HF, HB2⟩
                  case measure => simp [intOf]; omega
              · have hfin : ∀ x, (out.take k).foldl (insSt p ow q) (false, []) = x → insRow p ow q out = if x.1 = true then x.2 else x.2 ++ [ow] := by
                  intro x hx
                  rw [List.take_of_length_le (by omega)] at hx
                  unfold insRow
                  rw [hx]
                have HFI := Aside0.mk (hfin _ HFO.out)
                have hend : echelon p (rows.take (i + 1)) = insRow p ow q out := by
                  rw [take_succ_ntR rows i hlt, echelon_snoc, ← HE.out, ← HX.out.1]
                  unfold echStep
                  rw [← HW.out.1, if_neg (by have := HQ.out.2.2.2; omega), ← HQ.out.2.2.1, ← HIV.out, ← HOW.out.1]
                have HEN := Aside0.mk hend
                clear hfin hend
                cases put
                · go_wp2_with ((at_builtin; go_must (refine app_row (w0 := w) rfl _ _ _ rfl Tryz.underlying41 infoR u11 next _ ow rfl rfl HS.out HN.out HB2.out (by omega) ?_); intro v1 w9 HO9 HB9 _ _; replace HO9 := Aside0.mk HO9; replace HB9 := Aside0.mk HB9))
                  go_roundw
                  case rel => exact ⟨i + 1, by go_num, by omega, ⟨by rw [HEN.out, HFI.out]; exact HO9.out⟩, HB9⟩
                  case measure => simp [intOf]; omega
                · go_wp2
                  go_roundw
                  case rel => exact ⟨i + 1, by go_num, by omega, ⟨by rw [HEN.out, HFI.out]; exact HN.out⟩, HB2⟩
                  case measure => simp [intOf]; omega
    · go_wp2
      go_ret
      exact ⟨_, rfl, by rw [show echelon p rows = out by rw [HE.out, List.take_of_length_le (by omega)]]; exact HO.out, HB.out⟩
end Go.Proofs.YtbenhcognapdpaaGreat
