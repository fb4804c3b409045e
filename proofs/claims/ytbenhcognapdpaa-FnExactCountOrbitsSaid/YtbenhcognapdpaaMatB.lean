/- Walks: what a matrix is. -/
import Derived.Test.YtbenhcognapdpaaDetM2
import Derived.Test.YtbenhcognapdpaaDetW
import Derived.Test.YtbenhcognapdpaaMatW3
import Derived.Test.YtbenhcognapdpaaCells
set_option linter.unusedVariables false
set_option linter.unusedSimpArgs false
namespace Go.Proofs.Ytbenhcognapdpaa
open Go.RowKit Go.Proofs.YtbenhcognapdpaaW.PrintWords Go.Proofs.YtbenhcognapdpaaW.PrintLast Lin

/-- What both programs take for a matrix. -/
def matB (p n : Int) (m : List Int) : Bool := primeB p && varsB n && (decide (EntOk p n.toNat m) && decide (detV n.toNat m % p ≠ 0))
def EOk (p : Int) (n : Nat) (m : List Int) (a b : Nat) : Prop := nt m (a * 3 + b) < p ∧ (n ≤ a ∨ n ≤ b → nt m (a * 3 + b) = 0)
def EUp (p : Int) (n : Nat) (m : List Int) (i j : Nat) : Prop := ∀ a b, a < 3 → b < 3 → (a < i ∨ a = i ∧ b < j) → EOk p n m a b
theorem EUp.step {p : Int} {n : Nat} {m : List Int} {i j : Nat} (h : EUp p n m i j) (h1 : EOk p n m i j) : EUp p n m i (j + 1) := by
  intro a b ha hb hab
  by_cases he : a = i ∧ b = j
  · obtain ⟨rfl, rfl⟩ := he; exact h1
  · exact h a b ha hb (by omega)
theorem EUp.next {p : Int} {n : Nat} {m : List Int} {i : Nat} (h : EUp p n m i 3) : EUp p n m (i + 1) 0 := fun a b ha hb hab => h a b ha hb (by omega)
theorem EUp.done {p : Int} {n : Nat} {m : List Int} (h : EUp p n m 3 0) : EntOk p n m := fun a ha b hb => h a b ha hb (by omega)
theorem matB_bad {p : Int} {n : Nat} {m : List Int} {i j : Nat} (hi : i < 3) (hj : j < 3) (h : ¬ EOk p n m i j) : matB p n m = false := by
  have : ¬ EntOk p n m := fun hh => h (hh i hi j hj)
  simp [matB, this]
theorem matB_ok {p : Int} {n : Nat} {m : List Int} (hp : IsP p) (hn : varsB n = true) (h : EntOk p n m) : matB p n m = decide (detV n m % p ≠ 0) := by
  have e : primeB p = true := primeB_iff.2 hp
  simp [matB, e, hn, h]
theorem matB_true {p : Int} {n : Nat} {m : List Int} (h : matB p n m = true) : IsP p ∧ 1 ≤ n ∧ n ≤ 3 ∧ EntOk p n m ∧ detV n m % p ≠ 0 := by
  simp only [matB, Bool.and_eq_true, decide_eq_true_iff, Int.toNat_natCast, primeB_iff, varsB] at h
  exact ⟨h.1.1, by omega, by omega, h.2⟩

theorem bne_dec (x : Int) : (x != 0) = decide (x ≠ 0) := by rw [Bool.eq_iff_iff]; simp
set_option maxRecDepth 100000 in
set_option maxHeartbeats 1000000 in
theorem IsMatrix_calls (p n : Int) (m : List Int) (w : World) (hm : IsM m) :
    Calls Try.prog 131 #[.int .i64 p, .int .i64 n, .agg (mcells m)] w fun e w' => e = .returned (.bool (matB p n m)) ∧ Below w.heap.size w w' := by
  have HM := Aside0.mk hm
  clear hm
  cases hpb : primeB p
  · have HN : Aside0 (matB p n m = false) := ⟨by simp [matB, hpb]⟩
    go_enter Try.func131, Try.ntmps131
    go_wp2_with ((go_at_call 72; refine (isPrime_calls p _).mono ?_; rw [hpb]; rintro e w' ⟨rfl, rfl⟩))
    go_ret
    exact ⟨ret_b HN.out.symm, below_alloc (Below.refl _ _) _⟩
  cases hvb : varsB n
  · have HN : Aside0 (matB p n m = false) := ⟨by simp [matB, hvb]⟩
    go_enter Try.func131, Try.ntmps131
    go_wp2_with (first
      | (go_at_call 72; refine (isPrime_calls p _).mono ?_; rw [hpb]; rintro e w' ⟨rfl, rfl⟩)
      | (go_at_call 73; refine (isVars_calls n _).mono ?_; rw [hvb]; rintro e w' ⟨rfl, rfl⟩))
    go_ret
    exact ⟨ret_b HN.out.symm, below_alloc (Below.refl _ _) _⟩
  have hP := primeB_iff.1 hpb
  have hpp := hP.pos
  have hvv : 1 ≤ n ∧ n ≤ 3 := of_decide_eq_true hvb
  obtain ⟨n, rfl⟩ : ∃ k : Nat, n = k := ⟨n.toNat, by omega⟩
  go_enter Try.func131, Try.ntmps131
  go_wp2_with (first
    | (go_at_call 72; refine (isPrime_calls p _).mono ?_; rw [hpb]; rintro e w' ⟨rfl, rfl⟩)
    | (go_at_call 73; refine (isVars_calls n _).mono ?_; rw [hvb]; rintro e w' ⟨rfl, rfl⟩))
  go_loopw [17] (fun v wr => ∃ i : Nat, v = .int .i64 i ∧ i ≤ 3 ∧ Aside0 (EUp p n m i 0) ∧ Blk wr w.heap.size 103 (mcells m) ∧ Aside0 (Below w.heap.size w wr)) (fun v _ => 3 - (intOf v).toNat)
  case atStart => exact ⟨0, rfl, by omega, ⟨fun a b _ _ h => by omega⟩, Blk.new _ _ _, ⟨below_alloc (Below.refl _ _) _⟩⟩
  case round =>
    obtain ⟨i, rfl, hi, HE, H1, HB⟩ := hrel
    by_cases hlt : i < 3
    · have hd3 : decide ((i : Int) < 3) = true := decide_eq_true (by omega)
      go_wp2
      obtain ⟨wo, rfl⟩ : ∃ wo, wo = wr := ⟨_, rfl⟩
      go_loopw [20] (fun v wr => ∃ j : Nat, v = .int .i64 j ∧ j ≤ 3 ∧ Aside0 (EUp p n m i j) ∧ Blk wr w.heap.size 103 (mcells m) ∧ Aside0 (Below w.heap.size w wr)) (fun v _ => 3 - (intOf v).toNat)
      case atStart => exact ⟨0, rfl, by omega, HE, H1, HB⟩
      case round =>
        clear HE H1 HB
        obtain ⟨j, rfl, hj, HE, H1, HB⟩ := hrel
        by_cases hjl : j < 3
        · have hc := H1.cell (i * 3 + j) (mcells_get m _ (by have := HM.out.1; omega))
          have hv := HM.out.nt (i * 3 + j)
          have hcs : (p ≤ nt m (i * 3 + j) ∨ (nt m (i * 3 + j) < p ∧ n ≤ i ∧ nt m (i * 3 + j) ≠ 0) ∨ (nt m (i * 3 + j) < p ∧ i < n ∧ n ≤ j ∧ nt m (i * 3 + j) ≠ 0)) ∨
              ((nt m (i * 3 + j) < p ∧ n ≤ i ∧ nt m (i * 3 + j) = 0) ∨ (nt m (i * 3 + j) < p ∧ i < n ∧ n ≤ j ∧ nt m (i * 3 + j) = 0) ∨ (nt m (i * 3 + j) < p ∧ i < n ∧ j < n)) := by omega
          rcases hcs with hcs | hcs
          · have HN : Aside0 (matB p n m = false) := ⟨matB_bad hlt hjl (fun h => by unfold EOk at h; omega)⟩
            rcases hcs with h1 | ⟨h1, h2, h3⟩ | ⟨h1, h2, h3, h4⟩
            · go_wp2
              go_ret
              exact ⟨ret_b HN.out.symm, HB.out⟩
            · have hb : (nt m (i * 3 + j) != 0) = true := by simpa using h3
              clear h3
              go_wp2
              go_ret
              exact ⟨ret_b HN.out.symm, HB.out⟩
            · have hb : (nt m (i * 3 + j) != 0) = true := by simpa using h4
              clear h4
              go_wp2
              go_ret
              exact ⟨ret_b HN.out.symm, HB.out⟩
          · have HN : Aside0 (EUp p n m i (j + 1)) := ⟨HE.out.step ⟨by omega, by omega⟩⟩
            rcases hcs with ⟨h1, h2, h3⟩ | ⟨h1, h2, h3, h4⟩ | ⟨h1, h2, h3⟩
            · have hb : (nt m (i * 3 + j) != 0) = false := by simp [h3]
              clear h3
              go_wp2
              go_roundw
              case rel => exact ⟨j + 1, by go_num, by omega, HN, H1, HB⟩
              case measure => simp [intOf]; omega
            · have hb : (nt m (i * 3 + j) != 0) = false := by simp [h4]
              clear h4
              go_wp2
              go_roundw
              case rel => exact ⟨j + 1, by go_num, by omega, HN, H1, HB⟩
              case measure => simp [intOf]; omega
            · go_wp2
              go_roundw
              case rel => exact ⟨j + 1, by go_num, by omega, HN, H1, HB⟩
              case measure => simp [intOf]; omega
        · obtain rfl : j = 3 := by omega
          have HN : Aside0 (EUp p n m (i + 1) 0) := ⟨HE.out.next⟩
          go_wp2
          go_roundw
          case rel => exact ⟨i + 1, by go_num, by omega, HN, H1, HB⟩
          case measure => simp [intOf]; omega
    · obtain rfl : i = 3 := by omega
      have HN : Aside0 (matB p n m = decide (detV n m % p ≠ 0)) := ⟨matB_ok hP hvb HE.out.done⟩
      go_wp2_with (first
        | (refine load_blk rfl _ 5 rfl H1 rfl _ Try.underlying103 rfl (sizeM_of HM.out.1) ?_)
        | (go_at_call 153; refine (determinant_calls p n m _ (by omega) (by omega) (by omega) (by omega) HM.out).mono ?_; rintro e w' ⟨rfl, hb⟩; have HB2 := Aside0.mk hb; clear hb))
      go_ret
      exact ⟨ret_b ((bne_dec _).trans HN.out.symm), below_step HB.out HB2.out⟩

def areB (p n : Int) (l : List (List Int)) : Bool := l.all (matB p n) && (primeB p && varsB n)
theorem areB_bad {p n : Int} {l : List (List Int)} {k : Nat} (hk : k < l.length) {m : List Int} (hm : m = ntR l k) (h : matB p n m = false) : areB p n l = false := by
  have : l.all (matB p n) = false := by
    rw [List.all_eq_false]
    exact ⟨m, by rw [hm]; exact ntR_mem l k hk, by simp [h]⟩
  simp [areB, this]
theorem areB_ok {p n : Int} {l : List (List Int)} (h : ∀ k < l.length, matB p n (ntR l k) = true) : areB p n l = (primeB p && varsB n) := by
  have : l.all (matB p n) = true := by
    rw [List.all_eq_true]
    intro x hx
    obtain ⟨k, hk, rfl⟩ := List.mem_iff_getElem.1 hx
    rw [← ntR_eq l k hk]
    exact h k hk
  simp [areB, this]

set_option maxRecDepth 100000 in
set_option maxHeartbeats 1000000 in
theorem areMatrices_calls (p n : Int) (A : Option Addr) (k c : Nat) (l : List (List Int)) (w : World) (hr : kM.C w A k l) (hl : ∀ m ∈ l, IsM m) :
    Calls Try.prog 95 #[.int .i64 p, .int .i64 n, .slice A k c] w fun e w' => e = .returned (.bool (areB p n l)) ∧ Below w.heap.size w w' := by
  obtain rfl := Kd.C_len hr
  have hmx := Kd.C_max hr
  have HR := Aside0.mk hr
  have HL := Aside0.mk hl
  clear hr hl
  go_enter Try.func95, Try.ntmps95
  go_wp2
  go_loopw [11] (fun v wr => ∃ i : Nat, v = .int .i64 i ∧ i ≤ l.length ∧ Aside0 (∀ j < i, matB p n (ntR l j) = true) ∧ Aside0 (Below w.heap.size w wr)) (fun v _ => l.length - (intOf v).toNat)
  case atStart => exact ⟨0, rfl, by omega, ⟨fun j hj => by omega⟩, ⟨Below.refl _ _⟩⟩
  case round =>
    obtain ⟨i, rfl, hi, HE, HB⟩ := hrel
    by_cases hlt : i < l.length
    · obtain ⟨ad, m, hmm, rfl, hm9, hc⟩ := mat_at HR.out i hlt
      have HM : Aside0 (IsM m) := ⟨HL.out m (hmm ▸ ntR_mem l i hlt)⟩
      have HC := Aside0.mk (hc.below HB.out)
      have HMM := Aside0.mk hmm
      clear hmm hc
      cases hmb : matB p n m
      · have HN : Aside0 (areB p n l = false) := ⟨areB_bad hlt HMM.out hmb⟩
        have Hz := Blk.new wr (mcells [0, 0, 0, 0, 0, 0, 0, 0, 0]) 103
        have H1 := Hz.setRow (mcells m)
        go_wp2_with (first
          | (refine store_blk rfl _ 8 _ rfl Hz rfl rfl (sizeM_of hm9) (by rw [mcells_size, mcells_size, hm9]; rfl) (mcells_one _) ?_)
          | (refine load_agg rfl _ 13 rfl (ad.add (i * 9)) HC.out rfl _ Try.underlying103 rfl (sizeM_of hm9) ?_)
          | (refine load_blk rfl _ 8 rfl H1 rfl _ Try.underlying103 rfl (sizeM_of hm9) ?_)
          | (go_at_call 131; refine (IsMatrix_calls p n m _ HM.out).mono ?_; rw [hmb]; rintro e w' ⟨rfl, hb⟩; have HB2 := Aside0.mk hb; clear hb))
        go_ret
        exact ⟨ret_b HN.out.symm, below_step (below_setRow (below_alloc HB.out _) HB.out.size _) HB2.out⟩
      · have HN : Aside0 (∀ j < i + 1, matB p n (ntR l j) = true) := ⟨fun j hj => by rcases Nat.lt_succ_iff_lt_or_eq.1 hj with h | h; exact HE.out j h; subst h; rw [← HMM.out]; exact hmb⟩
        have Hz := Blk.new wr (mcells [0, 0, 0, 0, 0, 0, 0, 0, 0]) 103
        have H1 := Hz.setRow (mcells m)
        go_wp2_with (first
          | (refine store_blk rfl _ 8 _ rfl Hz rfl rfl (sizeM_of hm9) (by rw [mcells_size, mcells_size, hm9]; rfl) (mcells_one _) ?_)
          | (refine load_agg rfl _ 13 rfl (ad.add (i * 9)) HC.out rfl _ Try.underlying103 rfl (sizeM_of hm9) ?_)
          | (refine load_blk rfl _ 8 rfl H1 rfl _ Try.underlying103 rfl (sizeM_of hm9) ?_)
          | (go_at_call 131; refine (IsMatrix_calls p n m _ HM.out).mono ?_; rw [hmb]; rintro e w' ⟨rfl, hb⟩; have HB2 := Aside0.mk hb; clear hb))
        go_roundw
        case rel => exact ⟨i + 1, by go_num, by omega, HN, ⟨below_step (below_setRow (below_alloc HB.out _) HB.out.size _) HB2.out⟩⟩
        case measure => simp [intOf]; omega
    · have HN : Aside0 (areB p n l = (primeB p && varsB n)) := ⟨areB_ok fun k hk => HE.out k (by omega)⟩
      cases hpb : primeB p
      · go_wp2_with ((go_at_call 72; refine (isPrime_calls p _).mono ?_; rw [hpb]; rintro e w' ⟨rfl, rfl⟩))
        go_ret
        exact ⟨ret_b (by rw [HN.out, hpb]; rfl), HB.out⟩
      · cases hvb : varsB n
        all_goals
          go_wp2_with (first
            | (go_at_call 72; refine (isPrime_calls p _).mono ?_; rw [hpb]; rintro e w' ⟨rfl, rfl⟩)
            | (go_at_call 73; refine (isVars_calls n _).mono ?_; rw [hvb]; rintro e w' ⟨rfl, rfl⟩))
          go_ret
          exact ⟨ret_b (by rw [HN.out, hpb, hvb]; rfl), HB.out⟩
end Go.Proofs.Ytbenhcognapdpaa
