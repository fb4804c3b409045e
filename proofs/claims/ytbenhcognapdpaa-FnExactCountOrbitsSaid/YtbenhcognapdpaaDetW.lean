/- Walks: determinants. -/
import Derived.Test.YtbenhcognapdpaaDetM
import Derived.Test.YtbenhcognapdpaaMatW2
import Derived.Test.YtbenhcognapdpaaSmallW
set_option linter.unusedVariables false
set_option linter.unusedSimpArgs false
namespace Go.Proofs.Ytbenhcognapdpaa
open Go.RowKit Go.Proofs.YtbenhcognapdpaaW.PrintWords Go.Proofs.YtbenhcognapdpaaW.PrintLast Lin

theorem detAt_calls (i j : Int) (hi : 0 ≤ i ∧ i < 3) (hj : 0 ≤ j ∧ j < 3) (m : List Int) (B : Nat) (w : World) (H : Blk w B 103 (mcells m)) (hm : IsM m) :
    Calls Try.prog 175 #[.int .i64 i, .int .i64 j, .pointer (some ⟨B, 0, none⟩)] w fun e w' => ∃ v, e = .returned (.int .i64 v) ∧ v = nt m (i.toNat * 3 + j.toNat) ∧ w = w' := by
  obtain ⟨a, rfl⟩ : ∃ a : Nat, i = a := ⟨i.toNat, by omega⟩
  obtain ⟨b, rfl⟩ : ∃ b : Nat, j = b := ⟨j.toNat, by omega⟩
  have hc := H.cell (a * 3 + b) (mcells_get m _ (by have := hm.1; omega))
  have hv := hm.nt (a * 3 + b)
  go_enter Try.func175, Try.ntmps175
  go_wp2
  go_ret
  exact ⟨_, rfl, by simp, rfl⟩

theorem mul_bd {a b : Int} (ha : 0 ≤ a ∧ a ≤ 255) (hb : 0 ≤ b ∧ b ≤ 255) : 0 ≤ a * b ∧ a * b ≤ 65025 :=
  ⟨Int.mul_nonneg ha.1 hb.1, Int.le_trans (Int.mul_le_mul ha.2 hb.2 hb.1 (by omega)) (by omega)⟩
theorem mul_bd2 {a b : Int} (ha : 0 ≤ a ∧ a ≤ 255) (hb : -65025 ≤ b ∧ b ≤ 65025) : -16581375 ≤ a * b ∧ a * b ≤ 16581375 := by
  constructor
  · have h : a * -65025 ≤ a * b := Int.mul_le_mul_of_nonneg_left hb.1 ha.1
    omega
  · have h : a * b ≤ a * 65025 := Int.mul_le_mul_of_nonneg_left hb.2 ha.1
    omega
set_option maxRecDepth 100000 in
set_option maxHeartbeats 1000000 in
theorem determinant_calls (p : Int) (n : Nat) (m : List Int) (w : World) (hp : 0 < p) (hp2 : p ≤ 256) (hn : 1 ≤ n) (hn3 : n ≤ 3) (hm : IsM m) :
    Calls Try.prog 153 #[.int .i64 p, .int .i64 n, .agg (mcells m)] w fun e w' => e = .returned (.int .i64 (detV n m % p)) ∧ Below w.heap.size w w' := by
  have HM := Aside0.mk hm
  have hp0 : (p == 0) = false := by rw [beq_eq_false_iff_ne]; omega
  have H1 := Blk.new w (mcells m) 103
  have b0 := hm.nt 0
  have b1 := hm.nt 1
  have b2 := hm.nt 2
  have b3 := hm.nt 3
  have b4 := hm.nt 4
  have b5 := hm.nt 5
  have b6 := hm.nt 6
  have b7 := hm.nt 7
  have b8 := hm.nt 8
  clear hm
  have HD : Aside0 (∀ X : Int, X = detV n m → (X.tmod p + p) % p = detV n m % p) := ⟨fun X h => by rw [tmod_mod hp, h]⟩
  have ht : ∀ X : Int, -p < X.tmod p ∧ X.tmod p < p := fun X => ⟨Int.lt_tmod_of_pos X hp, Int.tmod_lt_of_pos X hp⟩
  obtain rfl | rfl | rfl : n = 1 ∨ n = 2 ∨ n = 3 := by omega
  · have t1 := Int.emod_nonneg (nt m 0) (show p ≠ 0 by omega)
    have t2 := Int.emod_lt_of_pos (nt m 0) hp
    clear ht
    go_enter Try.func153, Try.ntmps153
    go_wp2_with ((go_at_call 175; refine (detAt_calls _ _ (by decide) (by decide) m _ _ H1 HM.out).mono ?_; rintro e w' ⟨v, rfl, hv, rfl⟩; simp at hv; subst hv))
    go_ret
    exact ⟨ret_i (by rw [Int.add_emod_right, Int.emod_emod]; rfl), below_alloc (Below.refl _ _) _⟩
  · have m1 := mul_bd b0 b4
    have m2 := mul_bd b1 b3
    have t := ht (nt m 0 * nt m 4 - nt m 1 * nt m 3)
    clear ht
    go_enter Try.func153, Try.ntmps153
    go_wp2_with ((go_at_call 175; refine (detAt_calls _ _ (by decide) (by decide) m _ _ H1 HM.out).mono ?_; rintro e w' ⟨v, rfl, hv, rfl⟩; simp at hv; subst hv))
    go_ret
    exact ⟨ret_i (HD.out _ rfl), below_alloc (Below.refl _ _) _⟩
  · have m1 := mul_bd b4 b8
    have m2 := mul_bd b5 b7
    have m3 := mul_bd b3 b8
    have m4 := mul_bd b5 b6
    have m5 := mul_bd b3 b7
    have m6 := mul_bd b4 b6
    have m7 := mul_bd2 b0 (show -65025 ≤ nt m 4 * nt m 8 - nt m 5 * nt m 7 ∧ _ by omega)
    have m8 := mul_bd2 b1 (show -65025 ≤ nt m 3 * nt m 8 - nt m 5 * nt m 6 ∧ _ by omega)
    have m9 := mul_bd2 b2 (show -65025 ≤ nt m 3 * nt m 7 - nt m 4 * nt m 6 ∧ _ by omega)
    have t := ht (nt m 0 * (nt m 4 * nt m 8 - nt m 5 * nt m 7) - nt m 1 * (nt m 3 * nt m 8 - nt m 5 * nt m 6) + nt m 2 * (nt m 3 * nt m 7 - nt m 4 * nt m 6))
    clear ht
    go_enter Try.func153, Try.ntmps153
    go_wp2_with ((go_at_call 175; refine (detAt_calls _ _ (by decide) (by decide) m _ _ H1 HM.out).mono ?_; rintro e w' ⟨v, rfl, hv, rfl⟩; simp at hv; subst hv))
    go_ret
    exact ⟨ret_i (HD.out _ rfl), below_alloc (Below.refl _ _) _⟩
end Go.Proofs.Ytbenhcognapdpaa
