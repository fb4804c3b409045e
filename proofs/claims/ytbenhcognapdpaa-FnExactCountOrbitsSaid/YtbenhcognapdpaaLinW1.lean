/- Walks: the specification's functions on rows of numbers. -/
import Derived.Test.YtbenhcognapdpaaBase
import Derived.Test.YtbenhcognapdpaaLinM
set_option linter.unusedVariables false
set_option linter.unusedSimpArgs false
namespace Go.Proofs.Ytbenhcognapdpaa
open Go.RowKit Go.Proofs.YtbenhcognapdpaaW.PrintWords Go.Proofs.YtbenhcognapdpaaW.PrintLast Lin

set_option maxHeartbeats 400000 in
theorem l01Lead_calls (A : Option Addr) (c : Nat) (l : List Int) (w : World) (hr : kI.C w A l.length l) :
    Calls Try.prog 141 #[.slice A l.length c] w fun e w' => e = .returned (.int .i64 (lead l)) ∧ Drawn0 w w' := by
  have hm := Kd.C_max hr
  have HR := Aside0.mk hr
  clear hr
  go_enter Try.func141, Try.ntmps141
  go_wp2
  go_loopw [3] (fun v wr => ∃ k : Nat, v = .int .i64 k ∧ k ≤ l.length ∧ Aside0 (∀ j < k, nt l j = 0) ∧ Drawn0 w wr) (fun v _ => l.length - (intOf v).toNat)
  case atStart => exact ⟨0, rfl, by omega, ⟨fun j hj => by omega⟩, Drawn0.refl _⟩
  case round =>
    obtain ⟨k, rfl, hk, HZ, ⟨m, rfl⟩⟩ := hrel
    by_cases hlt : k < l.length
    · obtain ⟨ad, rfl, hc⟩ := at_nt HR.out k hlt
      by_cases h0 : nt l k = 0
      · have hb : (nt l k != 0) = false := by simp [h0]
        have HN := Aside0.mk h0
        clear h0
        go_wp2
        go_roundw
        case rel => exact ⟨k + 1, by go_num, by omega, ⟨fun j hj => by rcases Nat.lt_succ_iff_lt_or_eq.1 hj with h | h; exact HZ.out j h; subst h; exact HN.out⟩, by repeat (first | exact Drawn0.refl _ | apply Drawn0.step)⟩
        case measure => simp [intOf]; omega
      · have hb : (nt l k != 0) = true := by simpa using h0
        have HN := Aside0.mk h0
        clear h0
        go_wp2
        go_ret
        exact ⟨ret_i (lead_eq l k hlt HZ.out HN.out).symm, by repeat (first | exact Drawn0.refl _ | apply Drawn0.step)⟩
    · have hlt' : k = l.length := by omega
      have HE := Aside0.mk hlt'
      clear hlt'
      go_wp2
      go_ret
      exact ⟨ret_i (lead_none l (by rw [← HE.out]; exact HZ.out)).symm, by repeat (first | exact Drawn0.refl _ | apply Drawn0.step)⟩

theorem l01Mod_calls (p x : Int) (w : World) (hp : 0 < p) (hp2 : p ≤ 1000000) :
    Calls Try.prog 106 #[.int .i64 p, .int .i64 x] w fun e w' => e = .returned (.int .i64 (x % p)) ∧ w = w' := by
  have h0 : (p == 0) = false := by rw [beq_eq_false_iff_ne]; omega
  have h1 := Int.lt_tmod_of_pos x hp
  have h2 := Int.tmod_lt_of_pos x hp
  go_enter Try.func106, Try.ntmps106
  go_wp2
  go_ret
  exact ⟨ret_i (tmod_mod hp), rfl⟩

theorem invGo_step {p x : Int} {n : Nat} {k : Int} (h : ¬ k * x % p = 1) : invGo p x (n + 1) k = invGo p x n (k + 1) := by
  simp [invGo, h]
theorem invGo_hit {p x : Int} {n : Nat} {k : Int} (h : k * x % p = 1) : invGo p x (n + 1) k = k := by
  simp [invGo, h]

set_option maxHeartbeats 400000 in
theorem l01Inverse_calls (p x : Int) (w : World) (hp : 0 < p) (hp2 : p ≤ 1000) :
    Calls Try.prog 168 #[.int .i64 p, .int .i64 x] w fun e w' => e = .returned (.int .i64 (invOf p x)) ∧ Drawn0 w w' := by
  have hm1 := Int.emod_nonneg x (show p ≠ 0 by omega)
  have hm2 := Int.emod_lt_of_pos x hp
  obtain ⟨y, hy⟩ : ∃ y, y = x % p := ⟨_, rfl⟩
  rw [← hy] at hm1 hm2
  have HY := Aside0.mk hy
  clear hy
  have hp0 : (p == 0) = false := by rw [beq_eq_false_iff_ne]; omega
  go_enter Try.func168, Try.ntmps168
  go_wp2
  go_loopw [5] (fun v wr => ∃ k : Nat, v = .int .i64 k ∧ 1 ≤ k ∧ (k : Int) ≤ p ∧ Aside0 (invOf p x = invGo p y (p.toNat - k) k) ∧ Drawn0 w wr) (fun v _ => p.toNat - (intOf v).toNat)
  case atStart => exact ⟨1, rfl, by omega, by omega, ⟨by rw [HY.out]; rfl⟩, Drawn0.refl _⟩
  case round =>
    obtain ⟨k, rfl, hk1, hk, HZ, ⟨m, rfl⟩⟩ := hrel
    by_cases hlt : (k : Int) < p
    · have hb1 : (k : Int) * y ≤ 1000 * 1000 := Int.mul_le_mul (by omega) (by omega) (by omega) (by omega)
      have hb2 : 0 ≤ (k : Int) * y := Int.mul_nonneg (by omega) (by omega)
      obtain ⟨n, hn⟩ : ∃ n, p.toNat - k = n + 1 := ⟨p.toNat - k - 1, by omega⟩
      have HN := Aside0.mk hn
      clear hn
      by_cases h0 : (k : Int) * y % p = 1
      · have hb : ((k : Int) * y % p == 1) = true := by rw [beq_iff_eq]; exact h0
        have H0 := Aside0.mk h0
        clear h0
        go_wp2_with ((go_at_call 106; refine (l01Mod_calls _ _ _ (by omega) (by omega)).mono ?_; rw [← HY.out]; rintro e w' ⟨rfl, rfl⟩))
        go_ret
        exact ⟨ret_i (by rw [HZ.out, HN.out, invGo_hit H0.out]), (by repeat (first | exact Drawn0.refl _ | apply Drawn0.step))⟩
      · have hb : ((k : Int) * y % p == 1) = false := by rw [beq_eq_false_iff_ne]; exact h0
        have H0 := Aside0.mk h0
        clear h0
        go_wp2_with ((go_at_call 106; refine (l01Mod_calls _ _ _ (by omega) (by omega)).mono ?_; rw [← HY.out]; rintro e w' ⟨rfl, rfl⟩))
        go_roundw
        case rel => exact ⟨k + 1, by go_num, by omega, by omega, ⟨by rw [HZ.out, HN.out, invGo_step H0.out, show p.toNat - (k + 1) = n by have := HN.out; omega]; rfl⟩, (by repeat (first | exact Drawn0.refl _ | apply Drawn0.step))⟩
        case measure => simp [intOf]; omega
    · go_wp2
      go_ret
      exact ⟨ret_i (by rw [HZ.out, show p.toNat - k = 0 by omega]; rfl), (by repeat (first | exact Drawn0.refl _ | apply Drawn0.step))⟩
end Go.Proofs.Ytbenhcognapdpaa
