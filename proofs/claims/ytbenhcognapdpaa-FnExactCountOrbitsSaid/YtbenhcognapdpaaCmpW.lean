/- Walk: slices.Compare at []int64. -/
import Derived.Test.YtbenhcognapdpaaSmallW2
set_option linter.unusedVariables false
set_option linter.unusedSimpArgs false
namespace Go.Proofs.Ytbenhcognapdpaa
open Go.RowKit Go.Proofs.YtbenhcognapdpaaW.PrintWords Go.Proofs.YtbenhcognapdpaaW.PrintLast Lin

set_option maxRecDepth 100000 in
set_option maxHeartbeats 1000000 in
theorem slCompare_calls (A : Option Addr) (n c : Nat) (a : List Int) (A' : Option Addr) (n' c' : Nat) (b : List Int) (w : World) (hr : kI.C w A n a) (hr' : kI.C w A' n' b) :
    Calls Try.prog 91 #[.slice A n c, .slice A' n' c'] w fun e w' => e = .returned (.int .i64 (cmpL a b)) ∧ w = w' := by
  obtain rfl := Kd.C_len hr
  obtain rfl := Kd.C_len hr'
  have hm := Kd.C_max hr
  have hm' := Kd.C_max hr'
  have HR := Aside0.mk hr
  have HR' := Aside0.mk hr'
  clear hr hr'
  go_enter Try.func91, Try.ntmps91
  go_wp2
  go_loopw [11] (fun v wr => ∃ k : Nat, v = .int .i64 k ∧ k ≤ a.length ∧ k ≤ b.length ∧ Aside0 (∀ j < k, nt a j = nt b j) ∧ wr = w) (fun v _ => a.length - (intOf v).toNat)
  case atStart => exact ⟨0, rfl, by omega, by omega, ⟨fun j hj => by omega⟩, rfl⟩
  case round =>
    obtain ⟨k, rfl, hk, hk', HZ, rfl⟩ := hrel
    by_cases hlt : k < a.length
    · obtain ⟨ad, rfl, hc⟩ := at_nt HR.out k hlt
      by_cases hlt' : k < b.length
      · obtain ⟨ad', rfl, hc'⟩ := at_nt HR'.out k hlt'
        rcases Int.lt_trichotomy (nt a k) (nt b k) with h | h | h
        · have hci : cmpI (nt a k) (nt b k) = -1 := by unfold cmpI; rw [if_pos h]
          have HN : Aside0 (cmpL a b = -1) := ⟨cmpL_lt hlt hlt' HZ.out h⟩
          clear h
          go_wp2_with ((go_at_call 129; refine (cmpI_calls _ _ _).mono ?_; rw [hci]; rintro e w' ⟨rfl, rfl⟩))
          go_ret
          exact ⟨ret_i HN.out.symm, rfl⟩
        · have hci : cmpI (nt a k) (nt b k) = 0 := by unfold cmpI; rw [if_neg (by omega), if_neg (by omega)]
          have HN : Aside0 (∀ j < k + 1, nt a j = nt b j) := ⟨fun j hj => by rcases Nat.lt_succ_iff_lt_or_eq.1 hj with h' | h'; exact HZ.out j h'; subst h'; exact h⟩
          clear h
          go_wp2_with ((go_at_call 129; refine (cmpI_calls _ _ _).mono ?_; rw [hci]; rintro e w' ⟨rfl, rfl⟩))
          go_roundw
          case rel => exact ⟨k + 1, by go_num, by omega, by omega, HN, trivial⟩
          case measure => simp [intOf]; omega
        · have hci : cmpI (nt a k) (nt b k) = 1 := by unfold cmpI; rw [if_neg (by omega), if_pos h]
          have HN : Aside0 (cmpL a b = 1) := ⟨cmpL_gt hlt hlt' HZ.out h⟩
          clear h
          go_wp2_with ((go_at_call 129; refine (cmpI_calls _ _ _).mono ?_; rw [hci]; rintro e w' ⟨rfl, rfl⟩))
          go_ret
          exact ⟨ret_i HN.out.symm, rfl⟩
      · have HN : Aside0 (cmpL a b = 1) := ⟨cmpL_out (by omega) (fun j hj => HZ.out j (by omega))⟩
        go_wp2
        go_ret
        exact ⟨ret_i HN.out.symm, rfl⟩
    · have HN : Aside0 (cmpL a b = if a.length < b.length then -1 else 0) := ⟨cmpL_end (by omega) (fun j hj => HZ.out j (by omega))⟩
      by_cases hl : a.length < b.length
      · go_wp2
        go_ret
        exact ⟨ret_i (by rw [HN.out, if_pos hl]), rfl⟩
      · go_wp2
        go_ret
        exact ⟨ret_i (by rw [HN.out, if_neg hl]), rfl⟩
end Go.Proofs.Ytbenhcognapdpaa
