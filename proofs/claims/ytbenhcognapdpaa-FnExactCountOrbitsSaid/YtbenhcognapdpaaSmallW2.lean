/- Walks: rows held against rows. -/
import Derived.Test.YtbenhcognapdpaaSmallW
set_option linter.unusedVariables false
set_option linter.unusedSimpArgs false
namespace Go.Proofs.Ytbenhcognapdpaa
open Go.RowKit Go.Proofs.YtbenhcognapdpaaW.PrintWords Go.Proofs.YtbenhcognapdpaaW.PrintLast Lin

set_option maxRecDepth 100000 in
set_option maxHeartbeats 400000 in
theorem l09Same_calls (A : Option Addr) (n c : Nat) (a : List Int) (A' : Option Addr) (n' c' : Nat) (b : List Int) (w : World) (hr : kI.C w A n a) (hr' : kI.C w A' n' b) (hn : n = n') :
    Calls Try.prog 39 #[.slice A n c, .slice A' n' c'] w fun e w' => e = .returned (.bool (sameB a b)) ∧ Drawn0 w w' := by
  obtain rfl := Kd.C_len hr
  obtain rfl := Kd.C_len hr'
  have hm := Kd.C_max hr
  have HR := Aside0.mk hr
  have HR' := Aside0.mk hr'
  have HL := Aside0.mk hn
  clear hr hr' hn
  go_enter Try.func39, Try.ntmps39
  go_wp2
  go_loopw [5] (fun v wr => ∃ k : Nat, v = .int .i64 k ∧ k ≤ a.length ∧ Aside0 (∀ j < k, nt a j = nt b j) ∧ Drawn0 w wr) (fun v _ => a.length - (intOf v).toNat)
  case atStart => exact ⟨0, rfl, by omega, ⟨fun j hj => by omega⟩, Drawn0.refl _⟩
  case round =>
    obtain ⟨k, rfl, hk, HZ, ⟨m, rfl⟩⟩ := hrel
    by_cases hlt : k < a.length
    · have hlt' : k < b.length := by have := HL.out; omega
      obtain ⟨ad, rfl, hc⟩ := at_nt HR.out k hlt
      obtain ⟨ad', rfl, hc'⟩ := at_nt HR'.out k hlt'
      by_cases h0 : nt a k = nt b k
      · have hb : (nt a k != nt b k) = false := by simp [h0]
        have HN := Aside0.mk h0
        clear h0
        go_wp2
        go_quiet (fail)
        go_wp2
        go_roundw
        case rel => exact ⟨k + 1, by go_num, by omega, ⟨fun j hj => by rcases Nat.lt_succ_iff_lt_or_eq.1 hj with h | h; exact HZ.out j h; subst h; exact HN.out⟩, (by repeat (first | exact Drawn0.refl _ | apply Drawn0.step))⟩
        case measure => simp [intOf]; omega
      · have hb : (nt a k != nt b k) = true := by simpa using h0
        have HN := Aside0.mk (sameB_false HL.out hlt h0)
        clear h0
        go_wp2
        go_quiet (fail)
        go_wp2
        go_ret
        exact ⟨ret_b HN.out.symm, (by repeat (first | exact Drawn0.refl _ | apply Drawn0.step))⟩
    · have HE := Aside0.mk (show k = a.length by omega)
      go_wp2
      go_ret
      exact ⟨ret_b (sameB_true HL.out (fun j hj => HZ.out j (by rw [HE.out]; exact hj))).symm, (by repeat (first | exact Drawn0.refl _ | apply Drawn0.step))⟩

set_option maxRecDepth 100000 in
set_option maxHeartbeats 400000 in
theorem equal_calls (A : Option Addr) (n c : Nat) (a : List Int) (A' : Option Addr) (n' c' : Nat) (b : List Int) (w : World) (hr : kI.C w A n a) (hr' : kI.C w A' n' b) :
    Calls Try.prog 44 #[.slice A n c, .slice A' n' c'] w fun e w' => e = .returned (.bool (sameB a b)) ∧ Drawn0 w w' := by
  obtain rfl := Kd.C_len hr
  obtain rfl := Kd.C_len hr'
  have hm := Kd.C_max hr
  have HR := Aside0.mk hr
  have HR' := Aside0.mk hr'
  clear hr hr'
  by_cases hn : a.length = b.length
  · have hnb : ((a.length : Int) != (b.length : Int)) = false := by rw [bne_eq_false_iff_eq]; omega
    have HL := Aside0.mk hn
    clear hn
    go_enter Try.func44, Try.ntmps44
    go_wp2
    go_loopw [13] (fun v wr => ∃ k : Nat, v = .int .i64 k ∧ k ≤ a.length ∧ Aside0 (∀ j < k, nt a j = nt b j) ∧ Drawn0 w wr) (fun v _ => a.length - (intOf v).toNat)
    case atStart => exact ⟨0, rfl, by omega, ⟨fun j hj => by omega⟩, Drawn0.refl _⟩
    case round =>
      obtain ⟨k, rfl, hk, HZ, ⟨m, rfl⟩⟩ := hrel
      by_cases hlt : k < a.length
      · have hlt' : k < b.length := by have := HL.out; omega
        obtain ⟨ad, rfl, hc⟩ := at_nt HR.out k hlt
        obtain ⟨ad', rfl, hc'⟩ := at_nt HR'.out k hlt'
        by_cases h0 : nt a k = nt b k
        · have hb : (nt a k != nt b k) = false := by simp [h0]
          have HN := Aside0.mk h0
          clear h0
          go_wp2
          go_quiet (fail)
          go_wp2
          go_roundw
          case rel => exact ⟨k + 1, by go_num, by omega, ⟨fun j hj => by rcases Nat.lt_succ_iff_lt_or_eq.1 hj with h | h; exact HZ.out j h; subst h; exact HN.out⟩, (by repeat (first | exact Drawn0.refl _ | apply Drawn0.step))⟩
          case measure => simp [intOf]; omega
        · have hb : (nt a k != nt b k) = true := by simpa using h0
          have HN := Aside0.mk (sameB_false HL.out hlt h0)
          clear h0
          go_wp2
          go_quiet (fail)
          go_wp2
          go_ret
          exact ⟨ret_b HN.out.symm, (by repeat (first | exact Drawn0.refl _ | apply Drawn0.step))⟩
      · have HE := Aside0.mk (show k = a.length by omega)
        go_wp2
        go_ret
        exact ⟨ret_b (sameB_true HL.out (fun j hj => HZ.out j (by rw [HE.out]; exact hj))).symm, (by repeat (first | exact Drawn0.refl _ | apply Drawn0.step))⟩
  · have hnb : ((a.length : Int) != (b.length : Int)) = true := by rw [bne_iff_ne]; omega
    have HS := Aside0.mk (show sameB a b = false from decide_eq_false (fun e => hn (by rw [e])))
    clear hn
    go_enter Try.func44, Try.ntmps44
    go_wp2
    go_ret
    exact ⟨ret_b HS.out.symm, (by repeat (first | exact Drawn0.refl _ | apply Drawn0.step))⟩

set_option maxRecDepth 100000 in
set_option maxHeartbeats 400000 in
theorem l02Compare_calls (A : Option Addr) (n c : Nat) (a : List Int) (A' : Option Addr) (n' c' : Nat) (b : List Int) (w : World) (hr : kI.C w A n a) (hr' : kI.C w A' n' b) (hn : n = n') :
    Calls Try.prog 124 #[.slice A n c, .slice A' n' c'] w fun e w' => e = .returned (.int .i64 (cmpL a b)) ∧ Drawn0 w w' := by
  obtain rfl := Kd.C_len hr
  obtain rfl := Kd.C_len hr'
  have hm := Kd.C_max hr
  have HR := Aside0.mk hr
  have HR' := Aside0.mk hr'
  have HL := Aside0.mk hn
  clear hr hr' hn
  go_enter Try.func124, Try.ntmps124
  go_wp2
  go_loopw [5] (fun v wr => ∃ k : Nat, v = .int .i64 k ∧ k ≤ a.length ∧ Aside0 (∀ j < k, nt a j = nt b j) ∧ Drawn0 w wr) (fun v _ => a.length - (intOf v).toNat)
  case atStart => exact ⟨0, rfl, by omega, ⟨fun j hj => by omega⟩, Drawn0.refl _⟩
  case round =>
    obtain ⟨k, rfl, hk, HZ, ⟨m, rfl⟩⟩ := hrel
    by_cases hlt : k < a.length
    · have hlt' : k < b.length := by have := HL.out; omega
      obtain ⟨ad, rfl, hc⟩ := at_nt HR.out k hlt
      obtain ⟨ad', rfl, hc'⟩ := at_nt HR'.out k hlt'
      by_cases h0 : nt a k < nt b k
      · have HN := Aside0.mk (cmpL_lt hlt hlt' HZ.out h0)
        have hb : decide (nt a k < nt b k) = true := decide_eq_true h0
        go_wp2
        go_quiet (fail)
        go_wp2
        go_ret
        exact ⟨ret_i HN.out.symm, (by repeat (first | exact Drawn0.refl _ | apply Drawn0.step))⟩
      · have hb : decide (nt a k < nt b k) = false := decide_eq_false h0
        by_cases h1 : nt b k < nt a k
        · have HN := Aside0.mk (cmpL_gt hlt hlt' HZ.out h1)
          have hb1 : decide (nt b k < nt a k) = true := decide_eq_true h1
          go_wp2
          go_quiet (fail)
          go_wp2
          go_quiet (fail)
          go_wp2
          go_ret
          exact ⟨ret_i HN.out.symm, (by repeat (first | exact Drawn0.refl _ | apply Drawn0.step))⟩
        · have hb1 : decide (nt b k < nt a k) = false := decide_eq_false h1
          have HN := Aside0.mk (show nt a k = nt b k by omega)
          go_wp2
          go_quiet (fail)
          go_wp2
          go_quiet (fail)
          go_wp2
          go_roundw
          case rel => exact ⟨k + 1, by go_num, by omega, ⟨fun j hj => by rcases Nat.lt_succ_iff_lt_or_eq.1 hj with h | h; exact HZ.out j h; subst h; exact HN.out⟩, (by repeat (first | exact Drawn0.refl _ | apply Drawn0.step))⟩
          case measure => simp [intOf]; omega
    · have HE := Aside0.mk (show k = a.length by omega)
      go_wp2
      go_ret
      exact ⟨ret_i (by rw [cmpL_end (by have := HL.out; omega) (fun j hj => HZ.out j (by rw [HE.out]; exact hj)), if_neg (by have := HL.out; omega)]), (by repeat (first | exact Drawn0.refl _ | apply Drawn0.step))⟩

theorem isNaN_calls (x : Int) (w : World) : Calls Try.prog 152 #[.int .i64 x] w fun e w' => e = .returned (.bool false) ∧ w = w' := by
  have hb : (x != x) = false := by simp
  go_enter Try.func152, Try.ntmps152
  go_wp2
  go_ret
  exact ⟨ret_b (by simp), rfl⟩
theorem cmpI_calls (x y : Int) (w : World) : Calls Try.prog 129 #[.int .i64 x, .int .i64 y] w fun e w' => e = .returned (.int .i64 (cmpI x y)) ∧ w = w' := by
  rcases Int.lt_trichotomy x y with h | h | h
  · have hb : decide (x < y) = true := decide_eq_true h
    have HE := Aside0.mk (show cmpI x y = -1 by simp [cmpI, h])
    go_enter Try.func129, Try.ntmps129
    go_wp2_with ((go_at_call 152; refine (isNaN_calls _ _).mono ?_; rintro e w' ⟨rfl, rfl⟩))
    go_ret
    exact ⟨ret_i HE.out.symm, rfl⟩
  · subst h
    have HE := Aside0.mk (show cmpI x x = 0 by simp [cmpI])
    go_enter Try.func129, Try.ntmps129
    go_wp2_with ((go_at_call 152; refine (isNaN_calls _ _).mono ?_; rintro e w' ⟨rfl, rfl⟩))
    go_ret
    exact ⟨ret_i HE.out.symm, rfl⟩
  · have hb : decide (x < y) = false := decide_eq_false (by omega)
    have hb2 : decide (y < x) = true := decide_eq_true h
    have HE := Aside0.mk (show cmpI x y = 1 by simp [cmpI, h]; omega)
    go_enter Try.func129, Try.ntmps129
    go_wp2_with ((go_at_call 152; refine (isNaN_calls _ _).mono ?_; rintro e w' ⟨rfl, rfl⟩))
    go_ret
    exact ⟨ret_i HE.out.symm, rfl⟩
end Go.Proofs.Ytbenhcognapdpaa
