/- Walks: tests on numbers and rows, comparisons. -/
import Derived.Test.YtbenhcognapdpaaBase
import Derived.Test.YtbenhcognapdpaaSmallM
set_option linter.unusedVariables false
set_option linter.unusedSimpArgs false
namespace Go.Proofs.Ytbenhcognapdpaa
open Go.RowKit Go.Proofs.YtbenhcognapdpaaW.PrintWords Go.Proofs.YtbenhcognapdpaaW.PrintLast Lin

set_option maxRecDepth 100000 in
theorem l01Prime_calls (p : Int) (w : World) : Calls Try.prog 64 #[.int .i64 p] w fun e w' => e = .returned (.bool (primeB p)) ∧ w = w' := by
  by_cases h : IsP p
  · have hb : primeB p = true := primeB_iff.2 h
    rw [hb]
    unfold IsP at h
    rcases h with h | h | h | h | h | h
    all_goals
      subst h
      go_enter Try.func64, Try.ntmps64
      go_wp2
      go_ret
      exact ⟨rfl, rfl⟩
  · have hb : primeB p = false := decide_eq_false h
    rw [hb]
    unfold IsP at h
    have h1 : (p == 2) = false := by rw [beq_eq_false_iff_ne]; omega
    have h2 : (p == 3) = false := by rw [beq_eq_false_iff_ne]; omega
    have h3 : (p == 5) = false := by rw [beq_eq_false_iff_ne]; omega
    have h4 : (p == 7) = false := by rw [beq_eq_false_iff_ne]; omega
    have h5 : (p == 11) = false := by rw [beq_eq_false_iff_ne]; omega
    have h6 : (p == 13) = false := by rw [beq_eq_false_iff_ne]; omega
    clear h
    go_enter Try.func64, Try.ntmps64
    go_wp2
    go_ret
    exact ⟨rfl, rfl⟩

set_option maxRecDepth 100000 in
theorem isPrime_calls (p : Int) (w : World) : Calls Try.prog 72 #[.int .i64 p] w fun e w' => e = .returned (.bool (primeB p)) ∧ w = w' := by
  by_cases h : IsP p
  · have hb : primeB p = true := primeB_iff.2 h
    rw [hb]
    unfold IsP at h
    rcases h with h | h | h | h | h | h
    all_goals
      subst h
      go_enter Try.func72, Try.ntmps72
      go_wp2
      go_ret
      exact ⟨rfl, rfl⟩
  · have hb : primeB p = false := decide_eq_false h
    rw [hb]
    unfold IsP at h
    have h1 : (p == 2) = false := by rw [beq_eq_false_iff_ne]; omega
    have h2 : (p == 3) = false := by rw [beq_eq_false_iff_ne]; omega
    have h3 : (p == 5) = false := by rw [beq_eq_false_iff_ne]; omega
    have h4 : (p == 7) = false := by rw [beq_eq_false_iff_ne]; omega
    have h5 : (p == 11) = false := by rw [beq_eq_false_iff_ne]; omega
    have h6 : (p == 13) = false := by rw [beq_eq_false_iff_ne]; omega
    clear h
    go_enter Try.func72, Try.ntmps72
    go_wp2
    go_ret
    exact ⟨rfl, rfl⟩

def inB (x a b : Int) : Bool := decide (a ≤ x ∧ x ≤ b)
theorem l01In_calls (x a b : Int) (w : World) : Calls Try.prog 65 #[.int .i64 x, .int .i64 a, .int .i64 b] w fun e w' => e = .returned (.bool (inB x a b)) ∧ w = w' := by
  by_cases h1 : a ≤ x
  · by_cases h2 : x ≤ b
    · have hb : inB x a b = true := decide_eq_true ⟨h1, h2⟩
      rw [hb]
      go_enter Try.func65, Try.ntmps65
      go_wp2
      go_ret
      exact ⟨ret_b (by simp), rfl⟩
    · have hb : inB x a b = false := decide_eq_false (by omega)
      rw [hb]
      go_enter Try.func65, Try.ntmps65
      go_wp2
      go_ret
      exact ⟨ret_b (by simp), rfl⟩
  · have hb : inB x a b = false := decide_eq_false (by omega)
    have h1' : decide (a ≤ x) = false := decide_eq_false h1
    rw [hb]
    go_enter Try.func65, Try.ntmps65
    go_wp2
    go_ret
    exact ⟨ret_b rfl, rfl⟩
def varsB (d : Int) : Bool := decide (1 ≤ d ∧ d ≤ 3)
theorem isVars_calls (d : Int) (w : World) : Calls Try.prog 73 #[.int .i64 d] w fun e w' => e = .returned (.bool (varsB d)) ∧ w = w' := by
  by_cases h1 : 1 ≤ d
  · by_cases h2 : d ≤ 3
    · have hb : varsB d = true := decide_eq_true ⟨h1, h2⟩
      rw [hb]
      go_enter Try.func73, Try.ntmps73
      go_wp2
      go_ret
      exact ⟨ret_b (by simp), rfl⟩
    · have hb : varsB d = false := decide_eq_false (by omega)
      rw [hb]
      go_enter Try.func73, Try.ntmps73
      go_wp2
      go_ret
      exact ⟨ret_b (by simp), rfl⟩
  · have hb : varsB d = false := decide_eq_false (by omega)
    have h1' : decide (1 ≤ d) = false := decide_eq_false h1
    rw [hb]
    go_enter Try.func73, Try.ntmps73
    go_wp2
    go_ret
    exact ⟨ret_b rfl, rfl⟩

set_option maxHeartbeats 400000 in
theorem l01Point_calls (p d : Int) (A : Option Addr) (n c : Nat) (l : List Int) (w : World) (hr : kI.C w A n l) (hp : 1 ≤ p) (hp2 : p ≤ 1000) :
    Calls Try.prog 38 #[.int .i64 p, .int .i64 d, .slice A n c] w fun e w' => e = .returned (.bool (pointB p d l)) ∧ Drawn0 w w' := by
  obtain rfl := Kd.C_len hr
  have hm := Kd.C_max hr
  have HR := Aside0.mk hr
  clear hr
  go_enter Try.func38, Try.ntmps38
  go_wp2
  go_loopw [7] (fun v wr => ∃ k : Nat, v = .int .i64 k ∧ k ≤ l.length ∧ Aside0 (∀ j < k, 0 ≤ nt l j ∧ nt l j < p) ∧ Drawn0 w wr) (fun v _ => l.length - (intOf v).toNat)
  case atStart => exact ⟨0, rfl, by omega, ⟨fun j hj => by omega⟩, Drawn0.refl _⟩
  case round =>
    obtain ⟨k, rfl, hk, HZ, ⟨m, rfl⟩⟩ := hrel
    by_cases hlt : k < l.length
    · obtain ⟨ad, rfl, hc⟩ := at_nt HR.out k hlt
      by_cases h0 : 0 ≤ nt l k ∧ nt l k < p
      · have hb : inB (nt l k) 0 (p - 1) = true := decide_eq_true (by omega)
        have HN := Aside0.mk h0
        clear h0
        go_wp2_with ((go_at_call 65; refine (l01In_calls _ _ _ _).mono ?_; rintro e w' ⟨rfl, rfl⟩))
        go_roundw
        case rel => exact ⟨k + 1, by go_num, by omega, ⟨fun j hj => by rcases Nat.lt_succ_iff_lt_or_eq.1 hj with h | h; exact HZ.out j h; subst h; exact HN.out⟩, (by repeat (first | exact Drawn0.refl _ | apply Drawn0.step))⟩
        case measure => simp [intOf]; omega
      · have hb : inB (nt l k) 0 (p - 1) = false := decide_eq_false (by omega)
        have HN := Aside0.mk (pointB_false (d := d) hlt h0)
        clear h0
        go_wp2_with ((go_at_call 65; refine (l01In_calls _ _ _ _).mono ?_; rintro e w' ⟨rfl, rfl⟩))
        go_ret
        exact ⟨ret_b HN.out.symm, (by repeat (first | exact Drawn0.refl _ | apply Drawn0.step))⟩
    · have HE := Aside0.mk (show k = l.length by omega)
      go_wp2
      go_ret
      exact ⟨ret_b (pointB_eq (fun j hj => HZ.out j (by rw [HE.out]; exact hj))).symm, (by repeat (first | exact Drawn0.refl _ | apply Drawn0.step))⟩

set_option maxHeartbeats 400000 in
theorem field_calls (p : Int) (A : Option Addr) (n c : Nat) (l : List Int) (w : World) (hr : kI.C w A n l) :
    Calls Try.prog 126 #[.int .i64 p, .slice A n c] w fun e w' => e = .returned (.bool (fieldB p l)) ∧ Drawn0 w w' := by
  obtain rfl := Kd.C_len hr
  have hm := Kd.C_max hr
  have HR := Aside0.mk hr
  clear hr
  go_enter Try.func126, Try.ntmps126
  go_wp2
  go_loopw [9] (fun v wr => ∃ k : Nat, v = .int .i64 k ∧ k ≤ l.length ∧ Aside0 (∀ j < k, 0 ≤ nt l j ∧ nt l j < p) ∧ Drawn0 w wr) (fun v _ => l.length - (intOf v).toNat)
  case atStart => exact ⟨0, rfl, by omega, ⟨fun j hj => by omega⟩, Drawn0.refl _⟩
  case round =>
    obtain ⟨k, rfl, hk, HZ, ⟨m, rfl⟩⟩ := hrel
    by_cases hlt : k < l.length
    · obtain ⟨ad, rfl, hc⟩ := at_nt HR.out k hlt
      by_cases h0 : 0 ≤ nt l k
      · have hb : decide (nt l k < 0) = false := decide_eq_false (by omega)
        by_cases h1 : nt l k < p
        · have hb1 : decide (p ≤ nt l k) = false := decide_eq_false (by omega)
          have HN := Aside0.mk (And.intro h0 h1)
          go_wp2
          go_roundw
          case rel => exact ⟨k + 1, by go_num, by omega, ⟨fun j hj => by rcases Nat.lt_succ_iff_lt_or_eq.1 hj with h | h; exact HZ.out j h; subst h; exact HN.out⟩, (by repeat (first | exact Drawn0.refl _ | apply Drawn0.step))⟩
          case measure => simp [intOf]; omega
        · have hb1 : decide (p ≤ nt l k) = true := decide_eq_true (by omega)
          have HN := Aside0.mk (fieldB_false (p := p) hlt (by omega))
          go_wp2
          go_ret
          exact ⟨ret_b HN.out.symm, (by repeat (first | exact Drawn0.refl _ | apply Drawn0.step))⟩
      · have hb : decide (nt l k < 0) = true := decide_eq_true (by omega)
        have HN := Aside0.mk (fieldB_false (p := p) hlt (by omega))
        go_wp2
        go_ret
        exact ⟨ret_b HN.out.symm, (by repeat (first | exact Drawn0.refl _ | apply Drawn0.step))⟩
    · have HE := Aside0.mk (show k = l.length by omega)
      go_wp2
      go_ret
      exact ⟨ret_b (fieldB_true (fun j hj => HZ.out j (by rw [HE.out]; exact hj))).symm, (by repeat (first | exact Drawn0.refl _ | apply Drawn0.step))⟩

set_option maxHeartbeats 400000 in
theorem isPoint_calls (p d : Int) (A : Option Addr) (n c : Nat) (l : List Int) (w : World) (hr : kI.C w A n l) :
    Calls Try.prog 88 #[.int .i64 p, .int .i64 d, .slice A n c] w fun e w' => e = .returned (.bool (pointB p d l)) ∧ Drawn0 w w' := by
  obtain rfl := Kd.C_len hr
  have HR := Aside0.mk hr
  clear hr
  have HF := Aside0.mk (pointB_field p d l)
  by_cases h : (l.length : Int) = d
  · have hb : ((l.length : Int) == d) = true := by rw [beq_iff_eq]; exact h
    have hE : Aside0 (pointB p d l = fieldB p l) := ⟨by rw [HF.out, decide_eq_true h, Bool.true_and]⟩
    clear h
    go_enter Try.func88, Try.ntmps88
    go_wp2_with ((go_at_call 126; refine (field_calls _ _ _ _ l _ HR.out).mono ?_; rintro e w' ⟨rfl, ⟨nd, rfl⟩⟩))
    go_ret
    exact ⟨ret_b hE.out.symm, (by repeat (first | exact Drawn0.refl _ | apply Drawn0.step))⟩
  · have hb : ((l.length : Int) == d) = false := by rw [beq_eq_false_iff_ne]; exact h
    have hE : Aside0 (pointB p d l = false) := ⟨by rw [HF.out, decide_eq_false h, Bool.false_and]⟩
    clear h
    go_enter Try.func88, Try.ntmps88
    go_wp2
    go_ret
    exact ⟨ret_b hE.out.symm, (by repeat (first | exact Drawn0.refl _ | apply Drawn0.step))⟩
end Go.Proofs.Ytbenhcognapdpaa
