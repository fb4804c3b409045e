/- Walks: what the laws do with numbers and rows. -/
import Derived.Test.YtbenhcognapdpaaSmallW2
import Derived.Test.YtbenhcognapdpaaInv
set_option linter.unusedVariables false
set_option linter.unusedSimpArgs false
namespace Go.Proofs.Ytbenhcognapdpaa
open Go.RowKit Go.Proofs.YtbenhcognapdpaaW.PrintWords Go.Proofs.YtbenhcognapdpaaW.PrintLast Lin

def szL (n : Nat) (left : Int) : Int := if left < n then -1 else left - n
theorem szMatrixS_calls (A : Option Addr) (n c : Nat) (left : Int) (w : World) (hl : 0 ≤ left ∧ left ≤ 1048576) (hn : n ≤ 9223372036854775807) :
    Calls Try.prog 36 #[.slice A n c, .int .i64 left] w fun e w' => e = .returned (.int .i64 (szL n left)) ∧ w = w' := by
  by_cases h : left < n
  · have HN : Aside0 (szL n left = -1) := ⟨by unfold szL; rw [if_pos h]⟩
    have hb : decide (left - (n : Int) < 0) = true := decide_eq_true (by omega)
    go_enter Try.func36, Try.ntmps36
    go_wp2
    go_ret
    exact ⟨ret_i HN.out.symm, rfl⟩
  · have HN : Aside0 (szL n left = left - n) := ⟨by unfold szL; rw [if_neg h]⟩
    have hb : decide (left - (n : Int) < 0) = false := decide_eq_false (by omega)
    go_enter Try.func36, Try.ntmps36
    go_wp2
    go_ret
    exact ⟨ret_i HN.out.symm, rfl⟩
theorem szGroup_calls (p m : Int) (A : Option Addr) (n c : Nat) (left : Int) (w : World) (hl : 0 ≤ left ∧ left ≤ 1048576) (hn : n ≤ 9223372036854775807) :
    Calls Try.prog 14 #[.agg #[.int .i64 p, .int .i64 m, .slice A n c], .int .i64 left] w fun e w' => e = .returned (.int .i64 (szL n left)) ∧ Below w.heap.size w w' := by
  by_cases h : left < n
  · have HN : Aside0 (szL n left = -1) := ⟨by unfold szL; rw [if_pos h]⟩
    go_enter Try.func14, Try.ntmps14
    go_wp2_with ((go_at_call 36; refine (szMatrixS_calls A n c left _ hl hn).mono ?_; rw [HN.out]; rintro e w' ⟨rfl, rfl⟩))
    go_ret
    exact ⟨ret_i HN.out.symm, below_alloc (Below.refl _ _) _⟩
  · have HN : Aside0 (szL n left = left - n) := ⟨by unfold szL; rw [if_neg h]⟩
    have hb : decide (left - (n : Int) < 0) = false := decide_eq_false (by omega)
    go_enter Try.func14, Try.ntmps14
    go_wp2_with ((go_at_call 36; refine (szMatrixS_calls A n c left _ hl hn).mono ?_; rw [HN.out]; rintro e w' ⟨rfl, rfl⟩))
    go_ret
    exact ⟨ret_i HN.out.symm, below_alloc (Below.refl _ _) _⟩
end Go.Proofs.Ytbenhcognapdpaa
