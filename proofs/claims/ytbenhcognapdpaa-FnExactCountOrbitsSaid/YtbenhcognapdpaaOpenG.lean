/- What the laws' groups and lists of numbers read as. -/
import Derived.Test.YtbenhcognapdpaaOpen
import Derived.Test.YtbenhcognapdpaaCells
set_option linter.unusedVariables false
set_option linter.unusedSimpArgs false
namespace Go.Proofs.Ytbenhcognapdpaa
open Go.RowKit Go.ChangeShapes Go.WideShapes Go.Proofs.YtbenhcognapdpaaW.PrintWords Go.Proofs.YtbenhcognapdpaaW.PrintLast Lin Go.Deep

theorem cells_u8 : Try.prog.cellsOf 5 = 1 := by kernel_rfl
theorem cells_i64 : Try.prog.cellsOf 2 = 1 := by kernel_rfl
theorem cells_a3 : Try.prog.cellsOf 73 = 3 := by kernel_rfl
theorem cells_a33 : Try.prog.cellsOf 102 = 9 := by kernel_rfl
theorem cells_a33S : Try.prog.cellsOf 35 = 1 := by kernel_rfl
theorem cells_lG : Try.prog.cellsOf 37 = 3 := by kernel_rfl
section
variable {H : Type} {enc : TypeId × Value → H} {W : World} {spare : Nat → Bool} {held : Bool}
theorem opens_mat : Opens enc Try.prog W spare held 102 kM IsM :=
  Opens.imp (opens_ints2 (n := 3) (m := 3) (by omega) Try.underlying102 Try.underlying73 Try.underlying5 cells_u8 cells_a3 cells_a33) fun m h => ⟨h.1, fun a ha => bounds_u8 (h.2 a ha)⟩
theorem opens_group : Opens enc Try.prog W spare held 37 (Kd.pair (Kd.int .i64) (Kd.pair (Kd.int .i64) (Kd.slice 102 kM))) (fun x => True ∧ True ∧ ∀ m ∈ x.2.2, IsM m) :=
  opens_struct3 (d0 := Kd.int .i64) (d1 := Kd.int .i64) (d2 := Kd.slice 102 kM) Try.underlying37 cells_lG rfl cells_i64 rfl cells_i64 rfl cells_a33S (Opens.imp (opens_int Try.underlying2) fun _ _ => trivial) (Opens.imp (opens_int Try.underlying2) fun _ _ => trivial) (opens_slice Try.underlying35 cells_a33 opens_mat)
set_option maxRecDepth 100000 in
theorem open_group {r : Reach} {b0 : Nat} {v : Value} {d : DataW H} {p : List MemPlace} (hv : Value.okWide Try.prog W r b0 37 v) (h : DataW.Trod enc Try.prog W 0 spare held 37 v d p) :
    ∃ (p n : Int) (A : Option Addr) (c : Nat) (l : List (List Int)), v = .agg #[.int .i64 p, .int .i64 n, .slice A l.length c] ∧ kM.C W A l.length l ∧ ∀ m ∈ l, IsM m := by
  obtain ⟨cs, rfl, hsz⟩ := okWide_struct Try.underlying37 hv
  obtain ⟨fuel, hf⟩ := h
  obtain ⟨⟨p, n, l⟩, ⟨c0, c1, he, h0, c2, c3, rfl, h1, A, c, rfl, _, hC⟩, _, _, hM⟩ := opens_group _ _ _ hf
  have h0' : c0 = [.int .i64 p] := h0
  have h1' : c2 = [.int .i64 n] := h1
  subst h0' h1'
  have he2 : cs.toList = [.int .i64 p, .int .i64 n, .slice A l.length c] := by simpa [Value.cells] using he
  have : cs = #[.int .i64 p, .int .i64 n, .slice A l.length c] := by rw [← Array.toArray_toList (xs := cs), he2]
  subst this
  exact ⟨p, n, A, c, l, rfl, hC, hM⟩
set_option maxRecDepth 100000 in
theorem open_row {r : Reach} {b0 : Nat} {v : Value} {d : DataW H} {p : List MemPlace} (hv : Value.okWide Try.prog W r b0 38 v) (h : DataW.Trod enc Try.prog W 0 spare held 38 v d p) :
    ∃ (A : Option Addr) (c : Nat) (l : List Int), v = .slice A l.length c ∧ l.length ≤ c ∧ kI.C W A l.length l := by
  obtain ⟨A, n, c, rfl⟩ := okWide_slice Try.underlying38 hv
  obtain ⟨fuel, hf⟩ := h
  obtain ⟨l, ⟨A', c', he, hl, hC⟩, _⟩ := opens_slice (e' := 2) (d := kI) Try.underlying38 cells_i64 (opens_int Try.underlying2) _ _ _ hf
  have he2 : Value.slice A n c = .slice A' l.length c' := by simpa [Value.cells] using he
  cases he2
  exact ⟨A, c, l, rfl, hl, hC⟩
end
end Go.Proofs.Ytbenhcognapdpaa
