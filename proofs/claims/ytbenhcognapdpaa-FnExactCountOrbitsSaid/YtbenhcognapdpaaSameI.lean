/- Walk: the program's answer whether two points are in one orbit (over what orbitOfPoint does). -/
import Derived.Test.YtbenhcognapdpaaPtCode
import Derived.Test.YtbenhcognapdpaaSameS
set_option linter.unusedVariables false
set_option linter.unusedSimpArgs false
namespace Go.Proofs.Ytbenhcognapdpaa
open Go.RowKit Go.Proofs.YtbenhcognapdpaaW.PrintWords Go.Proofs.YtbenhcognapdpaaW.PrintLast Lin

theorem acts_of {p : Int} {n : Nat} {l : List (List Int)} (h : GrpOk p n l) : Acts p n l := by
  have hv : 1 ≤ (n : Int) ∧ (n : Int) ≤ 3 := of_decide_eq_true h.vars
  have hmem : ∀ a ∈ l, ∃ i, i < l.length ∧ ntR l i = a := fun a ha => by
    obtain ⟨i, hi, rfl⟩ := List.mem_iff_getElem.1 ha
    exact ⟨i, hi, ntR_eq l i hi⟩
  refine ⟨primeB_iff.1 h.prime, by omega, by omega, fun m hm => ?_, fun a ha b hb => ?_, ?_⟩
  · obtain ⟨i, hi, rfl⟩ := hmem m hm
    exact (matB_true (h.mats i hi)).2.2.2.2
  · obtain ⟨i, hi, rfl⟩ := hmem a ha
    obtain ⟨k, hk, rfl⟩ := hmem b hb
    have := h.closed i hi k hk
    rw [Int.toNat_natCast] at this
    exact of_decide_eq_true this
  · have := h.one
    rw [Int.toNat_natCast] at this
    exact of_decide_eq_true this
theorem sameR_mem {p : Int} {n : Nat} {l : List (List Int)} {x y : List Int} (h : GrpOk p n l) (hx : pointB p n x = true) (hy : pointB p n y = true) : sameR p n l x y = (decide (y ∈ orbitS p n l x), 0) := by
  have hg := grpB_iff.2 h
  have e := (acts_of h).first (pointB_pt.1 hx) (pointB_pt.1 hy)
  simp only [sameR, hg, hx, hy, Bool.and_self, if_true, Int.toNat_natCast]
  rw [show decide (ntR' (orbitS p n l x) = ntR' (orbitS p n l y)) = decide (y ∈ orbitS p n l x) by rw [Bool.eq_iff_iff, decide_eq_true_iff, decide_eq_true_iff]; exact e.symm]
theorem ptCode_two (p n : Int) (l : List (List Int)) (x y : List Int) : ptCode p n l [x, y] = if grpB p n l = true then (if (pointB p n x && pointB p n y) = true then 0 else 2) else 1 := by
  simp [ptCode]
theorem sameR_bad {p n : Int} {l : List (List Int)} {x y : List Int} (h : ptCode p n l [x, y] ≠ 0) : sameR p n l x y = (false, ptCode p n l [x, y]) := by
  rw [ptCode_two] at *
  unfold sameR
  split at h <;> rename_i hg
  · rw [if_pos hg, if_pos hg]
    split at h <;> rename_i hp
    · exact absurd rfl h
    · rw [if_neg hp, if_neg hp]
  · rw [if_neg hg, if_neg hg]
theorem code_zero {p n : Int} {l : List (List Int)} {x y : List Int} (h : ptCode p n l [x, y] = 0) : GrpOk p n l ∧ pointB p n x = true ∧ pointB p n y = true := by
  rw [ptCode_two] at h
  split at h <;> rename_i hg
  · split at h <;> rename_i hp
    · rw [Bool.and_eq_true] at hp
      exact ⟨grpB_iff.1 hg, hp.1, hp.2⟩
    · omega
  · omega
end Go.Proofs.Ytbenhcognapdpaa
