/- Rows of rows sorted: the shelf's contract of slices.SortFunc at the headers of rows. -/
import Derived.Test.YtbenhcognapdpaaLay
import Derived.Test.YtbenhcognapdpaaCmpW
import Derived.Test.YtbenhcognapdpaaOrbB
set_option linter.unusedVariables false
set_option linter.unusedSimpArgs false
namespace Go.Proofs.Ytbenhcognapdpaa
open Go.RowKit Go.Proofs.YtbenhcognapdpaaW.PrintWords Go.Proofs.YtbenhcognapdpaaW.PrintLast Lin Go.Sort

/-- A row of an own list, with its header. -/
theorem own_row {base g n cap : Nat} {ok : Nat → Prop} {W : World} {xs : List (List Int)} (h : kR.R 38 W base ok (.slice (some ⟨g, 0, none⟩) n cap) xs) (i : Nat) (hi : i < xs.length) :
    ∃ u, W.cell? ⟨g, i, none⟩ = some u ∧ kI.R 2 W base (fun k => ok k ∧ k ≠ g) u (ntR xs i) := by
  obtain ⟨_, _, hr⟩ := R_rows' h
  obtain ⟨ad, e, hc⟩ := hr.2.2 (by omega)
  cases e
  obtain ⟨c, hl, hM, hcell⟩ := hc i _ (List.getElem?_eq_getElem hi)
  obtain ⟨u, rfl, hu⟩ := hM
  have := hcell 0 u rfl
  rw [add_plain] at this
  refine ⟨u, by simpa [kR, Kd.slice] using this, ?_⟩
  rw [ntR_eq xs i hi]
  exact Kd.R_mono hu (fun k hk => ⟨hk.1, fun e => hk.2 (by rw [e]; rfl)⟩)
/-- What a sort leaves of the other blocks. -/
theorem sortWorld_heap {α : Type} [Inhabited α] (enc : α → Value) (w : World) (blk off m : Nat) (dk : Array α) (os : Array Obj) (k : Nat) (hk : k ≠ blk) (hl : k < w.heap.size) : (sortWorld enc w blk off m dk os).heap[k]? = w.heap[k]? := by
  unfold sortWorld Sort.grow Sort.putRow Sort.mapBlock Sort.ahead
  show ((w.heap.modify blk _) ++ os)[k]? = _
  rw [Array.getElem?_append_left (by simpa using hl), Array.getElem?_modify, if_neg (fun e => hk e.symm)]
end Go.Proofs.Ytbenhcognapdpaa
