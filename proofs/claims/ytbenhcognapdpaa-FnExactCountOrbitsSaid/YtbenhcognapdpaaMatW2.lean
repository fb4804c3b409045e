/- Walks: matrices looked for and compared. -/
import Derived.Test.YtbenhcognapdpaaEq
import Derived.Test.YtbenhcognapdpaaSmallW2
set_option linter.unusedVariables false
set_option linter.unusedSimpArgs false
namespace Go.Proofs.Ytbenhcognapdpaa
open Go.RowKit Go.Proofs.YtbenhcognapdpaaW.PrintWords Go.Proofs.YtbenhcognapdpaaW.PrintLast Lin

abbrev kM : Kd (List Int) := Kd.arr 9 (Kd.int .u8) (by decide)
theorem at_mat {w : World} {A : Option Addr} {n : Nat} {xs : List (List Int)} (h : kM.C w A n xs) (i : Nat) (h1 : i < n) :
    ∃ ad m, m = ntR xs i ∧ A = some ad ∧ m.length = 9 ∧ ∀ j, j < 9 → w.cell? (ad.add (i * 9 + j)) = some (.int .u8 (nt m j)) := by
  obtain ⟨ad, c, e, _, hK, hc⟩ := Kd.C_get h ([] : List Int) (i : Int) (by omega) (by omega)
  obtain ⟨hl, hcs⟩ := Kd.arr_cells hK
  refine ⟨ad, ntR xs i, rfl, e, by simpa [ntR] using hl, fun j hj => ?_⟩
  have hc2 : ∀ j u, c[j]? = some u → w.cell? (ad.add (i * 9 + j)) = some u := hc
  refine hc2 j _ ?_
  have hl' : (ntR xs i).length = 9 := by simpa [ntR] using hl
  have e2 : c = encs (Value.int .u8) (ntR xs i) := by simpa [ntR] using hcs
  rw [e2]
  simp [encs, nt_eq _ j (by omega : j < (ntR xs i).length), List.getElem?_eq_getElem (by omega : j < (ntR xs i).length)]
theorem mcells_eq {m : List Int} (h : m.length = 9) : (#[.int .u8 (nt m 0), .int .u8 (nt m 1), .int .u8 (nt m 2), .int .u8 (nt m 3), .int .u8 (nt m 4), .int .u8 (nt m 5), .int .u8 (nt m 6), .int .u8 (nt m 7), .int .u8 (nt m 8)] : Array Value) = mcells m := by
  obtain ⟨a, b, c, d, e, f, g, i, j, rfl⟩ : ∃ a b c d e f g i j, m = [a, b, c, d, e, f, g, i, j] := by
    match m, h with
    | [a, b, c, d, e, f, g, i, j], _ => exact ⟨a, b, c, d, e, f, g, i, j, rfl⟩
  rfl

/-- The number of a matrix in a list, -1 if it is not there. -/
def findM (l : List (List Int)) (g : List Int) : Int := if l.findIdx (· == g) < l.length then (l.findIdx (· == g) : Int) else -1
theorem findM_at {l : List (List Int)} {g : List Int} {k : Nat} (hk : k < l.length) (hz : ∀ j < k, ntR l j ≠ g) (h : ntR l k = g) : findM l g = k := by
  have e : l.findIdx (· == g) = k := by
    rcases Nat.lt_trichotomy (l.findIdx (· == g)) k with h1 | h1 | h1
    · have h2 := List.findIdx_getElem (p := (· == g)) (xs := l) (w := by omega)
      have h3 := hz _ h1
      rw [ntR_eq l _ (by omega)] at h3
      exact absurd (by simpa using h2) h3
    · exact h1
    · have h2 := List.not_of_lt_findIdx (p := (· == g)) (xs := l) h1
      rw [ntR_eq l k hk] at h
      simp [h] at h2
  unfold findM
  rw [e, if_pos hk]
theorem findM_none {l : List (List Int)} {g : List Int} (hz : ∀ j < l.length, ntR l j ≠ g) : findM l g = -1 := by
  unfold findM
  rw [if_neg]
  intro h
  have h2 := List.findIdx_getElem (p := (· == g)) (xs := l) (w := h)
  have h3 := hz _ h
  rw [ntR_eq l _ h] at h3
  exact h3 (by simpa using h2)
theorem findM_mem {l : List (List Int)} {g : List Int} : 0 ≤ findM l g ↔ g ∈ l := by
  unfold findM
  constructor
  · intro h
    split at h
    · rename_i h2
      have h3 := List.findIdx_getElem (p := (· == g)) (xs := l) (w := h2)
      have h4 : l[List.findIdx (· == g) l] = g := by simpa using h3
      rw [← h4]; exact List.getElem_mem h2
    · omega
  · intro h
    have : l.findIdx (· == g) < l.length := List.findIdx_lt_length.2 ⟨g, h, by simp⟩
    rw [if_pos this]; omega

set_option maxRecDepth 100000 in
set_option maxHeartbeats 1000000 in
theorem l02Find_calls (A : Option Addr) (n c : Nat) (l : List (List Int)) (g : List Int) (w : World) (hr : kM.C w A n l) (hg : g.length = 9) :
    Calls Try.prog 83 #[.slice A n c, .agg (mcells g)] w fun e w' => e = .returned (.int .i64 (findM l g)) ∧ Below w.heap.size w w' := by
  obtain rfl := Kd.C_len hr
  have hm := Kd.C_max hr
  have HR := Aside0.mk hr
  have HG := Aside0.mk hg
  clear hr hg
  go_enter Try.func83, Try.ntmps83
  go_wp2
  go_loopw [5] (fun v wr => ∃ k : Nat, v = .int .i64 k ∧ k ≤ l.length ∧ Aside0 (∀ j < k, ntR l j ≠ g) ∧ Blk wr w.heap.size 103 (mcells g) ∧ Aside0 (Below w.heap.size w wr)) (fun v _ => l.length - (intOf v).toNat)
  case atStart => exact ⟨0, rfl, by omega, ⟨fun j hj => by omega⟩, Blk.new _ _ _, ⟨below_alloc (Below.refl _ _) _⟩⟩
  case round =>
    obtain ⟨k, rfl, hk, HZ, H1, HB⟩ := hrel
    by_cases hlt : k < l.length
    · obtain ⟨ad, m, hmm, rfl, hm9, hc⟩ := at_mat HR.out k hlt
      have HC := Aside0.mk (fun j (hj : j < 9) => (HB.out.cell (World.block_lt_of_cell? w _ (hc j hj))).trans (hc j hj))
      have HM := Aside0.mk (And.intro hmm hm9)
      have heq := fun w => run_eql_mat w 103 Try.underlying103 hm9 HG.out
      clear hmm hm9 hc
      have hsb := Aside0.mk (show sameB m g = decide (m = g) from rfl)
      by_cases hs : m = g
      · have hsb : sameB m g = true := decide_eq_true hs
        have HS := Aside0.mk hs
        clear hs
        go_wp2
        (refine wp_region_quiet_lit (by kernel_rfl) (by kernel_rfl) ?_; repeat (quiet_step (fail)))
        refine quiet_load_mat (by rfl) _ 14 rfl (ad.add (k * 9)) rfl m HM.out.2 (by rintro W ⟨nq, rfl⟩ j hj; exact (by rw [add_add']; exact HC.out j hj)) _ Try.underlying103 rfl sizeM (by simp only [Act.put, List.setIfInBounds_toArray, List.set_cons_zero, List.set_cons_succ]; rfl) ?_
        refine quiet_load_mat (by rfl) _ 3 rfl ⟨w.heap.size, 0, none⟩ rfl g HG.out (by rintro W ⟨nq, rfl⟩ j hj; exact (by rw [add_plain]; exact H1.cell j (mcells_get g j (by rw [HG.out]; exact hj)))) _ Try.underlying103 rfl sizeM (by simp only [Act.put, List.setIfInBounds_toArray, List.set_cons_zero, List.set_cons_succ]; rfl) ?_
        (repeat (quiet_step (fail))); (refine wpQuiet_nil ?_; intro _ hw'; obtain ⟨nq, hw''⟩ := hw'; subst hw'')
        go_wp2
        go_ret
        exact ⟨ret_i (findM_at hlt HZ.out (by rw [← HM.out.1]; exact HS.out)).symm, (by repeat (first | (with_reducible first | exact HB.out | apply below_alloc | apply pw_below_drewN | apply below_drew1) | exact HB.out | exact Below.refl _ _))⟩
      · have hsb : sameB m g = false := decide_eq_false hs
        have HS := Aside0.mk hs
        clear hs
        go_wp2
        (refine wp_region_quiet_lit (by kernel_rfl) (by kernel_rfl) ?_; repeat (quiet_step (fail)))
        refine quiet_load_mat (by rfl) _ 14 rfl (ad.add (k * 9)) rfl m HM.out.2 (by rintro W ⟨nq, rfl⟩ j hj; exact (by rw [add_add']; exact HC.out j hj)) _ Try.underlying103 rfl sizeM (by simp only [Act.put, List.setIfInBounds_toArray, List.set_cons_zero, List.set_cons_succ]; rfl) ?_
        refine quiet_load_mat (by rfl) _ 3 rfl ⟨w.heap.size, 0, none⟩ rfl g HG.out (by rintro W ⟨nq, rfl⟩ j hj; exact (by rw [add_plain]; exact H1.cell j (mcells_get g j (by rw [HG.out]; exact hj)))) _ Try.underlying103 rfl sizeM (by simp only [Act.put, List.setIfInBounds_toArray, List.set_cons_zero, List.set_cons_succ]; rfl) ?_
        (repeat (quiet_step (fail))); (refine wpQuiet_nil ?_; intro _ hw'; obtain ⟨nq, hw''⟩ := hw'; subst hw'')
        go_wp2
        go_roundw
        case rel => exact ⟨k + 1, by go_num, by omega, ⟨fun j hj => by rcases Nat.lt_succ_iff_lt_or_eq.1 hj with h | h; exact HZ.out j h; subst h; rw [← HM.out.1]; exact HS.out⟩, H1.drewN _, ⟨(by repeat (first | (with_reducible first | exact HB.out | apply below_alloc | apply pw_below_drewN | apply below_drew1) | exact HB.out | exact Below.refl _ _))⟩⟩
        case measure => simp [intOf]; omega
    · have HE := Aside0.mk (show k = l.length by omega)
      go_wp2
      go_ret
      exact ⟨ret_i (findM_none (by rw [← HE.out]; exact HZ.out)).symm, HB.out⟩
end Go.Proofs.Ytbenhcognapdpaa
