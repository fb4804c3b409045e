/- Walks: the laws' copies of matrices. -/
import Derived.Test.YtbenhcognapdpaaLaw3
set_option linter.unusedVariables false
set_option linter.unusedSimpArgs false
namespace Go.Proofs.Ytbenhcognapdpaa
open Go.RowKit Go.Proofs.YtbenhcognapdpaaW.PrintWords Go.Proofs.YtbenhcognapdpaaW.PrintLast Lin

theorem ret_a3 {fn : Func} {p : Tmp} (h : fn.results = #[.cell p 73]) {R : Ending → World → Prop} {a : Act} {w : World} {g t : Nat} {m : List Int} (H : Blk w g t (mcells m)) (hm : m.length = 3) (hp : a.tmps.getD p undef = .pointer (some ⟨g, 0, none⟩)) (hd : a.defers = [])
    (hR : R (.returned (.agg (mcells m))) w) : bodyPost Try.prog fn R .ret a w :=
  ⟨hd, _, results_cell_row h a.tmps w g t (mcells m) (0, 0) _ hp H Try.underlying73 rfl (size73_of hm), hR⟩
theorem set_upto {a o : List Int} {k : Nat} (hk : k < o.length) (h : ∀ j < k, nt o j = nt a j) : ∀ j < k + 1, nt (o.set k (nt a k)) j = nt a j := by
  intro j hj
  rw [nt_set hk]
  split
  · rename_i e; rw [e]
  · exact h j (by omega)
theorem a3_done {a o : List Int} (ha : a.length = 3) (ho : o.length = 3) (h : ∀ j < 3, nt o j = nt a j) : o = a := row_ext (by omega) (fun j hj => h j (by omega))
set_option maxRecDepth 100000 in
set_option maxHeartbeats 400000 in
theorem toByteA3_calls (a : List Int) (w : World) (ha : a.length = 3) :
    Calls Try.prog 125 #[.agg (mcells a)] w fun e w' => e = .returned (.agg (mcells a)) ∧ Below w.heap.size w w' := by
  go_enter Try.func125, Try.ntmps125
  go_wp2
  go_loopw [4] (fun v wr => ∃ (k : Nat) (o : List Int), v = .int .i64 k ∧ k ≤ 3 ∧ o.length = 3 ∧ Aside0 (∀ j < k, nt o j = nt a j) ∧ Blk wr w.heap.size 73 (mcells a) ∧ Blk wr (w.heap.size + 1) 73 (mcells [0, 0, 0]) ∧ Blk wr (w.heap.size + 1 + 1) 73 (mcells o) ∧ Aside0 (Below w.heap.size w wr)) (fun v _ => 3 - (intOf v).toNat)
  case atStart => exact ⟨0, [0, 0, 0], rfl, by omega, rfl, ⟨fun j hj => by omega⟩, ((Blk.new _ _ _).alloc _).alloc _, (Blk.new1 _ _ _ _).alloc _, Blk.new2 _ _ _ _ _, ⟨below_alloc (below_alloc (below_alloc (Below.refl _ _) _) _) _⟩⟩
  case round =>
    obtain ⟨k, o, rfl, hk, ho, HZ, H1, H2, H3, HB⟩ := hrel
    by_cases hlt : k < 3
    · have c1 := H1.cell k (mcells_get a k (by omega))
      have c3 := H3.cell k (mcells_get o k (by omega))
      have f3 := H3.frozen k
      have hd3 : decide ((k : Int) < 3) = true := decide_eq_true (by omega)
      have hk3 : (k : Int) < 3 := by omega
      go_wp2
      go_roundw
      case rel => exact ⟨k + 1, o.set k (nt a k), by go_num, by omega, by simp [ho], ⟨set_upto (by omega) HZ.out⟩, H1.far (by dsimp only; omega) _, H2.far (by dsimp only; omega) _, by rw [← mcells_set]; exact H3.set _ _, ⟨HB.out.setCell (by dsimp only; omega) _⟩⟩
      case measure => simp [intOf]; omega
    · obtain rfl : o = a := a3_done ha ho (fun j hj => HZ.out j (by omega))
      go_wp2_with (first
        | (refine load_blk rfl _ 3 rfl H3 rfl _ Try.underlying73 rfl (size73_of ho) ?_)
        | (refine store_blk rfl _ 2 _ rfl H2 rfl rfl (size73_of ho) (by rw [mcells_size, mcells_size, ho]; rfl) (mcells_one _) ?_))
      refine ret_a3 (p := 2) rfl (H2.setRow _) ho rfl rfl ⟨rfl, below_setRow HB.out (by omega) _⟩
end Go.Proofs.Ytbenhcognapdpaa
