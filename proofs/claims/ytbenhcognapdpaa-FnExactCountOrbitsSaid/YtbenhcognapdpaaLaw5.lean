/- Walks: the laws' copies of whole matrices. -/
import Derived.Test.YtbenhcognapdpaaLaw4
import Derived.Deep.MidRow
set_option linter.unusedVariables false
set_option linter.unusedSimpArgs false
namespace Go.Proofs.Ytbenhcognapdpaa
open Go.RowKit Go.Proofs.YtbenhcognapdpaaW.PrintWords Go.Proofs.YtbenhcognapdpaaW.PrintLast Lin

theorem rowM_lit {m : List Int} (hm : m.length = 9) {i : Nat} (hi : i < 3) : rowM m i = [nt m (i * 3), nt m (i * 3 + 1), nt m (i * 3 + 2)] := by
  refine row_ext (by rw [rowM_len hm hi]; rfl) fun j hj => ?_
  rw [rowM_len hm hi] at hj
  rw [rowM_nt hm hi hj]
  obtain rfl | rfl | rfl : j = 0 ∨ j = 1 ∨ j = 2 := by omega
  all_goals rfl
theorem Blk.there {w : World} {g t : Nat} {m : List Int} (H : Blk w g t (mcells m)) {o n : Nat} (h : o + n ≤ m.length) : w.there g o n := fun j hj => ⟨by rw [H.cell (o + j) (mcells_get m _ (by omega))]; rfl, H.frozen _⟩
theorem Blk.set3 {w : World} {g t : Nat} {m : List Int} (H : Blk w g t (mcells m)) (o : Nat) (x y z : Int) : Blk (w.setCells g o (mcells [x, y, z]).toList) g t (mcells (((m.set o x).set (o + 1) y).set (o + 2) z)) := by
  rw [← mcells_set, ← mcells_set, ← mcells_set]
  exact ((H.set _ _).set _ _).set _ _
theorem Blk.far3 {w : World} {g t : Nat} {cs : Array Value} (H : Blk w g t cs) {b : Nat} (h : g ≠ b) (o : Nat) (x y z : Int) : Blk (w.setCells b o (mcells [x, y, z]).toList) g t cs :=
  ((H.far (p := ⟨b, o, none⟩) h _).far (p := ⟨b, o + 1, none⟩) h _).far (p := ⟨b, o + 1 + 1, none⟩) h _
theorem below_set3 {B : Nat} {a w : World} (H : Below B a w) {b : Nat} (h : B ≤ b) (o : Nat) (x y z : Int) : Below B a (w.setCells b o (mcells [x, y, z]).toList) :=
  ((H.setCell (p := ⟨b, o, none⟩) h _).setCell (p := ⟨b, o + 1, none⟩) h _).setCell (p := ⟨b, o + 1 + 1, none⟩) h _
theorem m9_done {a o : List Int} (ha : a.length = 9) (ho : o.length = 9) (h : ∀ j < 9, nt o j = nt a j) : o = a := row_ext (by omega) (fun j hj => h j (by omega))

set_option maxRecDepth 100000 in
set_option maxHeartbeats 1000000 in
theorem toMatrix_calls (m : List Int) (w : World) (hm : m.length = 9) :
    Calls Try.prog 87 #[.agg (mcells m)] w fun e w' => e = .returned (.agg (mcells m)) ∧ Below w.heap.size w w' := by
  go_enter Try.func87, Try.ntmps87
  go_wp2
  go_loopw [4] (fun v wr => ∃ (k : Nat) (o : List Int), v = .int .i64 k ∧ k ≤ 3 ∧ o.length = 9 ∧ Aside0 (∀ j < k * 3, nt o j = nt m j) ∧ Blk wr w.heap.size 102 (mcells m) ∧ Blk wr (w.heap.size + 1) 103 (mcells [0, 0, 0, 0, 0, 0, 0, 0, 0]) ∧ Blk wr (w.heap.size + 1 + 1) 103 (mcells o) ∧ Aside0 (Below w.heap.size w wr)) (fun v _ => 3 - (intOf v).toNat)
  case atStart => exact ⟨0, [0, 0, 0, 0, 0, 0, 0, 0, 0], rfl, by omega, rfl, ⟨fun j hj => by omega⟩, ((Blk.new _ _ _).alloc _).alloc _, (Blk.new1 _ _ _ _).alloc _, Blk.new2 _ _ _ _ _, ⟨below_alloc (below_alloc (below_alloc (Below.refl _ _) _) _) _⟩⟩
  case round =>
    obtain ⟨k, o, rfl, hk, ho, HZ, H1, H2, H3, HB⟩ := hrel
    by_cases hlt : k < 3
    · have hd3 : decide ((k : Int) < 3) = true := decide_eq_true (by omega)
      have hk3 : (k : Int) < 3 := by omega
      have HA := Aside0.mk (H1.row hm hlt)
      have HK := Aside0.mk (fun W => toByteA3_calls (rowM m k) W (rowM_len hm hlt))
      have hsz := size73_of (rowM_len hm hlt)
      rw [rowM_lit hm hlt] at HA HK hsz
      have HZ2 : Aside0 (∀ j < (k + 1) * 3, nt (((o.set (k * 3) (nt m (k * 3))).set (k * 3 + 1) (nt m (k * 3 + 1))).set (k * 3 + 2) (nt m (k * 3 + 2))) j = nt m j) := ⟨by
        have h := set_upto (a := m) (by simp; omega) (set_upto (a := m) (by simp; omega) (set_upto (a := m) (k := k * 3) (by omega) HZ.out))
        intro j hj
        exact h j (by omega)⟩
      go_wp2_with (first
        | (refine load_agg rfl _ 11 rfl ⟨w.heap.size, k * 3, none⟩ HA.out rfl _ Try.underlying73 rfl hsz ?_)
        | (go_at_call 125; refine (HK.out _).mono ?_; rintro e w2 ⟨rfl, hb⟩; replace H1 := H1.keep hb; replace H2 := H2.keep hb; replace H3 := H3.keep hb; replace HB := Aside0.mk (below_step HB.out hb); clear hb)
        | (refine wpList_store_mid rfl _ (.tmp 14) (.tmp 13) rfl (w.heap.size + 1 + 1) (k * 3) (mcells [nt m (k * 3), nt m (k * 3 + 1), nt m (k * 3 + 2)]) rfl rfl (H3.there (by simp [mcells_size]; omega)) hsz (mcells_one _) ?_))
      go_roundw
      case rel => exact ⟨k + 1, _, by go_num, by omega, by simp [ho], HZ2, H1.far3 (by omega) _ _ _ _, H2.far3 (by omega) _ _ _ _, H3.set3 _ _ _ _, ⟨below_set3 HB.out (by omega) _ _ _ _⟩⟩
      case measure => simp [intOf]; omega
    · obtain rfl : o = m := m9_done hm ho (fun j hj => HZ.out j (by omega))
      go_wp2_with (first
        | (refine load_blk rfl _ 3 rfl H3 rfl _ Try.underlying103 rfl (sizeM_of ho) ?_)
        | (refine store_blk rfl _ 2 _ rfl H2 rfl rfl (sizeM_of ho) (by rw [mcells_size, mcells_size, ho]; rfl) (mcells_one _) ?_))
      refine ret_mat (p := 2) rfl (H2.setRow _) ho rfl rfl ⟨rfl, below_setRow HB.out (by omega) _⟩
end Go.Proofs.Ytbenhcognapdpaa
