/- Walks: matrices in order, and in groups. -/
import Derived.Test.YtbenhcognapdpaaMatW2
import Derived.Lib.Bytealg
import Derived.Laws.Externs
set_option linter.unusedVariables false
set_option linter.unusedSimpArgs false
namespace Go.Proofs.Ytbenhcognapdpaa
open Go.RowKit Go.Proofs.YtbenhcognapdpaaW.PrintWords Go.Proofs.YtbenhcognapdpaaW.PrintLast Lin

set_option maxRecDepth 100000 in
set_option maxHeartbeats 1000000 in
theorem index_calls (A : Option Addr) (n c : Nat) (l : List (List Int)) (g : List Int) (w : World) (hr : kM.C w A n l) (hg : g.length = 9) :
    Calls Try.prog 155 #[.slice A n c, .agg (mcells g)] w fun e w' => e = .returned (.int .i64 (findM l g)) ∧ Below w.heap.size w w' := by
  obtain rfl := Kd.C_len hr
  have hm := Kd.C_max hr
  have HR := Aside0.mk hr
  have HG := Aside0.mk hg
  clear hr hg
  go_enter Try.func155, Try.ntmps155
  go_wp2
  go_loopw [8] (fun v wr => ∃ k : Nat, v = .int .i64 k ∧ k ≤ l.length ∧ Aside0 (∀ j < k, ntR l j ≠ g) ∧ Blk wr w.heap.size 103 (mcells g) ∧ Aside0 (Below w.heap.size w wr)) (fun v _ => l.length - (intOf v).toNat)
  case atStart => exact ⟨0, rfl, by omega, ⟨fun j hj => by omega⟩, Blk.new _ _ _, ⟨below_alloc (Below.refl _ _) _⟩⟩
  case round =>
    obtain ⟨k, rfl, hk, HZ, H1, HB⟩ := hrel
    by_cases hlt : k < l.length
    · obtain ⟨ad, m, hmm, rfl, hm9, hc⟩ := at_mat HR.out k hlt
      have HC := Aside0.mk (fun j (hj : j < 9) => (HB.out.cell (World.block_lt_of_cell? w _ (hc j hj))).trans (hc j hj))
      have HM := Aside0.mk (And.intro hmm hm9)
      have heq := fun w => run_eql_mat w 103 Try.underlying103 HG.out hm9
      clear hmm hm9 hc
      by_cases hs : g = m
      · have hsb : sameB g m = true := decide_eq_true hs
        have HS := Aside0.mk hs
        clear hs
        go_wp2
        (refine wp_region_quiet_lit (by kernel_rfl) (by kernel_rfl) ?_; repeat (quiet_step (fail)))
        refine quiet_load_mat (by rfl) _ 3 rfl ⟨w.heap.size, 0, none⟩ rfl g HG.out (by rintro W ⟨nq, rfl⟩ j hj; exact (by rw [add_plain]; exact H1.cell j (mcells_get g j (by rw [HG.out]; exact hj)))) _ Try.underlying103 rfl sizeM (by simp only [Act.put, List.setIfInBounds_toArray, List.set_cons_zero, List.set_cons_succ]; rfl) ?_
        repeat (quiet_step (fail))
        refine quiet_load_mat (by rfl) _ 14 rfl (ad.add (k * 9)) rfl m HM.out.2 (by rintro W ⟨nq, rfl⟩ j hj; exact (by rw [add_add']; exact HC.out j hj)) _ Try.underlying103 rfl sizeM (by simp only [Act.put, List.setIfInBounds_toArray, List.set_cons_zero, List.set_cons_succ]; rfl) ?_
        (repeat (quiet_step (fail))); (refine wpQuiet_nil ?_; intro _ hw'; obtain ⟨nq, hw''⟩ := hw'; subst hw'')
        go_wp2
        go_ret
        exact ⟨ret_i (findM_at hlt HZ.out (by rw [← HM.out.1]; exact HS.out.symm)).symm, (by repeat (first | (with_reducible first | exact HB.out | apply below_alloc | apply pw_below_drewN | apply below_drew1) | exact HB.out | exact Below.refl _ _))⟩
      · have hsb : sameB g m = false := decide_eq_false hs
        have HS := Aside0.mk hs
        clear hs
        go_wp2
        (refine wp_region_quiet_lit (by kernel_rfl) (by kernel_rfl) ?_; repeat (quiet_step (fail)))
        refine quiet_load_mat (by rfl) _ 3 rfl ⟨w.heap.size, 0, none⟩ rfl g HG.out (by rintro W ⟨nq, rfl⟩ j hj; exact (by rw [add_plain]; exact H1.cell j (mcells_get g j (by rw [HG.out]; exact hj)))) _ Try.underlying103 rfl sizeM (by simp only [Act.put, List.setIfInBounds_toArray, List.set_cons_zero, List.set_cons_succ]; rfl) ?_
        repeat (quiet_step (fail))
        refine quiet_load_mat (by rfl) _ 14 rfl (ad.add (k * 9)) rfl m HM.out.2 (by rintro W ⟨nq, rfl⟩ j hj; exact (by rw [add_add']; exact HC.out j hj)) _ Try.underlying103 rfl sizeM (by simp only [Act.put, List.setIfInBounds_toArray, List.set_cons_zero, List.set_cons_succ]; rfl) ?_
        (repeat (quiet_step (fail))); (refine wpQuiet_nil ?_; intro _ hw'; obtain ⟨nq, hw''⟩ := hw'; subst hw'')
        go_wp2
        go_roundw
        case rel => exact ⟨k + 1, by go_num, by omega, ⟨fun j hj => by rcases Nat.lt_succ_iff_lt_or_eq.1 hj with h | h; exact HZ.out j h; subst h; rw [← HM.out.1]; exact fun e => HS.out e.symm⟩, H1.drewN _, ⟨(by repeat (first | (with_reducible first | exact HB.out | apply below_alloc | apply pw_below_drewN | apply below_drew1) | exact HB.out | exact Below.refl _ _))⟩⟩
        case measure => simp [intOf]; omega
    · have HE := Aside0.mk (show k = l.length by omega)
      go_wp2
      go_ret
      exact ⟨ret_i (findM_none (by rw [← HE.out]; exact HZ.out)).symm, HB.out⟩

def hasB (l : List (List Int)) (g : List Int) : Bool := decide (g ∈ l)
theorem findM_hasB (l : List (List Int)) (g : List Int) : decide (0 ≤ findM l g) = hasB l g := by
  unfold hasB
  rw [Bool.eq_iff_iff, decide_eq_true_iff, decide_eq_true_iff]
  exact findM_mem
set_option maxHeartbeats 1000000 in
theorem contains_calls (A : Option Addr) (n c : Nat) (l : List (List Int)) (g : List Int) (w : World) (hr : kM.C w A n l) (hg : g.length = 9) :
    Calls Try.prog 133 #[.slice A n c, .agg (mcells g)] w fun e w' => e = .returned (.bool (hasB l g)) ∧ Below w.heap.size w w' := by
  have HR := Aside0.mk hr
  have HG := Aside0.mk hg
  clear hr hg
  go_enter Try.func133, Try.ntmps133
  have H1 := Blk.new w (mcells g) 103
  go_wp2_with (first
    | (refine load_blk rfl _ 3 rfl H1 rfl _ Try.underlying103 rfl (sizeM_of HG.out) ?_)
    | (go_at_call 155; refine (index_calls _ _ _ l g _ (Kd.C_alloc HR.out _) HG.out).mono ?_; rintro e w' ⟨rfl, hb⟩; have HB := Aside0.mk hb; clear hb))
  go_ret
  exact ⟨ret_b (findM_hasB l g), below_step (below_alloc (Below.refl _ _) _) HB.out⟩
set_option maxHeartbeats 1000000 in
theorem has_calls (p n : Int) (A : Option Addr) (k c : Nat) (l : List (List Int)) (g : List Int) (w : World) (hr : kM.C w A k l) (hg : g.length = 9) :
    Calls Try.prog 97 #[.agg #[.int .i64 p, .int .i64 n, .slice A k c], .agg (mcells g)] w fun e w' => e = .returned (.bool (hasB l g)) ∧ Below w.heap.size w w' := by
  have HR := Aside0.mk hr
  have HG := Aside0.mk hg
  clear hr hg
  go_enter Try.func97, Try.ntmps97
  have H1 := Blk.new1 w (.cells #[.int .i64 p, .int .i64 n, .slice A k c] 44) (mcells g) 103
  go_wp2_with (first
    | (refine load_blk rfl _ 3 rfl H1 rfl _ Try.underlying103 rfl (sizeM_of HG.out) ?_)
    | (go_at_call 133; refine (contains_calls _ _ _ l g _ (Kd.C_alloc (Kd.C_alloc HR.out _) _) HG.out).mono ?_; rintro e w' ⟨rfl, hb⟩; have HB := Aside0.mk hb; clear hb))
  go_ret
  exact ⟨rfl, below_step (below_alloc (below_alloc (Below.refl _ _) _) _) HB.out⟩

theorem cmp_bytes : ∀ (a b : List Int), (∀ x ∈ a, 0 ≤ x ∧ x ≤ 255) → (∀ x ∈ b, 0 ≤ x ∧ x ≤ 255) → Lib.compareBytes (a.map fun x => x.toNat.toUInt8) (b.map fun x => x.toNat.toUInt8) = cmpL a b
  | [], [], _, _ => rfl
  | [], _ :: _, _, _ => rfl
  | _ :: _, [], _, _ => rfl
  | a :: as', b :: bs, ha, hb => by
    have h1 := ha a (List.mem_cons_self ..)
    have h2 := hb b (List.mem_cons_self ..)
    have ih := cmp_bytes as' bs (fun x hx => ha x (List.mem_cons_of_mem _ hx)) (fun x hx => hb x (List.mem_cons_of_mem _ hx))
    have e1 : (a.toNat.toUInt8 < b.toNat.toUInt8) ↔ a < b := by
      rw [UInt8.lt_iff_toNat_lt]; simp; omega
    have e2 : (b.toNat.toUInt8 < a.toNat.toUInt8) ↔ b < a := by
      rw [UInt8.lt_iff_toNat_lt]; simp; omega
    simp only [List.map_cons, Lib.compareBytes, cmpL, e1, e2, ih]
theorem run_loadBytes3 {P : Program} (w : World) (ad : Addr) (a : List Int) (ha : a.length = 3) (hc : ∀ j, j < 3 → w.cell? (ad.add j) = some (.int .u8 (nt a j))) :
    (Extern.Bytes.loadBytes ad 3 .empty).run P w = .ok ⟨(a.map fun x => x.toNat.toUInt8).toArray⟩ w := by
  obtain ⟨x, y, z, rfl⟩ : ∃ x y z, a = [x, y, z] := by
    match a, ha with
    | [x, y, z], _ => exact ⟨x, y, z, rfl⟩
  have c0 := hc 0 (by omega)
  have c1 := hc 1 (by omega)
  have c2 := hc 2 (by omega)
  have e1 : (ad.add 1).add 1 = ad.add 2 := add_add' _ _ _
  rw [show ad.add 0 = ad by simp [Addr.add]] at c0
  have l0 : (load ad).run P w = .ok (.int .u8 x) w := by rw [run_load, c0]; rfl
  have l1 : (load (ad.add 1)).run P w = .ok (.int .u8 y) w := by rw [run_load, c1]; rfl
  have l2 : (load (ad.add 2)).run P w = .ok (.int .u8 z) w := by rw [run_load, c2]; rfl
  simp only [Extern.Bytes.loadBytes, Sem.run_bind, l0, Result.andThen_ok, l1, e1, l2, Sem.run_pure]
  rfl
theorem run_cmp3 {P : Program} (w : World) (ad ad' : Addr) (c c' : Nat) (a b : List Int) (ha : a.length = 3) (hb : b.length = 3) (ba : ∀ x ∈ a, 0 ≤ x ∧ x ≤ 255) (bb : ∀ x ∈ b, 0 ≤ x ∧ x ≤ 255)
    (hc : ∀ j, j < 3 → w.cell? (ad.add j) = some (.int .u8 (nt a j))) (hc' : ∀ j, j < 3 → w.cell? (ad'.add j) = some (.int .u8 (nt b j))) :
    (Extern.BytealgCompare.compare #[.slice (some ad) 3 c, .slice (some ad') 3 c']).run P w = .ok (.int .i64 (cmpL a b)) w := by
  change Sem.run P (do pure (goInt (Extern.BytealgCompare.cmp (← Extern.Bytes.bytesOf (.slice (some ad) 3 c)) (← Extern.Bytes.bytesOf (.slice (some ad') 3 c'))))) w = _
  simp only [Extern.Bytes.bytesOf, Sem.run_bind, run_loadBytes3 w ad a ha hc, Result.andThen_ok, run_loadBytes3 w ad' b hb hc', Sem.run_pure]
  rw [Lib.cmp_eq]
  show Result.ok (goInt (Lib.compareBytes (a.map fun x => x.toNat.toUInt8) (b.map fun x => x.toNat.toUInt8))) w = _
  rw [cmp_bytes a b ba bb]
  rfl

set_option maxRecDepth 100000 in
theorem bytesCompare_calls (ad ad' : Addr) (c c' : Nat) (a b : List Int) (w : World) (ha : a.length = 3) (hb : b.length = 3) (ba : ∀ x ∈ a, 0 ≤ x ∧ x ≤ 255) (bb : ∀ x ∈ b, 0 ≤ x ∧ x ≤ 255)
    (hc : ∀ j, j < 3 → w.cell? (ad.add j) = some (.int .u8 (nt a j))) (hc' : ∀ j, j < 3 → w.cell? (ad'.add j) = some (.int .u8 (nt b j))) :
    Calls Try.prog 132 #[.slice (some ad) 3 c, .slice (some ad') 3 c'] w fun e w' => e = .returned (.int .i64 (cmpL a b)) ∧ w' = w := by
  have HR := Aside0.mk (run_cmp3 (P := Try.prog) w ad ad' c c' a b ha hb ba bb hc hc')
  clear ha hb ba bb hc hc'
  go_enter Try.func132, Try.ntmps132
  go_wp2
  rw [run_callFunc_extern Try.func154 (by kernel_rfl) (by kernel_rfl) (by kernel_rfl) (e := Extern.BytealgCompare.compare) (by kernel_rfl), HR.out]
  simp only [Result.andThen]
  rw [Oper.upon_value]
  go_wp2
  go_ret
  exact ⟨rfl, rfl⟩

set_option maxRecDepth 100000 in
set_option maxHeartbeats 1000000 in
theorem compareMatrices_calls (m g : List Int) (w : World) (hm : IsM m) (hg : IsM g) :
    Calls Try.prog 96 #[.agg (mcells m), .agg (mcells g)] w fun e w' => e = .returned (.int .i64 (cmpL m g)) ∧ Below w.heap.size w w' := by
  have HM := Aside0.mk hm
  have HG := Aside0.mk hg
  clear hm hg
  go_enter Try.func96, Try.ntmps96
  go_wp2
  go_loopw [7] (fun v wr => ∃ k : Nat, v = .int .i64 k ∧ k ≤ 3 ∧ Aside0 (∀ j < k * 3, nt m j = nt g j) ∧ Blk wr w.heap.size 103 (mcells m) ∧ Blk wr (w.heap.size + 1) 103 (mcells g) ∧ Aside0 (Below w.heap.size w wr)) (fun v _ => 3 - (intOf v).toNat)
  case atStart => exact ⟨0, rfl, by omega, ⟨fun j hj => by omega⟩, (Blk.new _ _ _).alloc _, Blk.new1 _ _ _ _, ⟨below_alloc (below_alloc (Below.refl _ _) _) _⟩⟩
  case round =>
    obtain ⟨k, rfl, hk, HZ, H1, H2, HB⟩ := hrel
    by_cases hlt : k < 3
    · have HC := Aside0.mk (fun (W : World) (nq : Nat) (hW : W = wr.drewN nq) => bytesCompare_calls ⟨w.heap.size, k * 3, none⟩ ⟨w.heap.size + 1, k * 3, none⟩ 3 3 (rowM m k) (rowM g k) W (rowM_len HM.out.1 hlt) (rowM_len HG.out.1 hlt)
        (fun x hx => HM.out.2 x (List.mem_of_mem_drop (List.mem_of_mem_take hx))) (fun x hx => HG.out.2 x (List.mem_of_mem_drop (List.mem_of_mem_take hx)))
        (fun j hj => by rw [rowM_nt HM.out.1 hlt hj, hW, Addr.add_lit]; exact (H1.drewN nq).cell _ (mcells_get m _ (by have := HM.out.1; omega)))
        (fun j hj => by rw [rowM_nt HG.out.1 hlt hj, hW, Addr.add_lit]; exact (H2.drewN nq).cell _ (mcells_get g _ (by have := HG.out.1; omega))))
      have hcs := cmpL_cases (rowM m k) (rowM g k)
      by_cases hs : cmpL (rowM m k) (rowM g k) = 0
      · have hb : (cmpL (rowM m k) (rowM g k) != 0) = false := by simp [hs]
        have HN := Aside0.mk (rows_next HM.out.1 HG.out.1 hlt HZ.out hs)
        clear hs hcs
        go_wp2
        go_quiet ((go_at_call 132; exact Calls.quiet_of_same (HC.out _ _ rfl)))
        go_wp2
        go_roundw
        case rel => exact ⟨k + 1, by go_num, by omega, HN, H1.drewN _, H2.drewN _, ⟨(by repeat (first | (with_reducible first | exact HB.out | apply below_alloc | apply pw_below_drewN | apply below_drew1) | exact HB.out | exact Below.refl _ _))⟩⟩
        case measure => simp [intOf]; omega
      · have hb : (cmpL (rowM m k) (rowM g k) != 0) = true := by simpa using hs
        have HN := Aside0.mk (cmpL_row HM.out.1 HG.out.1 hlt HZ.out hs)
        clear hs hcs
        go_wp2
        go_quiet ((go_at_call 132; exact Calls.quiet_of_same (HC.out _ _ rfl)))
        go_wp2
        go_ret
        exact ⟨ret_i HN.out.symm, (by repeat (first | (with_reducible first | exact HB.out | apply below_alloc | apply pw_below_drewN | apply below_drew1) | exact HB.out | exact Below.refl _ _))⟩
    · have HE := Aside0.mk (show k = 3 by omega)
      go_wp2
      go_ret
      exact ⟨ret_i (cmpL_all HM.out.1 HG.out.1 (by have := HZ.out; rw [HE.out] at this; exact this)).symm, HB.out⟩

/-- Whether a matrix comes ahead. -/
def beforeB (m g : List Int) : Bool := decide (cmpL m g < 0)
set_option maxRecDepth 100000 in
set_option maxHeartbeats 1000000 in
theorem l02Before_calls (m g : List Int) (w : World) (hm : IsM m) (hg : IsM g) :
    Calls Try.prog 82 #[.agg (mcells m), .agg (mcells g)] w fun e w' => e = .returned (.bool (beforeB m g)) ∧ Below w.heap.size w w' := by
  have HM := Aside0.mk hm
  have HG := Aside0.mk hg
  clear hm hg
  go_enter Try.func82, Try.ntmps82
  go_wp2
  go_loopw [5] (fun v wr => ∃ k : Nat, v = .int .i64 k ∧ k ≤ 3 ∧ Aside0 (∀ j < k * 3, nt m j = nt g j) ∧ Blk wr w.heap.size 103 (mcells m) ∧ Blk wr (w.heap.size + 1) 103 (mcells g) ∧ Aside0 (Below w.heap.size w wr)) (fun v _ => 3 - (intOf v).toNat)
  case atStart => exact ⟨0, rfl, by omega, ⟨fun j hj => by omega⟩, (Blk.new _ _ _).alloc _, Blk.new1 _ _ _ _, ⟨below_alloc (below_alloc (Below.refl _ _) _) _⟩⟩
  case round =>
    obtain ⟨k, rfl, hk, HZ, H1, H2, HB⟩ := hrel
    by_cases hlt : k < 3
    · go_wp2
      obtain ⟨wo, rfl⟩ : ∃ wo, wo = wr := ⟨_, rfl⟩
      go_loopw [6] (fun v wr => ∃ q : Nat, v = .int .i64 q ∧ q ≤ 3 ∧ Aside0 (∀ j < k * 3 + q, nt m j = nt g j) ∧ Blk wr w.heap.size 103 (mcells m) ∧ Blk wr (w.heap.size + 1) 103 (mcells g) ∧ Aside0 (Below w.heap.size w wr)) (fun v _ => 3 - (intOf v).toNat)
      case atStart => exact ⟨0, rfl, by omega, HZ, H1, H2, HB⟩
      case round =>
        clear HZ H1 H2 HB
        obtain ⟨q, rfl, hq, HZ, H1, H2, HB⟩ := hrel
        by_cases hql : q < 3
        · have c1 := H1.cell (k * 3 + q) (mcells_get m _ (by have := HM.out.1; omega))
          have c2 := H2.cell (k * 3 + q) (mcells_get g _ (by have := HG.out.1; omega))
          have hl1 : k * 3 + q < m.length := by have := HM.out.1; omega
          have hl2 : k * 3 + q < g.length := by have := HG.out.1; omega
          rcases Int.lt_trichotomy (nt m (k * 3 + q)) (nt g (k * 3 + q)) with h | h | h
          · have hb : (nt m (k * 3 + q) != nt g (k * 3 + q)) = true := by rw [bne_iff_ne]; omega
            have hb2 : decide (nt m (k * 3 + q) < nt g (k * 3 + q)) = true := decide_eq_true h
            have HN := Aside0.mk (show beforeB m g = true from decide_eq_true (by rw [cmpL_lt hl1 hl2 HZ.out h]; omega))
            clear h hl1 hl2
            go_wp2
            go_quiet (fail)
            go_wp2
            go_quiet (fail)
            go_wp2
            go_ret
            exact ⟨ret_b HN.out.symm, (by repeat (first | (with_reducible first | exact HB.out | apply below_alloc | apply pw_below_drewN | apply below_drew1) | exact HB.out | exact Below.refl _ _))⟩
          · have hb : (nt m (k * 3 + q) != nt g (k * 3 + q)) = false := by simp [h]
            have HN := Aside0.mk h
            clear h hl1 hl2
            go_wp2
            go_quiet (fail)
            go_wp2
            go_roundw
            case rel => exact ⟨q + 1, by go_num, by omega, ⟨fun j hj => by rcases Nat.lt_succ_iff_lt_or_eq.1 (show j < (k * 3 + q) + 1 by omega) with h | h; exact HZ.out j h; subst h; exact HN.out⟩, H1.drewN _, H2.drewN _, ⟨(by repeat (first | (with_reducible first | exact HB.out | apply below_alloc | apply pw_below_drewN | apply below_drew1) | exact HB.out | exact Below.refl _ _))⟩⟩
            case measure => simp [intOf]; omega
          · have hb : (nt m (k * 3 + q) != nt g (k * 3 + q)) = true := by rw [bne_iff_ne]; omega
            have hb2 : decide (nt m (k * 3 + q) < nt g (k * 3 + q)) = false := decide_eq_false (by omega)
            have HN := Aside0.mk (show beforeB m g = false from decide_eq_false (by rw [cmpL_gt hl1 hl2 HZ.out h]; omega))
            clear h hl1 hl2
            go_wp2
            go_quiet (fail)
            go_wp2
            go_quiet (fail)
            go_wp2
            go_ret
            exact ⟨ret_b HN.out.symm, (by repeat (first | (with_reducible first | exact HB.out | apply below_alloc | apply pw_below_drewN | apply below_drew1) | exact HB.out | exact Below.refl _ _))⟩
        · have hqe : q = 3 := by omega
          have HN : Aside0 (∀ j < (k + 1) * 3, nt m j = nt g j) := ⟨fun j hj => HZ.out j (by omega)⟩
          clear hqe
          go_wp2
          go_roundw
          case rel => exact ⟨k + 1, by go_num, by omega, HN, H1, H2, HB⟩
          case measure => simp [intOf]; omega
    · have HE := Aside0.mk (show k = 3 by omega)
      go_wp2
      go_ret
      exact ⟨ret_b (by unfold beforeB; rw [cmpL_all HM.out.1 HG.out.1 (by have := HZ.out; rw [HE.out] at this; exact this)]; rfl), HB.out⟩
end Go.Proofs.Ytbenhcognapdpaa
