/- Own texts of this claim, in one file: Law3, PolW1, PolW2, Tm. -/
import Derived.Test.YtbenhcognapdpaaGreatKR9e
import Derived.Test.YtbenhcognapdpaaGreatKR9f
import Derived.Test.YtbenhcognapdpaaGreatKR9b
import Derived.Test.YtbenhcognapdpaaGreatKR9c
import Derived.Deep.WholeRow
/- Walks: the laws' comparisons of groups that are alike. -/
set_option linter.unusedVariables false
set_option linter.unusedSimpArgs false
namespace Go.Proofs.YtbenhcognapdpaaGreat
open Go.RowKit Go.Proofs.YtbenhcognapdpaaGreatW.PrintWords Go.Proofs.YtbenhcognapdpaaGreatW.PrintLast Lin

theorem Blk.row {w : World} {g t : Nat} {m : List Int} (H : Blk w g t (mcells m)) (hm : m.length = 9) {i : Nat} (hi : i < 3) : At w ⟨g, i * 3, none⟩ (mcells (rowM m i)) := by
  intro j v hv
  have hj : j < 3 := by
    have := (Array.getElem?_eq_some_iff.1 hv).1
    rw [mcells_size, rowM_len hm hi] at this
    exact this
  rw [mcells_get _ _ (by rw [rowM_len hm hi]; exact hj), rowM_nt hm hi hj] at hv
  rw [← hv, Addr.add_lit]
  exact H.cell _ (mcells_get m _ (by omega))
theorem size73_of {a : List Int} (h : a.length = 3) : (Tryz.prog.info? 82).map (·.size) = some (mcells a).size := by rw [mcells_size, h]; exact size73

set_option maxRecDepth 100000 in
set_option maxHeartbeats 400000 in
theorem eqByteA3_same (a : List Int) (w : World) (ha : a.length = 3) :
    Calls Tryz.prog 210 #[.agg (mcells a), .agg (mcells a)] w fun e w' => e = .returned (.bool true) ∧ Below w.heap.size w w' := by
  go_enter Tryz.func210, Tryz.ntmps210
  go_wp2
  go_loopw [5] (fun v wr => ∃ k : Nat, v = .int .i64 k ∧ k ≤ 3 ∧ Blk wr w.heap.size 82 (mcells a) ∧ Blk wr (w.heap.size + 1) 82 (mcells a) ∧ Aside0 (Below w.heap.size w wr)) (fun v _ => 3 - (intOf v).toNat)
  case atStart => exact ⟨0, rfl, by omega, (Blk.new _ _ _).alloc _, Blk.new1 _ _ _ _, ⟨below_alloc (below_alloc (Below.refl _ _) _) _⟩⟩
  case round =>
    obtain ⟨k, rfl, hk, H1, H2, HB⟩ := hrel
    by_cases hlt : k < 3
    · have c1 := H1.cell k (mcells_get a k (by omega))
      have c2 := H2.cell k (mcells_get a k (by omega))
      have hb : (nt a k != nt a k) = false := by simp
      have hd3 : decide ((k : Int) < 3) = true := decide_eq_true (by omega)
      go_wp2
      go_quiet (fail)
      go_wp2
      go_roundw
      case rel => exact ⟨k + 1, by go_num, by omega, H1.drewN _, H2.drewN _, ⟨(by repeat (first | (with_reducible first | exact HB.out | apply below_alloc | apply pw_below_drewN | apply below_drew1) | exact HB.out | exact Below.refl _ _))⟩⟩
      case measure => simp [intOf]; omega
    · go_wp2
      go_ret
      exact ⟨rfl, HB.out⟩
set_option maxRecDepth 100000 in
set_option maxHeartbeats 400000 in
theorem eqMatrix_same (m : List Int) (w : World) (hm : m.length = 9) :
    Calls Tryz.prog 135 #[.agg (mcells m), .agg (mcells m)] w fun e w' => e = .returned (.bool true) ∧ Below w.heap.size w w' := by
  go_enter Tryz.func135, Tryz.ntmps135
  go_wp2
  go_loopw [5] (fun v wr => ∃ k : Nat, v = .int .i64 k ∧ k ≤ 3 ∧ Blk wr w.heap.size 138 (mcells m) ∧ Blk wr (w.heap.size + 1) 138 (mcells m) ∧ Aside0 (Below w.heap.size w wr)) (fun v _ => 3 - (intOf v).toNat)
  case atStart => exact ⟨0, rfl, by omega, (Blk.new _ _ _).alloc _, Blk.new1 _ _ _ _, ⟨below_alloc (below_alloc (Below.refl _ _) _) _⟩⟩
  case round =>
    obtain ⟨k, rfl, hk, H1, H2, HB⟩ := hrel
    by_cases hlt : k < 3
    · have hd3 : decide ((k : Int) < 3) = true := decide_eq_true (by omega)
      have hk3 : (k : Int) < 3 := by omega
      have HK := Aside0.mk (fun W => eqByteA3_same (rowM m k) W (rowM_len hm hlt))
      go_wp2
      refine start_ (n := 8) (S := fun w' => At w' ⟨w.heap.size, k * 3, none⟩ (mcells (rowM m k)) ∧ At w' ⟨w.heap.size + 1, k * 3, none⟩ (mcells (rowM m k))) (ds := []) #[Nn,Nn,Nn,Nn,Nn,Nn,Nn,Nn] (by kernel_rfl) rfl rfl ⟨(H1.drew.row hm hlt), (H2.drew.row hm hlt)⟩ (fun hHeld => ?_)
      refine pure_ (i := 0) (N := some 10) (v := ?_) (a' := ?_) #[Yy,Nn,Nn,Nn,Nn,Nn,Nn,Nn] rfl rfl (by kernel_rfl) (fun _ _ _ h => h) (Or.inl ⟨by rfl, ?_⟩) ?_ ?_
      rotate_left
      · intro w'
        go_simp
        with_reducible rfl
      rotate_left
      · simp only [Act.put, List.setIfInBounds_toArray, List.set_cons_zero, List.set_cons_succ, i64_w, i32_w]
        rfl
      refine pure_ (i := 1) (N := some 11) (v := ?_) (a' := ?_) #[Yy,Yy,Nn,Nn,Nn,Nn,Nn,Nn] rfl rfl (by kernel_rfl) (fun _ _ _ h => h) (Or.inl ⟨by rfl, ?_⟩) ?_ ?_
      rotate_left
      · intro w'
        go_simp
        with_reducible rfl
      rotate_left
      · simp only [Act.put, List.setIfInBounds_toArray, List.set_cons_zero, List.set_cons_succ, i64_w, i32_w]
        rfl
      refine pure_ (i := 3) (N := some 13) (v := ?_) (a' := ?_) #[Yy,Yy,Nn,Yy,Nn,Nn,Nn,Nn] rfl rfl (by kernel_rfl) (fun _ _ _ h => h) (Or.inl ⟨by rfl, ?_⟩) ?_ ?_
      rotate_left
      · intro w'
        go_simp
        with_reducible rfl
      rotate_left
      · simp only [Act.put, List.setIfInBounds_toArray, List.set_cons_zero, List.set_cons_succ, i64_w, i32_w]
        rfl
      refine pure_ (i := 4) (N := some 14) (v := ?_) (a' := ?_) #[Yy,Yy,Nn,Yy,Yy,Nn,Nn,Nn] rfl rfl (by kernel_rfl) (fun _ _ _ h => h) (Or.inl ⟨by rfl, ?_⟩) ?_ ?_
      rotate_left
      · intro w'
        go_simp
        with_reducible rfl
      rotate_left
      · simp only [Act.put, List.setIfInBounds_toArray, List.set_cons_zero, List.set_cons_succ, i64_w, i32_w]
        rfl
      refine take_ (i := 2) (N := some 12) (v := ?_) (a' := ?_) #[Yy,Yy,Yy,Yy,Yy,Nn,Nn,Nn] rfl rfl (by kernel_rfl) (fun _ _ _ h => h) (Or.inl ⟨by rfl, ?_⟩) hHeld ?_ ?_
      rotate_left
      · rintro w' ⟨s0, s1⟩
        refine Eq.trans (run_op_load' s0 (by rfl) (by rfl) Tryz.underlying82 rfl (size73_of (rowM_len hm hlt))) ?_
        with_reducible rfl
      rotate_left
      · simp only [Act.put, List.setIfInBounds_toArray, List.set_cons_zero, List.set_cons_succ, i64_w, i32_w]
        rfl
      refine take_ (i := 5) (N := some 15) (v := ?_) (a' := ?_) #[Yy,Yy,Yy,Yy,Yy,Yy,Nn,Nn] rfl rfl (by kernel_rfl) (fun _ _ _ h => h) (Or.inl ⟨by rfl, ?_⟩) hHeld ?_ ?_
      rotate_left
      · rintro w' ⟨s0, s1⟩
        refine Eq.trans (run_op_load' s1 (by rfl) (by rfl) Tryz.underlying82 rfl (size73_of (rowM_len hm hlt))) ?_
        with_reducible rfl
      rotate_left
      · simp only [Act.put, List.setIfInBounds_toArray, List.set_cons_zero, List.set_cons_succ, i64_w, i32_w]
        rfl
      refine one_ (i := 6) (N := some 16) #[Yy,Yy,Yy,Yy,Yy,Yy,Yy,Nn] rfl rfl (by kernel_rfl) (by decide) (fun K hK => ?_)
      refine goes_ Tryz.func210 (by kernel_rfl) rfl #[.agg (mcells (rowM m k)), .agg (mcells (rowM m k))] (by rfl) rfl rfl (by simp only [List.map_toArray, List.map_cons, List.map_nil]; rfl) ?_
      with_reducible refine (HK.out _).mono ?_
      rintro e w2 ⟨rfl, hb⟩
      refine ⟨_, rfl, ?_⟩
      replace H1 := H1.drew.keep hb
      replace H2 := H2.drew.keep hb
      replace HB := Aside0.mk (below_step (below_drew1 HB.out) hb)
      clear hb
      refine hK.out _ _ ⟨H1.row hm hlt, H2.row hm hlt⟩ (fun hHeld => ?_)
      clear hK K
      refine norm_ (a' := ?_) ?_ ?_
      rotate_left
      · show Act.put _ (some 16) _ = _
        simp only [Act.put, List.setIfInBounds_toArray, List.set_cons_zero, List.set_cons_succ, i64_w, i32_w]
        rfl
      refine pure_ (i := 7) (N := some 17) (v := ?_) (a' := ?_) #[Yy,Yy,Yy,Yy,Yy,Yy,Yy,Yy] rfl rfl (by kernel_rfl) (fun _ _ _ h => h) (Or.inl ⟨by rfl, ?_⟩) ?_ ?_
      rotate_left
      · intro w'
        go_simp
        with_reducible rfl
      rotate_left
      · simp only [Act.put, List.setIfInBounds_toArray, List.set_cons_zero, List.set_cons_succ, i64_w, i32_w]
        rfl
      refine done_ (by kernel_rfl) ?_
      go_wp2
      go_roundw
      case rel => exact ⟨k + 1, by go_num, by omega, H1, H2, HB⟩
      case measure => simp [intOf]; omega
    · go_wp2
      go_ret
      exact ⟨rfl, HB.out⟩
set_option maxRecDepth 100000 in
set_option maxHeartbeats 400000 in
theorem eqMatrixS_same (A : Option Addr) (n c : Nat) (A' : Option Addr) (n' c' : Nat) (l : List (List Int)) (w : World) (hr : kM.C w A n l) (hr' : kM.C w A' n' l) :
    Calls Tryz.prog 64 #[.slice A n c, .slice A' n' c'] w fun e w' => e = .returned (.bool true) ∧ Below w.heap.size w w' := by
  obtain rfl := Kd.C_len hr
  obtain rfl := Kd.C_len hr'
  have hmx := Kd.C_max hr
  have HR := Aside0.mk hr
  have HR' := Aside0.mk hr'
  clear hr hr'
  go_enter Tryz.func64, Tryz.ntmps64
  go_wp2
  go_loopw [5] (fun v wr => ∃ k : Nat, v = .int .i64 k ∧ k ≤ l.length ∧ Aside0 (Below w.heap.size w wr)) (fun v _ => l.length - (intOf v).toNat)
  case atStart => exact ⟨0, rfl, by omega, ⟨Below.refl _ _⟩⟩
  case round =>
    obtain ⟨k, rfl, hk, HB⟩ := hrel
    by_cases hlt : k < l.length
    · obtain ⟨ad, m, hmm, rfl, hm9, hc⟩ := mat_at HR.out k hlt
      obtain ⟨ad', m', hmm', rfl, hm9', hc'⟩ := mat_at HR'.out k hlt
      obtain rfl : m' = m := hmm'.trans hmm.symm
      have HC := Aside0.mk (hc.below HB.out)
      have HC' := Aside0.mk (hc'.below HB.out)
      have HK := Aside0.mk (fun W => eqMatrix_same m' W hm9)
      clear hmm hmm' hc hc'
      go_wp2
      refine start_ (n := 10) (S := fun w' => MAt w' (ad.add (k * 9)) m' ∧ MAt w' (ad'.add (k * 9)) m') (ds := []) #[Nn,Nn,Nn,Nn,Nn,Nn,Nn,Nn,Nn,Nn] (by kernel_rfl) rfl rfl ⟨HC.out.drew, HC'.out.drew⟩ (fun hHeld => ?_)
      refine pure_ (i := 0) (N := some 17) (v := ?_) (a' := ?_) #[Yy,Nn,Nn,Nn,Nn,Nn,Nn,Nn,Nn,Nn] rfl rfl (by kernel_rfl) (fun _ _ _ h => h) (Or.inl ⟨by rfl, ?_⟩) ?_ ?_
      rotate_left
      · intro w'
        go_simp
        with_reducible rfl
      rotate_left
      · simp only [Act.put, List.setIfInBounds_toArray, List.set_cons_zero, List.set_cons_succ, i64_w, i32_w]
        rfl
      refine pure_ (i := 1) (N := some 18) (v := ?_) (a' := ?_) #[Yy,Yy,Nn,Nn,Nn,Nn,Nn,Nn,Nn,Nn] rfl rfl (by kernel_rfl) (fun _ _ _ h => h) (Or.inl ⟨by rfl, ?_⟩) ?_ ?_
      rotate_left
      · intro w'
        go_simp
        with_reducible rfl
      rotate_left
      · simp only [Act.put, List.setIfInBounds_toArray, List.set_cons_zero, List.set_cons_succ, i64_w, i32_w]
        rfl
      refine pure_ (i := 2) (N := some 19) (v := ?_) (a' := ?_) #[Yy,Yy,Yy,Nn,Nn,Nn,Nn,Nn,Nn,Nn] rfl rfl (by kernel_rfl) (fun _ _ _ h => h) (Or.inl ⟨by rfl, ?_⟩) ?_ ?_
      rotate_left
      · intro w'
        go_simp
        with_reducible rfl
      rotate_left
      · simp only [Act.put, List.setIfInBounds_toArray, List.set_cons_zero, List.set_cons_succ, i64_w, i32_w]
        rfl
      refine pure_ (i := 4) (N := some 21) (v := ?_) (a' := ?_) #[Yy,Yy,Yy,Nn,Yy,Nn,Nn,Nn,Nn,Nn] rfl rfl (by kernel_rfl) (fun _ _ _ h => h) (Or.inl ⟨by rfl, ?_⟩) ?_ ?_
      rotate_left
      · intro w'
        go_simp
        with_reducible rfl
      rotate_left
      · simp only [Act.put, List.setIfInBounds_toArray, List.set_cons_zero, List.set_cons_succ, i64_w, i32_w]
        rfl
      refine pure_ (i := 5) (N := some 22) (v := ?_) (a' := ?_) #[Yy,Yy,Yy,Nn,Yy,Yy,Nn,Nn,Nn,Nn] rfl rfl (by kernel_rfl) (fun _ _ _ h => h) (Or.inl ⟨by rfl, ?_⟩) ?_ ?_
      rotate_left
      · intro w'
        go_simp
        with_reducible rfl
      rotate_left
      · simp only [Act.put, List.setIfInBounds_toArray, List.set_cons_zero, List.set_cons_succ, i64_w, i32_w]
        rfl
      refine pure_ (i := 6) (N := some 23) (v := ?_) (a' := ?_) #[Yy,Yy,Yy,Nn,Yy,Yy,Yy,Nn,Nn,Nn] rfl rfl (by kernel_rfl) (fun _ _ _ h => h) (Or.inl ⟨by rfl, ?_⟩) ?_ ?_
      rotate_left
      · intro w'
        go_simp
        with_reducible rfl
      rotate_left
      · simp only [Act.put, List.setIfInBounds_toArray, List.set_cons_zero, List.set_cons_succ, i64_w, i32_w]
        rfl
      refine take_ (i := 3) (N := some 20) (v := ?_) (a' := ?_) #[Yy,Yy,Yy,Yy,Yy,Yy,Yy,Nn,Nn,Nn] rfl rfl (by kernel_rfl) (fun _ _ _ h => h) (Or.inl ⟨by rfl, ?_⟩) hHeld ?_ ?_
      rotate_left
      · rintro w' ⟨s0, s1⟩
        refine Eq.trans (run_op_load' s0 (by rfl) (by rfl) Tryz.underlying138 rfl (sizeM_of hm9)) ?_
        with_reducible rfl
      rotate_left
      · simp only [Act.put, List.setIfInBounds_toArray, List.set_cons_zero, List.set_cons_succ, i64_w, i32_w]
        rfl
      refine take_ (i := 7) (N := some 24) (v := ?_) (a' := ?_) #[Yy,Yy,Yy,Yy,Yy,Yy,Yy,Yy,Nn,Nn] rfl rfl (by kernel_rfl) (fun _ _ _ h => h) (Or.inl ⟨by rfl, ?_⟩) hHeld ?_ ?_
      rotate_left
      · rintro w' ⟨s0, s1⟩
        refine Eq.trans (run_op_load' s1 (by rfl) (by rfl) Tryz.underlying138 rfl (sizeM_of hm9)) ?_
        with_reducible rfl
      rotate_left
      · simp only [Act.put, List.setIfInBounds_toArray, List.set_cons_zero, List.set_cons_succ, i64_w, i32_w]
        rfl
      refine one_ (i := 8) (N := some 25) #[Yy,Yy,Yy,Yy,Yy,Yy,Yy,Yy,Yy,Nn] rfl rfl (by kernel_rfl) (by decide) (fun K hK => ?_)
      refine goes_ Tryz.func135 (by kernel_rfl) rfl #[.agg (mcells m'), .agg (mcells m')] (by rfl) rfl rfl (by simp only [List.map_toArray, List.map_cons, List.map_nil]; rfl) ?_
      with_reducible refine (HK.out _).mono ?_
      rintro e w2 ⟨rfl, hb⟩
      refine ⟨_, rfl, ?_⟩
      have HB2 := Aside0.mk hb
      clear hb
      refine hK.out _ _ ⟨HC.out.drew.below HB2.out, HC'.out.drew.below HB2.out⟩ (fun hHeld => ?_)
      clear hK K
      refine norm_ (a' := ?_) ?_ ?_
      rotate_left
      · show Act.put _ (some 25) _ = _
        simp only [Act.put, List.setIfInBounds_toArray, List.set_cons_zero, List.set_cons_succ, i64_w, i32_w]
        rfl
      refine pure_ (i := 9) (N := some 26) (v := ?_) (a' := ?_) #[Yy,Yy,Yy,Yy,Yy,Yy,Yy,Yy,Yy,Yy] rfl rfl (by kernel_rfl) (fun _ _ _ h => h) (Or.inl ⟨by rfl, ?_⟩) ?_ ?_
      rotate_left
      · intro w'
        go_simp
        with_reducible rfl
      rotate_left
      · simp only [Act.put, List.setIfInBounds_toArray, List.set_cons_zero, List.set_cons_succ, i64_w, i32_w]
        rfl
      refine done_ (by kernel_rfl) ?_
      go_wp2
      go_roundw
      case rel => exact ⟨k + 1, by go_num, by omega, ⟨below_step (below_drew1 HB.out) HB2.out⟩⟩
      case measure => simp [intOf]; omega
    · go_wp2
      go_ret
      exact ⟨rfl, HB.out⟩
theorem eqGroup_same (p n : Int) (A : Option Addr) (q c : Nat) (A' : Option Addr) (q' c' : Nat) (l : List (List Int)) (w : World) (hr : kM.C w A q l) (hr' : kM.C w A' q' l) :
    Calls Tryz.prog 20 #[.agg #[.int .i64 p, .int .i64 n, .slice A q c], .agg #[.int .i64 p, .int .i64 n, .slice A' q' c']] w fun e w' => e = .returned (.bool true) ∧ Below w.heap.size w w' := by
  have hb0 := below_alloc (below_alloc (Below.refl w.heap.size w) (.cells #[.int .i64 p, .int .i64 n, .slice A q c] 37)) (.cells #[.int .i64 p, .int .i64 n, .slice A' q' c'] 37)
  have HK := Aside0.mk (eqMatrixS_same A q c A' q' c' l _ (Kd.C_below hr hb0) (Kd.C_below hr' hb0))
  have HB0 := Aside0.mk hb0
  clear hr hr' hb0
  go_enter Tryz.func20, Tryz.ntmps20
  go_wp2_with ((go_at_call 64; refine HK.out.mono ?_; rintro e w2 ⟨rfl, hb⟩; have HB := Aside0.mk hb; clear hb))
  go_ret
  exact ⟨rfl, below_step HB0.out HB.out⟩
end Go.Proofs.YtbenhcognapdpaaGreat
/- Walks: degrees and the order of monomials. -/
set_option linter.unusedVariables false
set_option linter.unusedSimpArgs false
namespace Go.Proofs.YtbenhcognapdpaaGreat
open Go.RowKit Go.Proofs.YtbenhcognapdpaaGreatW.PrintWords Go.Proofs.YtbenhcognapdpaaGreatW.PrintLast Lin

theorem sizeE : (Tryz.prog.info? 83).map (·.size) = some 3 := by kernel_rfl
theorem sizeE_of {e : List Int} (h : e.length = 3) : (Tryz.prog.info? 83).map (·.size) = some (mcells e).size := by rw [mcells_size, h]; exact sizeE
set_option maxHeartbeats 400000 in
theorem degree_calls (e : List Int) (w : World) (he : Is3 e) :
    Calls Tryz.prog 156 #[.agg (mcells e)] w fun x w' => x = .returned (.int .i64 (degE e)) ∧ Below w.heap.size w w' := by
  have H1 := Blk.new w (mcells e) 83
  have c0 := H1.cell 0 (mcells_get e 0 (by have := he.1; omega))
  have c1 := H1.cell 1 (mcells_get e 1 (by have := he.1; omega))
  have c2 := H1.cell 2 (mcells_get e 2 (by have := he.1; omega))
  have b0 := he.nt 0
  have b1 := he.nt 1
  have b2 := he.nt 2
  go_enter Tryz.func156, Tryz.ntmps156
  go_wp2
  go_ret
  exact ⟨rfl, below_alloc (Below.refl _ _) _⟩
set_option maxHeartbeats 400000 in
theorem l01Sum_calls (e : List Int) (w : World) (he : Is3 e) :
    Calls Tryz.prog 196 #[.agg (mcells e)] w fun x w' => x = .returned (.int .i64 (degE e)) ∧ Below w.heap.size w w' := by
  have H1 := Blk.new w (mcells e) 83
  have c0 := H1.cell 0 (mcells_get e 0 (by have := he.1; omega))
  have c1 := H1.cell 1 (mcells_get e 1 (by have := he.1; omega))
  have c2 := H1.cell 2 (mcells_get e 2 (by have := he.1; omega))
  have b0 := he.nt 0
  have b1 := he.nt 1
  have b2 := he.nt 2
  go_enter Tryz.func196, Tryz.ntmps196
  go_wp2
  go_ret
  exact ⟨rfl, below_alloc (Below.refl _ _) _⟩
set_option maxRecDepth 100000 in
set_option maxHeartbeats 400000 in
theorem l01Exps_calls (d : Nat) (e : List Int) (w : World) (he : Is3 e) (hd : 1 ≤ d ∧ d ≤ 3) :
    Calls Tryz.prog 117 #[.int .i64 d, .agg (mcells e)] w fun x w' => x = .returned (.bool (expsB d e)) ∧ Below w.heap.size w w' := by
  have H1b := Blk.new w (mcells e) 83
  have HBb := Aside0.mk (below_alloc (Below.refl w.heap.size w) (.cells (mcells e) 83))
  have HE := Aside0.mk he
  go_enter Tryz.func117, Tryz.ntmps117
  go_wp2
  go_loopw [5] (fun v wr => ∃ k : Nat, v = .int .i64 k ∧ d ≤ k ∧ k ≤ 3 ∧ Aside0 (∀ j, d ≤ j → j < k → nt e j = 0) ∧ Blk wr w.heap.size 83 (mcells e) ∧ Aside0 (Below w.heap.size w wr)) (fun v _ => 3 - (intOf v).toNat)
  case atStart => exact ⟨d, rfl, by omega, by omega, ⟨fun j h1 h2 => by omega⟩, H1b, HBb⟩
  case round =>
    clear H1b HBb
    obtain ⟨k, rfl, hk1, hk, HZ, H1, HB⟩ := hrel
    by_cases hlt : k < 3
    · have c0 := H1.cell k (mcells_get e k (by have := HE.out.1; omega))
      have hd3 : decide ((k : Int) < 3) = true := decide_eq_true (by omega)
      by_cases h0 : nt e k = 0
      · have hb : (nt e k != 0) = false := by simp [h0]
        have HZ2 : Aside0 (∀ j, d ≤ j → j < k + 1 → nt e j = 0) := ⟨fun j h1 h2 => by rcases Nat.lt_succ_iff_lt_or_eq.1 h2 with h | h; exact HZ.out j h1 h; subst h; exact h0⟩
        clear h0
        go_wp2
        go_roundw
        case rel => exact ⟨k + 1, by go_num, by omega, by omega, HZ2, H1, HB⟩
        case measure => simp [intOf]; omega
      · have hb : (nt e k != 0) = true := by simpa using h0
        have HN : Aside0 (expsB d e = false) := ⟨decide_eq_false (fun h => h0 (h.1 k (by omega) hlt))⟩
        clear h0
        go_wp2
        go_ret
        exact ⟨ret_b HN.out.symm, HB.out⟩
    · obtain rfl : k = 3 := by omega
      have HNO : Aside0 (NoMore d e) := ⟨fun j h1 h2 => HZ.out j (by omega) h2⟩
      have HN : Aside0 (expsB d e = decide (degE e ≤ 12)) := ⟨by unfold expsB; rw [Bool.eq_iff_iff, decide_eq_true_iff, decide_eq_true_iff]; exact ⟨fun h => h.2, fun h => ⟨HNO.out, h⟩⟩⟩
      have HK := Aside0.mk (fun W => l01Sum_calls e W HE.out)
      obtain ⟨z, hz⟩ : ∃ z, z = degE e := ⟨_, rfl⟩
      rw [← hz] at HN HK
      clear hz
      go_wp2_with (first
        | (refine load_blk rfl _ 3 rfl H1 rfl _ Tryz.underlying83 rfl (sizeE_of HE.out.1) ?_)
        | (go_at_call 196; refine (HK.out _).mono ?_; rintro x w2 ⟨rfl, hb⟩; replace HB := Aside0.mk (below_step HB.out hb); clear hb))
      go_ret
      exact ⟨ret_b HN.out.symm, HB.out⟩
end Go.Proofs.YtbenhcognapdpaaGreat
/- Walks: which monomial comes first. -/
set_option linter.unusedVariables false
set_option linter.unusedSimpArgs false
namespace Go.Proofs.YtbenhcognapdpaaGreat
open Go.RowKit Go.Proofs.YtbenhcognapdpaaGreatW.PrintWords Go.Proofs.YtbenhcognapdpaaGreatW.PrintLast Lin

set_option maxRecDepth 100000 in
set_option maxHeartbeats 1000000 in
theorem compareExps_calls (a b : List Int) (w : World) (ha : Is3 a) (hb : Is3 b) :
    Calls Tryz.prog 157 #[.agg (mcells a), .agg (mcells b)] w fun x w' => x = .returned (.int .i64 (cmpE a b)) ∧ Below w.heap.size w w' := by
  have H1 := (Blk.new w (mcells a) 83).alloc (.cells (mcells b) 83)
  have H2 := Blk.new1 w (.cells (mcells a) 83) (mcells b) 83
  have HB := Aside0.mk (below_alloc (below_alloc (Below.refl w.heap.size w) (.cells (mcells a) 83)) (.cells (mcells b) 83))
  have HA := Aside0.mk ha
  have HBE := Aside0.mk hb
  have hda := ha.deg
  have hdb := hb.deg
  have a0 := ha.nt 0
  have a1 := ha.nt 1
  have b0 := hb.nt 0
  have b1 := hb.nt 1
  clear ha hb
  by_cases h0 : degE a - degE b = 0
  rotate_left
  · have hb : (degE a - degE b != 0) = true := by simpa using h0
    have HN : Aside0 (cmpE a b = degE a - degE b) := ⟨by unfold cmpE; rw [if_pos h0]⟩
    clear h0
    go_enter Tryz.func157, Tryz.ntmps157
    go_wp2
    refine start_ (n := 6) (S := fun w' => At w' ⟨w.heap.size, 0, none⟩ (mcells a) ∧ At w' ⟨w.heap.size + 1, 0, none⟩ (mcells b)) (ds := []) #[Nn,Nn,Nn,Nn,Nn,Nn] (by kernel_rfl) rfl rfl ⟨H1.drew.at, H2.drew.at⟩ (fun hHeld => ?_)
    refine take_ (i := 0) (N := some 6) (v := ?_) (a' := ?_) #[Yy,Nn,Nn,Nn,Nn,Nn] rfl rfl (by kernel_rfl) (fun _ _ _ h => h) (Or.inl ⟨by rfl, ?_⟩) hHeld ?_ ?_
    rotate_left
    · rintro w' ⟨s0, s1⟩
      refine Eq.trans (run_op_load' s0 (by rfl) (by rfl) Tryz.underlying83 rfl (sizeE_of HA.out.1)) ?_
      with_reducible rfl
    rotate_left
    · simp only [Act.put, List.setIfInBounds_toArray, List.set_cons_zero, List.set_cons_succ, i64_w, i32_w]
      rfl
    refine take_ (i := 2) (N := some 8) (v := ?_) (a' := ?_) #[Yy,Nn,Yy,Nn,Nn,Nn] rfl rfl (by kernel_rfl) (fun _ _ _ h => h) (Or.inl ⟨by rfl, ?_⟩) hHeld ?_ ?_
    rotate_left
    · rintro w' ⟨s0, s1⟩
      refine Eq.trans (run_op_load' s1 (by rfl) (by rfl) Tryz.underlying83 rfl (sizeE_of HBE.out.1)) ?_
      with_reducible rfl
    rotate_left
    · simp only [Act.put, List.setIfInBounds_toArray, List.set_cons_zero, List.set_cons_succ, i64_w, i32_w]
      rfl
    refine one_ (i := 1) (N := some 7) #[Yy,Yy,Yy,Nn,Nn,Nn] rfl rfl (by kernel_rfl) (by decide) (fun K hK => ?_)
    refine goes_ Tryz.func156 (by kernel_rfl) rfl #[.agg (mcells a)] (by rfl) rfl rfl (by simp only [List.map_toArray, List.map_cons, List.map_nil]; rfl) ?_
    with_reducible refine (degree_calls a _ HA.out).mono ?_
    rintro e w2 ⟨rfl, hb⟩
    refine ⟨_, rfl, ?_⟩
    replace H1 := H1.drew.keep hb
    replace H2 := H2.drew.keep hb
    replace HB := Aside0.mk (below_step (below_drew1 HB.out) hb)
    clear hb
    refine hK.out _ _ ⟨H1.at, H2.at⟩ (fun hHeld => ?_)
    clear hK K
    refine norm_ (a' := ?_) ?_ ?_
    rotate_left
    · show Act.put _ (some 7) _ = _
      simp only [Act.put, List.setIfInBounds_toArray, List.set_cons_zero, List.set_cons_succ, i64_w, i32_w]
      rfl
    refine one_ (i := 3) (N := some 9) #[Yy,Yy,Yy,Yy,Nn,Nn] rfl rfl (by kernel_rfl) (by decide) (fun K hK => ?_)
    refine goes_ Tryz.func156 (by kernel_rfl) rfl #[.agg (mcells b)] (by rfl) rfl rfl (by simp only [List.map_toArray, List.map_cons, List.map_nil]; rfl) ?_
    with_reducible refine (degree_calls b _ HBE.out).mono ?_
    rintro e w3 ⟨rfl, hb⟩
    refine ⟨_, rfl, ?_⟩
    replace H1 := H1.keep hb
    replace H2 := H2.keep hb
    replace HB := Aside0.mk (below_step HB.out hb)
    clear hb
    refine hK.out _ _ ⟨H1.at, H2.at⟩ (fun hHeld => ?_)
    clear hK K
    refine norm_ (a' := ?_) ?_ ?_
    rotate_left
    · show Act.put _ (some 9) _ = _
      simp only [Act.put, List.setIfInBounds_toArray, List.set_cons_zero, List.set_cons_succ, i64_w, i32_w]
      rfl
    refine pure_ (i := 4) (N := some 10) (v := ?_) (a' := ?_) #[Yy,Yy,Yy,Yy,Yy,Nn] rfl rfl (by kernel_rfl) (fun _ _ _ h => h) (Or.inl ⟨by rfl, ?_⟩) ?_ ?_
    rotate_left
    · intro w'
      go_simp
      with_reducible rfl
    rotate_left
    · simp only [Act.put, List.setIfInBounds_toArray, List.set_cons_zero, List.set_cons_succ, i64_w, i32_w]
      rfl
    refine pure_ (i := 5) (N := some 5) (v := ?_) (a' := ?_) #[Yy,Yy,Yy,Yy,Yy,Yy] rfl rfl (by kernel_rfl) (fun _ _ _ h => h) (Or.inl ⟨by rfl, ?_⟩) ?_ ?_
    rotate_left
    · intro w'
      go_simp
      with_reducible rfl
    rotate_left
    · simp only [Act.put, List.setIfInBounds_toArray, List.set_cons_zero, List.set_cons_succ, i64_w, i32_w]
      rfl
    refine done_ (by kernel_rfl) ?_
    have hw : wrap64 (degE a - degE b) = degE a - degE b := by unfold wrap64; omega
    go_wp2
    go_ret
    exact ⟨by rw [HN.out]; first | rfl | exact congrArg (fun z => Ending.returned (.int .i64 z)) hw, HB.out⟩
  have hb0 : (degE a - degE b != 0) = false := by simpa using h0
  by_cases h1 : nt a 0 = nt b 0
  rotate_left
  · have hb : (nt a 0 != nt b 0) = true := by simpa using h1
    have HN : Aside0 (cmpE a b = nt b 0 - nt a 0) := ⟨by unfold cmpE; rw [if_neg (by omega), if_pos h1]⟩
    clear h0 h1
    go_enter Tryz.func157, Tryz.ntmps157
    go_wp2
    refine start_ (n := 6) (S := fun w' => At w' ⟨w.heap.size, 0, none⟩ (mcells a) ∧ At w' ⟨w.heap.size + 1, 0, none⟩ (mcells b)) (ds := []) #[Nn,Nn,Nn,Nn,Nn,Nn] (by kernel_rfl) rfl rfl ⟨H1.drew.at, H2.drew.at⟩ (fun hHeld => ?_)
    refine take_ (i := 0) (N := some 6) (v := ?_) (a' := ?_) #[Yy,Nn,Nn,Nn,Nn,Nn] rfl rfl (by kernel_rfl) (fun _ _ _ h => h) (Or.inl ⟨by rfl, ?_⟩) hHeld ?_ ?_
    rotate_left
    · rintro w' ⟨s0, s1⟩
      refine Eq.trans (run_op_load' s0 (by rfl) (by rfl) Tryz.underlying83 rfl (sizeE_of HA.out.1)) ?_
      with_reducible rfl
    rotate_left
    · simp only [Act.put, List.setIfInBounds_toArray, List.set_cons_zero, List.set_cons_succ, i64_w, i32_w]
      rfl
    refine take_ (i := 2) (N := some 8) (v := ?_) (a' := ?_) #[Yy,Nn,Yy,Nn,Nn,Nn] rfl rfl (by kernel_rfl) (fun _ _ _ h => h) (Or.inl ⟨by rfl, ?_⟩) hHeld ?_ ?_
    rotate_left
    · rintro w' ⟨s0, s1⟩
      refine Eq.trans (run_op_load' s1 (by rfl) (by rfl) Tryz.underlying83 rfl (sizeE_of HBE.out.1)) ?_
      with_reducible rfl
    rotate_left
    · simp only [Act.put, List.setIfInBounds_toArray, List.set_cons_zero, List.set_cons_succ, i64_w, i32_w]
      rfl
    refine one_ (i := 1) (N := some 7) #[Yy,Yy,Yy,Nn,Nn,Nn] rfl rfl (by kernel_rfl) (by decide) (fun K hK => ?_)
    refine goes_ Tryz.func156 (by kernel_rfl) rfl #[.agg (mcells a)] (by rfl) rfl rfl (by simp only [List.map_toArray, List.map_cons, List.map_nil]; rfl) ?_
    with_reducible refine (degree_calls a _ HA.out).mono ?_
    rintro e w2 ⟨rfl, hb⟩
    refine ⟨_, rfl, ?_⟩
    replace H1 := H1.drew.keep hb
    replace H2 := H2.drew.keep hb
    replace HB := Aside0.mk (below_step (below_drew1 HB.out) hb)
    clear hb
    refine hK.out _ _ ⟨H1.at, H2.at⟩ (fun hHeld => ?_)
    clear hK K
    refine norm_ (a' := ?_) ?_ ?_
    rotate_left
    · show Act.put _ (some 7) _ = _
      simp only [Act.put, List.setIfInBounds_toArray, List.set_cons_zero, List.set_cons_succ, i64_w, i32_w]
      rfl
    refine one_ (i := 3) (N := some 9) #[Yy,Yy,Yy,Yy,Nn,Nn] rfl rfl (by kernel_rfl) (by decide) (fun K hK => ?_)
    refine goes_ Tryz.func156 (by kernel_rfl) rfl #[.agg (mcells b)] (by rfl) rfl rfl (by simp only [List.map_toArray, List.map_cons, List.map_nil]; rfl) ?_
    with_reducible refine (degree_calls b _ HBE.out).mono ?_
    rintro e w3 ⟨rfl, hb⟩
    refine ⟨_, rfl, ?_⟩
    replace H1 := H1.keep hb
    replace H2 := H2.keep hb
    replace HB := Aside0.mk (below_step HB.out hb)
    clear hb
    refine hK.out _ _ ⟨H1.at, H2.at⟩ (fun hHeld => ?_)
    clear hK K
    refine norm_ (a' := ?_) ?_ ?_
    rotate_left
    · show Act.put _ (some 9) _ = _
      simp only [Act.put, List.setIfInBounds_toArray, List.set_cons_zero, List.set_cons_succ, i64_w, i32_w]
      rfl
    refine pure_ (i := 4) (N := some 10) (v := ?_) (a' := ?_) #[Yy,Yy,Yy,Yy,Yy,Nn] rfl rfl (by kernel_rfl) (fun _ _ _ h => h) (Or.inl ⟨by rfl, ?_⟩) ?_ ?_
    rotate_left
    · intro w'
      go_simp
      with_reducible rfl
    rotate_left
    · simp only [Act.put, List.setIfInBounds_toArray, List.set_cons_zero, List.set_cons_succ, i64_w, i32_w]
      rfl
    refine pure_ (i := 5) (N := some 5) (v := ?_) (a' := ?_) #[Yy,Yy,Yy,Yy,Yy,Yy] rfl rfl (by kernel_rfl) (fun _ _ _ h => h) (Or.inl ⟨by rfl, ?_⟩) ?_ ?_
    rotate_left
    · intro w'
      go_simp
      with_reducible rfl
    rotate_left
    · simp only [Act.put, List.setIfInBounds_toArray, List.set_cons_zero, List.set_cons_succ, i64_w, i32_w]
      rfl
    refine done_ (by kernel_rfl) ?_
    have hw : wrap64 (degE a - degE b) = degE a - degE b := by unfold wrap64; omega
    have c0 := H1.cell 0 (mcells_get a 0 (by have := HA.out.1; omega))
    have c1 := H2.cell 0 (mcells_get b 0 (by have := HBE.out.1; omega))
    go_wp2
    go_ret
    exact ⟨by rw [HN.out]; first | rfl | exact congrArg (fun z => Ending.returned (.int .i64 z)) hw, HB.out⟩
  · have hb : (nt a 0 != nt b 0) = false := by simpa using h1
    have HN : Aside0 (cmpE a b = nt b 1 - nt a 1) := ⟨by unfold cmpE; rw [if_neg (by omega), if_neg (by omega)]⟩
    clear h0 h1
    go_enter Tryz.func157, Tryz.ntmps157
    go_wp2
    refine start_ (n := 6) (S := fun w' => At w' ⟨w.heap.size, 0, none⟩ (mcells a) ∧ At w' ⟨w.heap.size + 1, 0, none⟩ (mcells b)) (ds := []) #[Nn,Nn,Nn,Nn,Nn,Nn] (by kernel_rfl) rfl rfl ⟨H1.drew.at, H2.drew.at⟩ (fun hHeld => ?_)
    refine take_ (i := 0) (N := some 6) (v := ?_) (a' := ?_) #[Yy,Nn,Nn,Nn,Nn,Nn] rfl rfl (by kernel_rfl) (fun _ _ _ h => h) (Or.inl ⟨by rfl, ?_⟩) hHeld ?_ ?_
    rotate_left
    · rintro w' ⟨s0, s1⟩
      refine Eq.trans (run_op_load' s0 (by rfl) (by rfl) Tryz.underlying83 rfl (sizeE_of HA.out.1)) ?_
      with_reducible rfl
    rotate_left
    · simp only [Act.put, List.setIfInBounds_toArray, List.set_cons_zero, List.set_cons_succ, i64_w, i32_w]
      rfl
    refine take_ (i := 2) (N := some 8) (v := ?_) (a' := ?_) #[Yy,Nn,Yy,Nn,Nn,Nn] rfl rfl (by kernel_rfl) (fun _ _ _ h => h) (Or.inl ⟨by rfl, ?_⟩) hHeld ?_ ?_
    rotate_left
    · rintro w' ⟨s0, s1⟩
      refine Eq.trans (run_op_load' s1 (by rfl) (by rfl) Tryz.underlying83 rfl (sizeE_of HBE.out.1)) ?_
      with_reducible rfl
    rotate_left
    · simp only [Act.put, List.setIfInBounds_toArray, List.set_cons_zero, List.set_cons_succ, i64_w, i32_w]
      rfl
    refine one_ (i := 1) (N := some 7) #[Yy,Yy,Yy,Nn,Nn,Nn] rfl rfl (by kernel_rfl) (by decide) (fun K hK => ?_)
    refine goes_ Tryz.func156 (by kernel_rfl) rfl #[.agg (mcells a)] (by rfl) rfl rfl (by simp only [List.map_toArray, List.map_cons, List.map_nil]; rfl) ?_
    with_reducible refine (degree_calls a _ HA.out).mono ?_
    rintro e w2 ⟨rfl, hb⟩
    refine ⟨_, rfl, ?_⟩
    replace H1 := H1.drew.keep hb
    replace H2 := H2.drew.keep hb
    replace HB := Aside0.mk (below_step (below_drew1 HB.out) hb)
    clear hb
    refine hK.out _ _ ⟨H1.at, H2.at⟩ (fun hHeld => ?_)
    clear hK K
    refine norm_ (a' := ?_) ?_ ?_
    rotate_left
    · show Act.put _ (some 7) _ = _
      simp only [Act.put, List.setIfInBounds_toArray, List.set_cons_zero, List.set_cons_succ, i64_w, i32_w]
      rfl
    refine one_ (i := 3) (N := some 9) #[Yy,Yy,Yy,Yy,Nn,Nn] rfl rfl (by kernel_rfl) (by decide) (fun K hK => ?_)
    refine goes_ Tryz.func156 (by kernel_rfl) rfl #[.agg (mcells b)] (by rfl) rfl rfl (by simp only [List.map_toArray, List.map_cons, List.map_nil]; rfl) ?_
    with_reducible refine (degree_calls b _ HBE.out).mono ?_
    rintro e w3 ⟨rfl, hb⟩
    refine ⟨_, rfl, ?_⟩
    replace H1 := H1.keep hb
    replace H2 := H2.keep hb
    replace HB := Aside0.mk (below_step HB.out hb)
    clear hb
    refine hK.out _ _ ⟨H1.at, H2.at⟩ (fun hHeld => ?_)
    clear hK K
    refine norm_ (a' := ?_) ?_ ?_
    rotate_left
    · show Act.put _ (some 9) _ = _
      simp only [Act.put, List.setIfInBounds_toArray, List.set_cons_zero, List.set_cons_succ, i64_w, i32_w]
      rfl
    refine pure_ (i := 4) (N := some 10) (v := ?_) (a' := ?_) #[Yy,Yy,Yy,Yy,Yy,Nn] rfl rfl (by kernel_rfl) (fun _ _ _ h => h) (Or.inl ⟨by rfl, ?_⟩) ?_ ?_
    rotate_left
    · intro w'
      go_simp
      with_reducible rfl
    rotate_left
    · simp only [Act.put, List.setIfInBounds_toArray, List.set_cons_zero, List.set_cons_succ, i64_w, i32_w]
      rfl
    refine pure_ (i := 5) (N := some 5) (v := ?_) (a' := ?_) #[Yy,Yy,Yy,Yy,Yy,Yy] rfl rfl (by kernel_rfl) (fun _ _ _ h => h) (Or.inl ⟨by rfl, ?_⟩) ?_ ?_
    rotate_left
    · intro w'
      go_simp
      with_reducible rfl
    rotate_left
    · simp only [Act.put, List.setIfInBounds_toArray, List.set_cons_zero, List.set_cons_succ, i64_w, i32_w]
      rfl
    refine done_ (by kernel_rfl) ?_
    have hw : wrap64 (degE a - degE b) = degE a - degE b := by unfold wrap64; omega
    have c0 := H1.cell 0 (mcells_get a 0 (by have := HA.out.1; omega))
    have c1 := H2.cell 0 (mcells_get b 0 (by have := HBE.out.1; omega))
    have c2 := H1.cell 1 (mcells_get a 1 (by have := HA.out.1; omega))
    have c3 := H2.cell 1 (mcells_get b 1 (by have := HBE.out.1; omega))
    go_wp2
    go_ret
    exact ⟨by rw [HN.out]; first | rfl | exact congrArg (fun z => Ending.returned (.int .i64 z)) hw, HB.out⟩
set_option maxRecDepth 100000 in
set_option maxHeartbeats 1000000 in
theorem l01Before_calls (a b : List Int) (w : World) (ha : Is3 a) (hb : Is3 b) :
    Calls Tryz.prog 145 #[.agg (mcells a), .agg (mcells b)] w fun x w' => x = .returned (.bool (decide (cmpE a b < 0))) ∧ Below w.heap.size w w' := by
  have H1 := (Blk.new w (mcells a) 83).alloc (.cells (mcells b) 83)
  have H2 := Blk.new1 w (.cells (mcells a) 83) (mcells b) 83
  have HB := Aside0.mk (below_alloc (below_alloc (Below.refl w.heap.size w) (.cells (mcells a) 83)) (.cells (mcells b) 83))
  have HA := Aside0.mk ha
  have HBE := Aside0.mk hb
  clear ha hb
  by_cases h0 : degE a = degE b
  rotate_left
  · have hb : (degE a != degE b) = true := by simpa using h0
    have HN : Aside0 (decide (cmpE a b < 0) = decide (degE a < degE b)) := ⟨by
      have e : cmpE a b = degE a - degE b := by unfold cmpE; rw [if_pos (by omega)]
      rw [e, Bool.eq_iff_iff, decide_eq_true_iff, decide_eq_true_iff]; omega⟩
    clear h0
    go_enter Tryz.func145, Tryz.ntmps145
    go_wp2
    refine start_ (n := 5) (S := fun w' => At w' ⟨w.heap.size, 0, none⟩ (mcells a) ∧ At w' ⟨w.heap.size + 1, 0, none⟩ (mcells b)) (ds := []) #[Nn,Nn,Nn,Nn,Nn] (by kernel_rfl) rfl rfl ⟨H1.drew.at, H2.drew.at⟩ (fun hHeld => ?_)
    refine take_ (i := 0) (N := some 5) (v := ?_) (a' := ?_) #[Yy,Nn,Nn,Nn,Nn] rfl rfl (by kernel_rfl) (fun _ _ _ h => h) (Or.inl ⟨by rfl, ?_⟩) hHeld ?_ ?_
    rotate_left
    · rintro w' ⟨s0, s1⟩
      refine Eq.trans (run_op_load' s0 (by rfl) (by rfl) Tryz.underlying83 rfl (sizeE_of HA.out.1)) ?_
      with_reducible rfl
    rotate_left
    · simp only [Act.put, List.setIfInBounds_toArray, List.set_cons_zero, List.set_cons_succ, i64_w, i32_w]
      rfl
    refine take_ (i := 2) (N := some 7) (v := ?_) (a' := ?_) #[Yy,Nn,Yy,Nn,Nn] rfl rfl (by kernel_rfl) (fun _ _ _ h => h) (Or.inl ⟨by rfl, ?_⟩) hHeld ?_ ?_
    rotate_left
    · rintro w' ⟨s0, s1⟩
      refine Eq.trans (run_op_load' s1 (by rfl) (by rfl) Tryz.underlying83 rfl (sizeE_of HBE.out.1)) ?_
      with_reducible rfl
    rotate_left
    · simp only [Act.put, List.setIfInBounds_toArray, List.set_cons_zero, List.set_cons_succ, i64_w, i32_w]
      rfl
    refine one_ (i := 1) (N := some 6) #[Yy,Yy,Yy,Nn,Nn] rfl rfl (by kernel_rfl) (by decide) (fun K hK => ?_)
    refine goes_ Tryz.func196 (by kernel_rfl) rfl #[.agg (mcells a)] (by rfl) rfl rfl (by simp only [List.map_toArray, List.map_cons, List.map_nil]; rfl) ?_
    with_reducible refine (l01Sum_calls a _ HA.out).mono ?_
    rintro e w2 ⟨rfl, hb⟩
    refine ⟨_, rfl, ?_⟩
    replace H1 := H1.drew.keep hb
    replace H2 := H2.drew.keep hb
    replace HB := Aside0.mk (below_step (below_drew1 HB.out) hb)
    clear hb
    refine hK.out _ _ ⟨H1.at, H2.at⟩ (fun hHeld => ?_)
    clear hK K
    refine norm_ (a' := ?_) ?_ ?_
    rotate_left
    · show Act.put _ (some 6) _ = _
      simp only [Act.put, List.setIfInBounds_toArray, List.set_cons_zero, List.set_cons_succ, i64_w, i32_w]
      rfl
    refine one_ (i := 3) (N := some 8) #[Yy,Yy,Yy,Yy,Nn] rfl rfl (by kernel_rfl) (by decide) (fun K hK => ?_)
    refine goes_ Tryz.func196 (by kernel_rfl) rfl #[.agg (mcells b)] (by rfl) rfl rfl (by simp only [List.map_toArray, List.map_cons, List.map_nil]; rfl) ?_
    with_reducible refine (l01Sum_calls b _ HBE.out).mono ?_
    rintro e w3 ⟨rfl, hb⟩
    refine ⟨_, rfl, ?_⟩
    replace H1 := H1.keep hb
    replace H2 := H2.keep hb
    replace HB := Aside0.mk (below_step HB.out hb)
    clear hb
    refine hK.out _ _ ⟨H1.at, H2.at⟩ (fun hHeld => ?_)
    clear hK K
    refine norm_ (a' := ?_) ?_ ?_
    rotate_left
    · show Act.put _ (some 8) _ = _
      simp only [Act.put, List.setIfInBounds_toArray, List.set_cons_zero, List.set_cons_succ, i64_w, i32_w]
      rfl
    refine pure_ (i := 4) (N := some 9) (v := ?_) (a' := ?_) #[Yy,Yy,Yy,Yy,Yy] rfl rfl (by kernel_rfl) (fun _ _ _ h => h) (Or.inl ⟨by rfl, ?_⟩) ?_ ?_
    rotate_left
    · intro w'
      go_simp
      with_reducible rfl
    rotate_left
    · simp only [Act.put, List.setIfInBounds_toArray, List.set_cons_zero, List.set_cons_succ, i64_w, i32_w]
      rfl
    refine done_ (by kernel_rfl) ?_
    go_wp2
    refine start_ (n := 6) (S := fun w' => At w' ⟨w.heap.size, 0, none⟩ (mcells a) ∧ At w' ⟨w.heap.size + 1, 0, none⟩ (mcells b)) (ds := []) #[Nn,Nn,Nn,Nn,Nn,Nn] (by kernel_rfl) rfl rfl ⟨H1.drew.at, H2.drew.at⟩ (fun hHeld => ?_)
    refine take_ (i := 0) (N := some 10) (v := ?_) (a' := ?_) #[Yy,Nn,Nn,Nn,Nn,Nn] rfl rfl (by kernel_rfl) (fun _ _ _ h => h) (Or.inl ⟨by rfl, ?_⟩) hHeld ?_ ?_
    rotate_left
    · rintro w' ⟨s0, s1⟩
      refine Eq.trans (run_op_load' s0 (by rfl) (by rfl) Tryz.underlying83 rfl (sizeE_of HA.out.1)) ?_
      with_reducible rfl
    rotate_left
    · simp only [Act.put, List.setIfInBounds_toArray, List.set_cons_zero, List.set_cons_succ, i64_w, i32_w]
      rfl
    refine take_ (i := 2) (N := some 12) (v := ?_) (a' := ?_) #[Yy,Nn,Yy,Nn,Nn,Nn] rfl rfl (by kernel_rfl) (fun _ _ _ h => h) (Or.inl ⟨by rfl, ?_⟩) hHeld ?_ ?_
    rotate_left
    · rintro w' ⟨s0, s1⟩
      refine Eq.trans (run_op_load' s1 (by rfl) (by rfl) Tryz.underlying83 rfl (sizeE_of HBE.out.1)) ?_
      with_reducible rfl
    rotate_left
    · simp only [Act.put, List.setIfInBounds_toArray, List.set_cons_zero, List.set_cons_succ, i64_w, i32_w]
      rfl
    refine one_ (i := 1) (N := some 11) #[Yy,Yy,Yy,Nn,Nn,Nn] rfl rfl (by kernel_rfl) (by decide) (fun K hK => ?_)
    refine goes_ Tryz.func196 (by kernel_rfl) rfl #[.agg (mcells a)] (by rfl) rfl rfl (by simp only [List.map_toArray, List.map_cons, List.map_nil]; rfl) ?_
    with_reducible refine (l01Sum_calls a _ HA.out).mono ?_
    rintro e w2 ⟨rfl, hb⟩
    refine ⟨_, rfl, ?_⟩
    replace H1 := H1.drew.keep hb
    replace H2 := H2.drew.keep hb
    replace HB := Aside0.mk (below_step (below_drew1 HB.out) hb)
    clear hb
    refine hK.out _ _ ⟨H1.at, H2.at⟩ (fun hHeld => ?_)
    clear hK K
    refine norm_ (a' := ?_) ?_ ?_
    rotate_left
    · show Act.put _ (some 11) _ = _
      simp only [Act.put, List.setIfInBounds_toArray, List.set_cons_zero, List.set_cons_succ, i64_w, i32_w]
      rfl
    refine one_ (i := 3) (N := some 13) #[Yy,Yy,Yy,Yy,Nn,Nn] rfl rfl (by kernel_rfl) (by decide) (fun K hK => ?_)
    refine goes_ Tryz.func196 (by kernel_rfl) rfl #[.agg (mcells b)] (by rfl) rfl rfl (by simp only [List.map_toArray, List.map_cons, List.map_nil]; rfl) ?_
    with_reducible refine (l01Sum_calls b _ HBE.out).mono ?_
    rintro e w3 ⟨rfl, hb⟩
    refine ⟨_, rfl, ?_⟩
    replace H1 := H1.keep hb
    replace H2 := H2.keep hb
    replace HB := Aside0.mk (below_step HB.out hb)
    clear hb
    refine hK.out _ _ ⟨H1.at, H2.at⟩ (fun hHeld => ?_)
    clear hK K
    refine norm_ (a' := ?_) ?_ ?_
    rotate_left
    · show Act.put _ (some 13) _ = _
      simp only [Act.put, List.setIfInBounds_toArray, List.set_cons_zero, List.set_cons_succ, i64_w, i32_w]
      rfl
    refine pure_ (i := 4) (N := some 14) (v := ?_) (a' := ?_) #[Yy,Yy,Yy,Yy,Yy,Nn] rfl rfl (by kernel_rfl) (fun _ _ _ h => h) (Or.inl ⟨by rfl, ?_⟩) ?_ ?_
    rotate_left
    · intro w'
      go_simp
      with_reducible rfl
    rotate_left
    · simp only [Act.put, List.setIfInBounds_toArray, List.set_cons_zero, List.set_cons_succ, i64_w, i32_w]
      rfl
    refine pure_ (i := 5) (N := some 4) (v := ?_) (a' := ?_) #[Yy,Yy,Yy,Yy,Yy,Yy] rfl rfl (by kernel_rfl) (fun _ _ _ h => h) (Or.inl ⟨by rfl, ?_⟩) ?_ ?_
    rotate_left
    · intro w'
      go_simp
      with_reducible rfl
    rotate_left
    · simp only [Act.put, List.setIfInBounds_toArray, List.set_cons_zero, List.set_cons_succ, i64_w, i32_w]
      rfl
    refine done_ (by kernel_rfl) ?_
    go_wp2
    go_ret
    exact ⟨ret_b HN.out.symm, HB.out⟩
  have hb0 : (degE a != degE b) = false := by simpa using h0
  by_cases h1 : nt a 0 = nt b 0
  rotate_left
  · have hb : (nt a 0 != nt b 0) = true := by simpa using h1
    have HN : Aside0 (decide (cmpE a b < 0) = decide (nt b 0 < nt a 0)) := ⟨by
      have e : cmpE a b = nt b 0 - nt a 0 := by unfold cmpE; rw [if_neg (by omega), if_pos h1]
      rw [e, Bool.eq_iff_iff, decide_eq_true_iff, decide_eq_true_iff]; omega⟩
    clear h0 h1
    go_enter Tryz.func145, Tryz.ntmps145
    go_wp2
    refine start_ (n := 5) (S := fun w' => At w' ⟨w.heap.size, 0, none⟩ (mcells a) ∧ At w' ⟨w.heap.size + 1, 0, none⟩ (mcells b)) (ds := []) #[Nn,Nn,Nn,Nn,Nn] (by kernel_rfl) rfl rfl ⟨H1.drew.at, H2.drew.at⟩ (fun hHeld => ?_)
    refine take_ (i := 0) (N := some 5) (v := ?_) (a' := ?_) #[Yy,Nn,Nn,Nn,Nn] rfl rfl (by kernel_rfl) (fun _ _ _ h => h) (Or.inl ⟨by rfl, ?_⟩) hHeld ?_ ?_
    rotate_left
    · rintro w' ⟨s0, s1⟩
      refine Eq.trans (run_op_load' s0 (by rfl) (by rfl) Tryz.underlying83 rfl (sizeE_of HA.out.1)) ?_
      with_reducible rfl
    rotate_left
    · simp only [Act.put, List.setIfInBounds_toArray, List.set_cons_zero, List.set_cons_succ, i64_w, i32_w]
      rfl
    refine take_ (i := 2) (N := some 7) (v := ?_) (a' := ?_) #[Yy,Nn,Yy,Nn,Nn] rfl rfl (by kernel_rfl) (fun _ _ _ h => h) (Or.inl ⟨by rfl, ?_⟩) hHeld ?_ ?_
    rotate_left
    · rintro w' ⟨s0, s1⟩
      refine Eq.trans (run_op_load' s1 (by rfl) (by rfl) Tryz.underlying83 rfl (sizeE_of HBE.out.1)) ?_
      with_reducible rfl
    rotate_left
    · simp only [Act.put, List.setIfInBounds_toArray, List.set_cons_zero, List.set_cons_succ, i64_w, i32_w]
      rfl
    refine one_ (i := 1) (N := some 6) #[Yy,Yy,Yy,Nn,Nn] rfl rfl (by kernel_rfl) (by decide) (fun K hK => ?_)
    refine goes_ Tryz.func196 (by kernel_rfl) rfl #[.agg (mcells a)] (by rfl) rfl rfl (by simp only [List.map_toArray, List.map_cons, List.map_nil]; rfl) ?_
    with_reducible refine (l01Sum_calls a _ HA.out).mono ?_
    rintro e w2 ⟨rfl, hb⟩
    refine ⟨_, rfl, ?_⟩
    replace H1 := H1.drew.keep hb
    replace H2 := H2.drew.keep hb
    replace HB := Aside0.mk (below_step (below_drew1 HB.out) hb)
    clear hb
    refine hK.out _ _ ⟨H1.at, H2.at⟩ (fun hHeld => ?_)
    clear hK K
    refine norm_ (a' := ?_) ?_ ?_
    rotate_left
    · show Act.put _ (some 6) _ = _
      simp only [Act.put, List.setIfInBounds_toArray, List.set_cons_zero, List.set_cons_succ, i64_w, i32_w]
      rfl
    refine one_ (i := 3) (N := some 8) #[Yy,Yy,Yy,Yy,Nn] rfl rfl (by kernel_rfl) (by decide) (fun K hK => ?_)
    refine goes_ Tryz.func196 (by kernel_rfl) rfl #[.agg (mcells b)] (by rfl) rfl rfl (by simp only [List.map_toArray, List.map_cons, List.map_nil]; rfl) ?_
    with_reducible refine (l01Sum_calls b _ HBE.out).mono ?_
    rintro e w3 ⟨rfl, hb⟩
    refine ⟨_, rfl, ?_⟩
    replace H1 := H1.keep hb
    replace H2 := H2.keep hb
    replace HB := Aside0.mk (below_step HB.out hb)
    clear hb
    refine hK.out _ _ ⟨H1.at, H2.at⟩ (fun hHeld => ?_)
    clear hK K
    refine norm_ (a' := ?_) ?_ ?_
    rotate_left
    · show Act.put _ (some 8) _ = _
      simp only [Act.put, List.setIfInBounds_toArray, List.set_cons_zero, List.set_cons_succ, i64_w, i32_w]
      rfl
    refine pure_ (i := 4) (N := some 9) (v := ?_) (a' := ?_) #[Yy,Yy,Yy,Yy,Yy] rfl rfl (by kernel_rfl) (fun _ _ _ h => h) (Or.inl ⟨by rfl, ?_⟩) ?_ ?_
    rotate_left
    · intro w'
      go_simp
      with_reducible rfl
    rotate_left
    · simp only [Act.put, List.setIfInBounds_toArray, List.set_cons_zero, List.set_cons_succ, i64_w, i32_w]
      rfl
    refine done_ (by kernel_rfl) ?_
    have c0 := H1.cell 0 (mcells_get a 0 (by have := HA.out.1; omega))
    have c1 := H2.cell 0 (mcells_get b 0 (by have := HBE.out.1; omega))
    go_wp2
    go_ret
    exact ⟨ret_b HN.out.symm, HB.out⟩
  · have hb : (nt a 0 != nt b 0) = false := by simpa using h1
    have HN : Aside0 (decide (cmpE a b < 0) = decide (nt b 1 < nt a 1)) := ⟨by
      have e : cmpE a b = nt b 1 - nt a 1 := by unfold cmpE; rw [if_neg (by omega), if_neg (by omega)]
      rw [e, Bool.eq_iff_iff, decide_eq_true_iff, decide_eq_true_iff]; omega⟩
    clear h0 h1
    go_enter Tryz.func145, Tryz.ntmps145
    go_wp2
    refine start_ (n := 5) (S := fun w' => At w' ⟨w.heap.size, 0, none⟩ (mcells a) ∧ At w' ⟨w.heap.size + 1, 0, none⟩ (mcells b)) (ds := []) #[Nn,Nn,Nn,Nn,Nn] (by kernel_rfl) rfl rfl ⟨H1.drew.at, H2.drew.at⟩ (fun hHeld => ?_)
    refine take_ (i := 0) (N := some 5) (v := ?_) (a' := ?_) #[Yy,Nn,Nn,Nn,Nn] rfl rfl (by kernel_rfl) (fun _ _ _ h => h) (Or.inl ⟨by rfl, ?_⟩) hHeld ?_ ?_
    rotate_left
    · rintro w' ⟨s0, s1⟩
      refine Eq.trans (run_op_load' s0 (by rfl) (by rfl) Tryz.underlying83 rfl (sizeE_of HA.out.1)) ?_
      with_reducible rfl
    rotate_left
    · simp only [Act.put, List.setIfInBounds_toArray, List.set_cons_zero, List.set_cons_succ, i64_w, i32_w]
      rfl
    refine take_ (i := 2) (N := some 7) (v := ?_) (a' := ?_) #[Yy,Nn,Yy,Nn,Nn] rfl rfl (by kernel_rfl) (fun _ _ _ h => h) (Or.inl ⟨by rfl, ?_⟩) hHeld ?_ ?_
    rotate_left
    · rintro w' ⟨s0, s1⟩
      refine Eq.trans (run_op_load' s1 (by rfl) (by rfl) Tryz.underlying83 rfl (sizeE_of HBE.out.1)) ?_
      with_reducible rfl
    rotate_left
    · simp only [Act.put, List.setIfInBounds_toArray, List.set_cons_zero, List.set_cons_succ, i64_w, i32_w]
      rfl
    refine one_ (i := 1) (N := some 6) #[Yy,Yy,Yy,Nn,Nn] rfl rfl (by kernel_rfl) (by decide) (fun K hK => ?_)
    refine goes_ Tryz.func196 (by kernel_rfl) rfl #[.agg (mcells a)] (by rfl) rfl rfl (by simp only [List.map_toArray, List.map_cons, List.map_nil]; rfl) ?_
    with_reducible refine (l01Sum_calls a _ HA.out).mono ?_
    rintro e w2 ⟨rfl, hb⟩
    refine ⟨_, rfl, ?_⟩
    replace H1 := H1.drew.keep hb
    replace H2 := H2.drew.keep hb
    replace HB := Aside0.mk (below_step (below_drew1 HB.out) hb)
    clear hb
    refine hK.out _ _ ⟨H1.at, H2.at⟩ (fun hHeld => ?_)
    clear hK K
    refine norm_ (a' := ?_) ?_ ?_
    rotate_left
    · show Act.put _ (some 6) _ = _
      simp only [Act.put, List.setIfInBounds_toArray, List.set_cons_zero, List.set_cons_succ, i64_w, i32_w]
      rfl
    refine one_ (i := 3) (N := some 8) #[Yy,Yy,Yy,Yy,Nn] rfl rfl (by kernel_rfl) (by decide) (fun K hK => ?_)
    refine goes_ Tryz.func196 (by kernel_rfl) rfl #[.agg (mcells b)] (by rfl) rfl rfl (by simp only [List.map_toArray, List.map_cons, List.map_nil]; rfl) ?_
    with_reducible refine (l01Sum_calls b _ HBE.out).mono ?_
    rintro e w3 ⟨rfl, hb⟩
    refine ⟨_, rfl, ?_⟩
    replace H1 := H1.keep hb
    replace H2 := H2.keep hb
    replace HB := Aside0.mk (below_step HB.out hb)
    clear hb
    refine hK.out _ _ ⟨H1.at, H2.at⟩ (fun hHeld => ?_)
    clear hK K
    refine norm_ (a' := ?_) ?_ ?_
    rotate_left
    · show Act.put _ (some 8) _ = _
      simp only [Act.put, List.setIfInBounds_toArray, List.set_cons_zero, List.set_cons_succ, i64_w, i32_w]
      rfl
    refine pure_ (i := 4) (N := some 9) (v := ?_) (a' := ?_) #[Yy,Yy,Yy,Yy,Yy] rfl rfl (by kernel_rfl) (fun _ _ _ h => h) (Or.inl ⟨by rfl, ?_⟩) ?_ ?_
    rotate_left
    · intro w'
      go_simp
      with_reducible rfl
    rotate_left
    · simp only [Act.put, List.setIfInBounds_toArray, List.set_cons_zero, List.set_cons_succ, i64_w, i32_w]
      rfl
    refine done_ (by kernel_rfl) ?_
    have c0 := H1.cell 0 (mcells_get a 0 (by have := HA.out.1; omega))
    have c1 := H2.cell 0 (mcells_get b 0 (by have := HBE.out.1; omega))
    have c2 := H1.cell 1 (mcells_get a 1 (by have := HA.out.1; omega))
    have c3 := H2.cell 1 (mcells_get b 1 (by have := HBE.out.1; omega))
    go_wp2
    go_ret
    exact ⟨ret_b HN.out.symm, HB.out⟩
end Go.Proofs.YtbenhcognapdpaaGreat
/- Terms of polynomials in memory. -/
set_option linter.unusedVariables false
set_option linter.unusedSimpArgs false
namespace Go.Proofs.YtbenhcognapdpaaGreat
open Go.RowKit Go.Proofs.YtbenhcognapdpaaGreatW.PrintWords Go.Proofs.YtbenhcognapdpaaGreatW.PrintLast Lin

abbrev kT : Kd (List Int × Int) := Kd.pair (Kd.arr 3 (Kd.int .u8) (by decide)) (Kd.int .i64)
def tcells (t : List Int × Int) : Array Value := (encs (Value.int .u8) t.1 ++ [Value.int .i64 t.2]).toArray
theorem kT_cells {w : World} {t : List Int × Int} {cs : List Value} (h : kT.K w t cs) : t.1.length = 3 ∧ cs = encs (Value.int .u8) t.1 ++ [Value.int .i64 t.2] := by
  obtain ⟨c0, c1, rfl, h0, h1⟩ := h
  obtain ⟨h2, rfl⟩ := Kd.arr_cells h0
  have h3 : c1 = [Value.int .i64 t.2] := h1
  exact ⟨h2, by rw [h3]⟩
theorem tcells_size {t : List Int × Int} (h : t.1.length = 3) : (tcells t).size = 4 := by simp [tcells, encs, h]
theorem tcells_exp {t : List Int × Int} (h : t.1.length = 3) {k : Nat} (hk : k < 3) : (tcells t)[k]? = some (.int .u8 (nt t.1 k)) := by
  have h2 : k < t.1.length := by omega
  simp [tcells, encs, List.getElem?_append, h, hk, nt, List.getD_eq_getElem?_getD, List.getElem?_eq_getElem h2]
theorem tcells_val {t : List Int × Int} (h : t.1.length = 3) : (tcells t)[3]? = some (.int .i64 t.2) := by
  simp [tcells, encs, List.getElem?_append, h]
theorem tcells_one (t : List Int × Int) : (tcells t).all (·.oneCell') = true := by
  rw [Array.all_eq_true_iff_forall_mem]
  intro x hx
  simp only [tcells, encs, List.mem_toArray, List.mem_append, List.mem_map, List.mem_singleton] at hx
  rcases hx with ⟨a, _, rfl⟩ | rfl <;> rfl
theorem sizeT : (Tryz.prog.info? 151).map (·.size) = some 4 := by kernel_rfl
theorem sizeT_of {t : List Int × Int} (h : t.1.length = 3) : (Tryz.prog.info? 151).map (·.size) = some (tcells t).size := by rw [tcells_size h]; exact sizeT
theorem At.exps {w : World} {ad : Addr} {t : List Int × Int} (H : At w ad (tcells t)) (h : t.1.length = 3) : At w ad (mcells t.1) := by
  intro j v hv
  have hj : j < 3 := by
    have := (Array.getElem?_eq_some_iff.1 hv).1
    rw [mcells_size, h] at this
    exact this
  rw [mcells_get _ _ (by omega)] at hv
  rw [← hv]
  exact H j _ (tcells_exp h hj)
theorem At.val {w : World} {ad : Addr} {t : List Int × Int} (H : At w ad (tcells t)) (h : t.1.length = 3) : w.cell? (ad.add 3) = some (.int .i64 t.2) := H 3 _ (tcells_val h)
theorem At.exp {w : World} {ad : Addr} {t : List Int × Int} (H : At w ad (tcells t)) (h : t.1.length = 3) {k : Nat} (hk : k < 3) : w.cell? (ad.add k) = some (.int .u8 (nt t.1 k)) := H k _ (tcells_exp h hk)
theorem term_at {w : World} {A : Option Addr} {n : Nat} {ts : List (List Int × Int)} (h : kT.C w A n ts) (i : Nat) (h1 : i < n) :
    ∃ ad t, t = tmR ts i ∧ A = some ad ∧ t.1.length = 3 ∧ At w (ad.add (i * 4)) (tcells t) := by
  obtain ⟨ad, c, e, _, hK, hc⟩ := Kd.C_get h ([0, 0, 0], 0) (i : Int) (by omega) (by omega)
  obtain ⟨h3, rfl⟩ := kT_cells hK
  refine ⟨ad, _, rfl, e, h3, fun j v hj => ?_⟩
  rw [add_add']
  refine hc j v ?_
  have h4 : (tcells (tmR ts i))[j]? = (encs (Value.int .u8) (tmR ts i).1 ++ [Value.int .i64 (tmR ts i).2])[j]? := by unfold tcells; exact List.getElem?_toArray
  exact h4.symm.trans hj
end Go.Proofs.YtbenhcognapdpaaGreat
