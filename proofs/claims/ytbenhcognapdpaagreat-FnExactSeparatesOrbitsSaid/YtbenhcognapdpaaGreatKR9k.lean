/- Own texts of this claim, in one file: Grp2. -/
import Derived.Test.YtbenhcognapdpaaGreatKR9f
/- Walk: what a group is, in the program. -/
set_option linter.unusedVariables false
set_option linter.unusedSimpArgs false
namespace Go.Proofs.YtbenhcognapdpaaGreat
open Go.RowKit Go.Proofs.YtbenhcognapdpaaGreatW.PrintWords Go.Proofs.YtbenhcognapdpaaGreatW.PrintLast Lin

theorem areB_parts {p n : Int} {l : List (List Int)} (h : areB p n l = true) : (∀ i < l.length, matB p n (ntR l i) = true) ∧ primeB p = true ∧ varsB n = true := by
  simp only [areB, Bool.and_eq_true, List.all_eq_true] at h
  exact ⟨fun i hi => h.1 _ (ntR_mem l i hi), h.2.1, h.2.2⟩
theorem areB_of {p n : Int} {l : List (List Int)} (h : GrpOk p n l) : areB p n l = true := by
  rw [areB_ok h.mats, h.prime, h.vars]; rfl
theorem before_dec (a b : List Int) : decide (0 ≤ cmpL a b) = !beforeB a b := by
  unfold beforeB
  rcases Int.lt_or_le (cmpL a b) 0 with h | h
  · rw [decide_eq_true h, decide_eq_false (by omega)]; rfl
  · rw [decide_eq_true h, decide_eq_false (by omega)]; rfl

set_option maxRecDepth 100000 in
set_option maxHeartbeats 4000000 in
theorem IsGroup_calls (p n : Int) (A : Option Addr) (q c : Nat) (l : List (List Int)) (w : World) (hr : kM.C w A q l) (hl : ∀ m ∈ l, IsM m) :
    Calls Tryz.prog 75 #[.agg #[.int .i64 p, .int .i64 n, .slice A q c]] w fun e w' => e = .returned (.bool (grpB p n l)) ∧ Below w.heap.size w w' := by
  obtain rfl := Kd.C_len hr
  have hmx := Kd.C_max hr
  have HR := Aside0.mk hr
  have HL := Aside0.mk hl
  clear hr hl
  have H1 := Blk.new w #[.int .i64 p, .int .i64 n, .slice A l.length c] 37
  have k0 := H1.cell 0 rfl
  have k1 := H1.cell 1 rfl
  have k2 := H1.cell 2 rfl
  have hBl := below_alloc (Below.refl w.heap.size w) (.cells #[.int .i64 p, .int .i64 n, .slice A l.length c] 37)
  have HBl := Aside0.mk hBl
  have HRl := Aside0.mk (Kd.C_below HR.out hBl)
  clear hBl
  by_cases hle : l.length < 1
  · have HN := Aside0.mk (grpB_not fun h : GrpOk p n l => by have := h.least; omega)
    go_enter Tryz.func75, Tryz.ntmps75
    go_wp2
    go_ret
    exact ⟨ret_b HN.out.symm, HBl.out⟩
  by_cases hmo : 48 < l.length
  · have HN := Aside0.mk (grpB_not fun h : GrpOk p n l => by have := h.most; omega)
    go_enter Tryz.func75, Tryz.ntmps75
    go_wp2
    go_ret
    exact ⟨ret_b HN.out.symm, HBl.out⟩
  cases har : areB p n l
  · have HN := Aside0.mk (grpB_not fun h : GrpOk p n l => by have := areB_of h; rw [har] at this; cases this)
    go_enter Tryz.func75, Tryz.ntmps75
    go_wp2_with ((go_at_call 149; refine (areMatrices_calls p n A l.length c l _ HRl.out HL.out).mono ?_; rw [har]; rintro e w' ⟨rfl, hb⟩; have HB2 := Aside0.mk hb; clear hb))
    go_ret
    exact ⟨ret_b HN.out.symm, below_step HBl.out HB2.out⟩
  obtain ⟨hmats, hpb, hvb⟩ := areB_parts har
  have HMS := Aside0.mk hmats
  have hP := primeB_iff.1 hpb
  have hpp := hP.pos
  have hvv : 1 ≤ n ∧ n ≤ 3 := of_decide_eq_true hvb
  obtain ⟨n, rfl⟩ : ∃ k : Nat, n = k := ⟨n.toNat, by omega⟩
  clear hmats
  go_enter Tryz.func75, Tryz.ntmps75
  go_wp2_with ((go_at_call 149; refine (areMatrices_calls p n A l.length c l _ HRl.out HL.out).mono ?_; rw [har]; rintro e w0 ⟨rfl, hb⟩; have HB2 := Aside0.mk hb; clear hb; replace k0 := (HB2.out.cell (World.block_lt_of_cell? _ _ k0)).trans k0; replace k1 := (HB2.out.cell (World.block_lt_of_cell? _ _ k1)).trans k1; replace k2 := (HB2.out.cell (World.block_lt_of_cell? _ _ k2)).trans k2))
  replace H1 := H1.keep HB2.out
  replace HBl := Aside0.mk (below_step HBl.out HB2.out)
  clear k0 k1 k2 HB2 HRl
  go_loopw [30] (fun v wr => ∃ i : Nat, v = .int .i64 i ∧ i ≤ l.length ∧ Aside0 (∀ j < i, (∀ j', j = j' + 1 → beforeB (ntR l j') (ntR l j) = true) ∧ ∀ k < l.length, hasB l (timesM p n (ntR l j) (ntR l k)) = true) ∧ Blk wr w.heap.size 37 #[.int .i64 p, .int .i64 n, .slice A l.length c] ∧ Aside0 (Below w.heap.size w wr)) (fun v _ => l.length - (intOf v).toNat)
  case atStart => exact ⟨0, rfl, by omega, ⟨fun j hj => by omega⟩, H1, HBl⟩
  case round =>
    clear H1 HBl
    obtain ⟨i, rfl, hi, HE, H1, HB⟩ := hrel
    by_cases hlt : i < l.length
    · obtain ⟨ad, m, hmm, rfl, hm9, hc⟩ := mat_at HR.out i hlt
      have HM : Aside0 (IsM m) := ⟨HL.out m (hmm ▸ ntR_mem l i hlt)⟩
      have HC0 := Aside0.mk hc
      have HC := Aside0.mk (hc.below HB.out)
      have HMM := Aside0.mk hmm
      clear hmm hc
      have hd3 : decide ((i : Int) < l.length) = true := decide_eq_true (by omega)
      have Hz := Blk.new wr (mcells [0, 0, 0, 0, 0, 0, 0, 0, 0]) 138
      have H4 := Hz.setRow (mcells m)
      have hgl := H1.lt
      replace H1 := (H1.alloc (.cells (mcells [0, 0, 0, 0, 0, 0, 0, 0, 0]) 138)).setRow_far (g' := wr.heap.size) (by omega) (mcells m)
      replace HB := Aside0.mk (below_setRow (below_alloc HB.out (.cells (mcells [0, 0, 0, 0, 0, 0, 0, 0, 0]) 138)) HB.out.size (mcells m))
      have k0 := H1.cell 0 rfl
      have k1 := H1.cell 1 rfl
      have k2 := H1.cell 2 rfl
      go_wp2_with (first
        | (refine store_blk rfl _ 4 _ rfl Hz rfl rfl (sizeM_of hm9) (by rw [mcells_size, mcells_size, hm9]; rfl) (mcells_one _) ?_)
        | (refine load_agg rfl _ 33 rfl (ad.add (i * 9)) HC.out rfl _ Tryz.underlying138 rfl (sizeM_of hm9) ?_))
      clear HC Hz
      by_cases hi0 : i = 0
      · have HO2 : Aside0 (∀ j', i = j' + 1 → beforeB (ntR l j') (ntR l i) = true) := ⟨fun j' hj' => by omega⟩
        have hgt : decide (0 < i) = false := decide_eq_false (by omega)
        clear hi0
        refine start_ (n := 13) (S := fun w' => w'.cell? ⟨w.heap.size, 2, none⟩ = some (.slice (some ad) l.length c)) (ds := []) #[Nn,Nn,Nn,Nn,Nn,Nn,Nn,Nn,Nn,Nn,Nn,Nn,Nn] (by kernel_rfl) rfl rfl (k2) (fun hHeld => ?_)
        refine pure_ (i := 0) (N := some 35) (v := ?_) (a' := ?_) #[Yy,Nn,Nn,Nn,Nn,Nn,Nn,Nn,Nn,Nn,Nn,Nn,Nn] rfl rfl (by kernel_rfl) (fun _ _ _ h => h) (Or.inl ⟨by rfl, ?_⟩) ?_ ?_
        rotate_left
        · intro w'
          go_simp
          with_reducible rfl
        rotate_left
        · simp only [Act.put, List.setIfInBounds_toArray, List.set_cons_zero, List.set_cons_succ, i64_w, i32_w]
          rfl
        refine pure_ (i := 1) (N := some 36) (v := ?_) (a' := ?_) #[Yy,Yy,Nn,Nn,Nn,Nn,Nn,Nn,Nn,Nn,Nn,Nn,Nn] rfl rfl (by kernel_rfl) (fun _ _ _ h => h) (Or.inl ⟨by rfl, ?_⟩) ?_ ?_
        rotate_left
        · intro w'
          go_simp
          with_reducible rfl
        rotate_left
        · simp only [Act.put, List.setIfInBounds_toArray, List.set_cons_zero, List.set_cons_succ, i64_w, i32_w]
          rfl
        refine pure_ (i := 2) (N := some 37) (v := ?_) (a' := ?_) #[Yy,Yy,Yy,Nn,Nn,Nn,Nn,Nn,Nn,Nn,Nn,Nn,Nn] rfl rfl (by kernel_rfl) (fun _ _ _ h => h) (Or.inl ⟨by rfl, ?_⟩) ?_ ?_
        rotate_left
        · intro w'
          go_simp
          with_reducible rfl
        rotate_left
        · simp only [Act.put, List.setIfInBounds_toArray, List.set_cons_zero, List.set_cons_succ, i64_w, i32_w]
          rfl
        refine pure_ (i := 3) (N := some 38) (v := undef) (a' := ?_) #[Yy,Yy,Yy,Yy,Nn,Nn,Nn,Nn,Nn,Nn,Nn,Nn,Nn] rfl rfl (by kernel_rfl) (fun _ _ _ h => h) (Or.inr ⟨by rfl, rfl⟩) ?_ ?_
        rotate_left
        · simp only [Act.put, List.setIfInBounds_toArray, List.set_cons_zero, List.set_cons_succ, i64_w, i32_w]
          rfl
        refine pure_ (i := 4) (N := some 39) (v := undef) (a' := ?_) #[Yy,Yy,Yy,Yy,Yy,Nn,Nn,Nn,Nn,Nn,Nn,Nn,Nn] rfl rfl (by kernel_rfl) (fun _ _ _ h => h) (Or.inr ⟨by rfl, rfl⟩) ?_ ?_
        rotate_left
        · simp only [Act.put, List.setIfInBounds_toArray, List.set_cons_zero, List.set_cons_succ, i64_w, i32_w]
          rfl
        refine pure_ (i := 5) (N := some 40) (v := undef) (a' := ?_) #[Yy,Yy,Yy,Yy,Yy,Yy,Nn,Nn,Nn,Nn,Nn,Nn,Nn] rfl rfl (by kernel_rfl) (fun _ _ _ h => h) (Or.inr ⟨by rfl, rfl⟩) ?_ ?_
        rotate_left
        · simp only [Act.put, List.setIfInBounds_toArray, List.set_cons_zero, List.set_cons_succ, i64_w, i32_w]
          rfl
        refine pure_ (i := 6) (N := some 41) (v := undef) (a' := ?_) #[Yy,Yy,Yy,Yy,Yy,Yy,Yy,Nn,Nn,Nn,Nn,Nn,Nn] rfl rfl (by kernel_rfl) (fun _ _ _ h => h) (Or.inr ⟨by rfl, rfl⟩) ?_ ?_
        rotate_left
        · simp only [Act.put, List.setIfInBounds_toArray, List.set_cons_zero, List.set_cons_succ, i64_w, i32_w]
          rfl
        refine pure_ (i := 7) (N := some 42) (v := undef) (a' := ?_) #[Yy,Yy,Yy,Yy,Yy,Yy,Yy,Yy,Nn,Nn,Nn,Nn,Nn] rfl rfl (by kernel_rfl) (fun _ _ _ h => h) (Or.inr ⟨by rfl, rfl⟩) ?_ ?_
        rotate_left
        · simp only [Act.put, List.setIfInBounds_toArray, List.set_cons_zero, List.set_cons_succ, i64_w, i32_w]
          rfl
        refine pure_ (i := 8) (N := some 43) (v := undef) (a' := ?_) #[Yy,Yy,Yy,Yy,Yy,Yy,Yy,Yy,Yy,Nn,Nn,Nn,Nn] rfl rfl (by kernel_rfl) (fun _ _ _ h => h) (Or.inr ⟨by rfl, rfl⟩) ?_ ?_
        rotate_left
        · simp only [Act.put, List.setIfInBounds_toArray, List.set_cons_zero, List.set_cons_succ, i64_w, i32_w]
          rfl
        refine pure_ (i := 9) (N := some 44) (v := undef) (a' := ?_) #[Yy,Yy,Yy,Yy,Yy,Yy,Yy,Yy,Yy,Yy,Nn,Nn,Nn] rfl rfl (by kernel_rfl) (fun _ _ _ h => h) (Or.inr ⟨by rfl, rfl⟩) ?_ ?_
        rotate_left
        · simp only [Act.put, List.setIfInBounds_toArray, List.set_cons_zero, List.set_cons_succ, i64_w, i32_w]
          rfl
        refine pure_ (i := 10) (N := some 45) (v := undef) (a' := ?_) #[Yy,Yy,Yy,Yy,Yy,Yy,Yy,Yy,Yy,Yy,Yy,Nn,Nn] rfl rfl (by kernel_rfl) (fun _ _ _ h => h) (Or.inr ⟨by rfl, rfl⟩) ?_ ?_
        rotate_left
        · simp only [Act.put, List.setIfInBounds_toArray, List.set_cons_zero, List.set_cons_succ, i64_w, i32_w]
          rfl
        refine pure_ (i := 11) (N := some 46) (v := undef) (a' := ?_) #[Yy,Yy,Yy,Yy,Yy,Yy,Yy,Yy,Yy,Yy,Yy,Yy,Nn] rfl rfl (by kernel_rfl) (fun _ _ _ h => h) (Or.inr ⟨by rfl, rfl⟩) ?_ ?_
        rotate_left
        · simp only [Act.put, List.setIfInBounds_toArray, List.set_cons_zero, List.set_cons_succ, i64_w, i32_w]
          rfl
        refine pure_ (i := 12) (N := some 47) (v := ?_) (a' := ?_) #[Yy,Yy,Yy,Yy,Yy,Yy,Yy,Yy,Yy,Yy,Yy,Yy,Yy] rfl rfl (by kernel_rfl) (fun _ _ _ h => h) (Or.inl ⟨by rfl, ?_⟩) ?_ ?_
        rotate_left
        · intro w'
          go_simp
          with_reducible rfl
        rotate_left
        · simp only [Act.put, List.setIfInBounds_toArray, List.set_cons_zero, List.set_cons_succ, i64_w, i32_w]
          rfl
        refine done_ (by kernel_rfl) ?_
        replace H1 := H1.drew
        replace H4 := H4.drew
        replace HB := Aside0.mk (below_drew1 HB.out)
        clear k0 k1 k2 hgt
        have k2 := H1.cell 2 rfl
        go_wp2
        clear k2
        obtain ⟨wo, rfl⟩ : ∃ wo, wo = wr := ⟨_, rfl⟩
        go_loopw [51] (fun v wr => ∃ k : Nat, v = .int .i64 k ∧ k ≤ l.length ∧ Aside0 (∀ j < k, hasB l (timesM p n (ntR l i) (ntR l j)) = true) ∧ Blk wr w.heap.size 37 #[.int .i64 p, .int .i64 n, .slice (some ad) l.length c] ∧ Blk wr wo.heap.size 138 (mcells m) ∧ Aside0 (Below w.heap.size w wr)) (fun v _ => l.length - (intOf v).toNat)
        case atStart => exact ⟨0, rfl, by omega, ⟨fun j hj => by omega⟩, H1, H4, HB⟩
        case round =>
          clear H1 H4 HB
          obtain ⟨k, rfl, hk, HEK, H1, H4, HB⟩ := hrel
          by_cases hkl : k < l.length
          · obtain ⟨ad', m2, hmm2, he2, hm92, hc2⟩ := mat_at HR.out k hkl
            obtain rfl : ad = ad' := Option.some.inj he2
            have HM2 : Aside0 (IsM m2) := ⟨HL.out m2 (hmm2 ▸ ntR_mem l k hkl)⟩
            have HC2 := Aside0.mk (hc2.below HB.out)
            have HMM2 := Aside0.mk hmm2
            clear hmm2 hc2 he2
            have HK := Aside0.mk (fun W => times_calls p n m m2 W (by omega) (by omega) (by omega) HM.out HM2.out)
            have HK3 := Aside0.mk (fun W (h : Below w.heap.size w W) => has_calls p n (some ad) l.length c l (timesM p n m m2) W (Kd.C_below HR.out h) (mk9_len _))
            have hg1 := H1.lt
            have hg5 := H4.lt
            have Hz := Blk.new wr (mcells [0, 0, 0, 0, 0, 0, 0, 0, 0]) 138
            have H6 := Hz.setRow (mcells m2)
            replace H1 := (H1.alloc (.cells (mcells [0, 0, 0, 0, 0, 0, 0, 0, 0]) 138)).setRow_far (g' := wr.heap.size) (by omega) (mcells m2)
            replace H4 := (H4.alloc (.cells (mcells [0, 0, 0, 0, 0, 0, 0, 0, 0]) 138)).setRow_far (g' := wr.heap.size) (by omega) (mcells m2)
            replace HB := Aside0.mk (below_setRow (below_alloc HB.out (.cells (mcells [0, 0, 0, 0, 0, 0, 0, 0, 0]) 138)) HB.out.size (mcells m2))
            have k0 := H1.cell 0 rfl
            have k1 := H1.cell 1 rfl
            cases hhb : hasB l (timesM p n m m2)
            · have HN := Aside0.mk (grpB_not fun h : GrpOk p n l => by have := h.closed _ hlt k hkl; rw [← HMM.out, ← HMM2.out, Int.toNat_natCast, hhb] at this; cases this)
              rw [hhb] at HK3
              go_wp2_with (first
                | (refine store_blk rfl _ 6 _ rfl Hz rfl rfl (sizeM_of hm92) (by rw [mcells_size, mcells_size, hm92]; rfl) (mcells_one _) ?_)
                | (refine load_agg rfl _ 53 rfl (ad.add (k * 9)) HC2.out rfl _ Tryz.underlying138 rfl (sizeM_of hm92) ?_))
              refine start_ (n := 10) (S := fun w' => w'.cell? ⟨w.heap.size, 0, none⟩ = some (.int .i64 p) ∧ w'.cell? ⟨w.heap.size, 1, none⟩ = some (.int .i64 n) ∧ At w' ⟨w.heap.size, 0, none⟩ #[.int .i64 p, .int .i64 n, .slice (some ad) l.length c] ∧ MAt w' ⟨wo.heap.size, 0, none⟩ m ∧ MAt w' ⟨wr.heap.size, 0, none⟩ m2) (ds := []) #[Nn,Nn,Nn,Nn,Nn,Nn,Nn,Nn,Nn,Nn] (by kernel_rfl) rfl rfl ⟨k0, k1, H1.drew.at, H4.drew.at, H6.drew.at⟩ (fun hHeld => ?_)
              refine pure_ (i := 1) (N := some 56) (v := ?_) (a' := ?_) #[Nn,Yy,Nn,Nn,Nn,Nn,Nn,Nn,Nn,Nn] rfl rfl (by kernel_rfl) (fun _ _ _ h => h) (Or.inl ⟨by rfl, ?_⟩) ?_ ?_
              rotate_left
              · intro w'
                go_simp
                with_reducible rfl
              rotate_left
              · simp only [Act.put, List.setIfInBounds_toArray, List.set_cons_zero, List.set_cons_succ, i64_w, i32_w]
                rfl
              refine pure_ (i := 3) (N := some 58) (v := ?_) (a' := ?_) #[Nn,Yy,Nn,Yy,Nn,Nn,Nn,Nn,Nn,Nn] rfl rfl (by kernel_rfl) (fun _ _ _ h => h) (Or.inl ⟨by rfl, ?_⟩) ?_ ?_
              rotate_left
              · intro w'
                go_simp
                with_reducible rfl
              rotate_left
              · simp only [Act.put, List.setIfInBounds_toArray, List.set_cons_zero, List.set_cons_succ, i64_w, i32_w]
                rfl
              refine take_ (i := 0) (N := some 55) (v := ?_) (a' := ?_) #[Yy,Yy,Nn,Yy,Nn,Nn,Nn,Nn,Nn,Nn] rfl rfl (by kernel_rfl) (fun _ _ _ h => h) (Or.inl ⟨by rfl, ?_⟩) hHeld ?_ ?_
              rotate_left
              · rintro w' ⟨s0, s1, s2, s3, s4⟩
                refine Eq.trans (run_op_load' s2 (by rfl) (by rfl) Tryz.underlying37 rfl sizeG) ?_
                with_reducible rfl
              rotate_left
              · simp only [Act.put, List.setIfInBounds_toArray, List.set_cons_zero, List.set_cons_succ, i64_w, i32_w]
                rfl
              refine take_ (i := 2) (N := some 57) (v := ?_) (a' := ?_) #[Yy,Yy,Yy,Yy,Nn,Nn,Nn,Nn,Nn,Nn] rfl rfl (by kernel_rfl) (fun _ _ _ h => h) (Or.inl ⟨by rfl, ?_⟩) hHeld ?_ ?_
              rotate_left
              · rintro w' ⟨s0, s1, s2, s3, s4⟩
                go_simp
                with_reducible rfl
              rotate_left
              · simp only [Act.put, List.setIfInBounds_toArray, List.set_cons_zero, List.set_cons_succ, i64_w, i32_w]
                rfl
              refine take_ (i := 4) (N := some 59) (v := ?_) (a' := ?_) #[Yy,Yy,Yy,Yy,Yy,Nn,Nn,Nn,Nn,Nn] rfl rfl (by kernel_rfl) (fun _ _ _ h => h) (Or.inl ⟨by rfl, ?_⟩) hHeld ?_ ?_
              rotate_left
              · rintro w' ⟨s0, s1, s2, s3, s4⟩
                go_simp
                with_reducible rfl
              rotate_left
              · simp only [Act.put, List.setIfInBounds_toArray, List.set_cons_zero, List.set_cons_succ, i64_w, i32_w]
                rfl
              refine take_ (i := 5) (N := some 60) (v := ?_) (a' := ?_) #[Yy,Yy,Yy,Yy,Yy,Yy,Nn,Nn,Nn,Nn] rfl rfl (by kernel_rfl) (fun _ _ _ h => h) (Or.inl ⟨by rfl, ?_⟩) hHeld ?_ ?_
              rotate_left
              · rintro w' ⟨s0, s1, s2, s3, s4⟩
                refine Eq.trans (run_op_load' s3 (by rfl) (by rfl) Tryz.underlying138 rfl (sizeM_of hm9)) ?_
                with_reducible rfl
              rotate_left
              · simp only [Act.put, List.setIfInBounds_toArray, List.set_cons_zero, List.set_cons_succ, i64_w, i32_w]
                rfl
              refine take_ (i := 6) (N := some 61) (v := ?_) (a' := ?_) #[Yy,Yy,Yy,Yy,Yy,Yy,Yy,Nn,Nn,Nn] rfl rfl (by kernel_rfl) (fun _ _ _ h => h) (Or.inl ⟨by rfl, ?_⟩) hHeld ?_ ?_
              rotate_left
              · rintro w' ⟨s0, s1, s2, s3, s4⟩
                refine Eq.trans (run_op_load' s4 (by rfl) (by rfl) Tryz.underlying138 rfl (sizeM_of hm92)) ?_
                with_reducible rfl
              rotate_left
              · simp only [Act.put, List.setIfInBounds_toArray, List.set_cons_zero, List.set_cons_succ, i64_w, i32_w]
                rfl
              refine one_ (i := 7) (N := some 62) #[Yy,Yy,Yy,Yy,Yy,Yy,Yy,Yy,Nn,Nn] rfl rfl (by kernel_rfl) (by decide) (fun K hK => ?_)
              refine goes_ Tryz.func152 (by kernel_rfl) rfl #[.int .i64 p, .int .i64 n, .agg (mcells m), .agg (mcells m2)] (by rfl) rfl rfl (by simp only [List.map_toArray, List.map_cons, List.map_nil]; rfl) ?_
              with_reducible refine (HK.out _).mono ?_
              rintro e w2 ⟨rfl, hb⟩
              refine ⟨_, rfl, ?_⟩
              have HB2 := Aside0.mk hb
              clear hb
              replace H1 := H1.drew.keep HB2.out
              replace H4 := H4.drew.keep HB2.out
              replace H6 := H6.drew.keep HB2.out
              replace HB := Aside0.mk (below_step (below_drew1 HB.out) HB2.out)
              refine hK.out _ _ ⟨H1.cell 0 rfl, H1.cell 1 rfl, H1.at, H4.at, H6.at⟩ (fun hHeld => ?_)
              clear hK K
              refine norm_ (a' := ?_) ?_ ?_
              rotate_left
              · show Act.put _ (some 62) _ = _
                simp only [Act.put, List.setIfInBounds_toArray, List.set_cons_zero, List.set_cons_succ, i64_w, i32_w]
                rfl
              refine one_ (i := 8) (N := some 63) #[Yy,Yy,Yy,Yy,Yy,Yy,Yy,Yy,Yy,Nn] rfl rfl (by kernel_rfl) (by decide) (fun K hK => ?_)
              refine goes_ Tryz.func151 (by kernel_rfl) rfl #[.agg #[.int .i64 p, .int .i64 n, .slice (some ad) l.length c], .agg (mcells (timesM p n m m2))] (by rfl) rfl rfl (by simp only [List.map_toArray, List.map_cons, List.map_nil]; rfl) ?_
              with_reducible refine (HK3.out _ HB.out).mono ?_
              rintro e w3 ⟨rfl, hb⟩
              refine ⟨_, rfl, ?_⟩
              have HB3 := Aside0.mk hb
              clear hb
              replace H1 := H1.keep HB3.out
              replace H4 := H4.keep HB3.out
              replace H6 := H6.keep HB3.out
              refine hK.out _ _ ⟨H1.cell 0 rfl, H1.cell 1 rfl, H1.at, H4.at, H6.at⟩ (fun hHeld => ?_)
              clear hK K
              refine norm_ (a' := ?_) ?_ ?_
              rotate_left
              · show Act.put _ (some 63) _ = _
                simp only [Act.put, List.setIfInBounds_toArray, List.set_cons_zero, List.set_cons_succ, i64_w, i32_w]
                rfl
              refine pure_ (i := 9) (N := some 64) (v := ?_) (a' := ?_) #[Yy,Yy,Yy,Yy,Yy,Yy,Yy,Yy,Yy,Yy] rfl rfl (by kernel_rfl) (fun _ _ _ h => h) (Or.inl ⟨by rfl, ?_⟩) ?_ ?_
              rotate_left
              · intro w'
                go_simp
                with_reducible rfl
              rotate_left
              · simp only [Act.put, List.setIfInBounds_toArray, List.set_cons_zero, List.set_cons_succ, i64_w, i32_w]
                rfl
              refine done_ (by kernel_rfl) ?_
              go_wp2
              go_ret
              exact ⟨ret_b HN.out.symm, below_step HB.out HB3.out⟩
            · have HEK2 : Aside0 (∀ j < k + 1, hasB l (timesM p n (ntR l i) (ntR l j)) = true) := ⟨fun j hj => by
                rcases Nat.lt_succ_iff_lt_or_eq.1 hj with h | h
                · exact HEK.out j h
                · subst h; rw [← HMM.out, ← HMM2.out]; exact hhb⟩
              rw [hhb] at HK3
              go_wp2_with (first
                | (refine store_blk rfl _ 6 _ rfl Hz rfl rfl (sizeM_of hm92) (by rw [mcells_size, mcells_size, hm92]; rfl) (mcells_one _) ?_)
                | (refine load_agg rfl _ 53 rfl (ad.add (k * 9)) HC2.out rfl _ Tryz.underlying138 rfl (sizeM_of hm92) ?_))
              refine start_ (n := 10) (S := fun w' => w'.cell? ⟨w.heap.size, 0, none⟩ = some (.int .i64 p) ∧ w'.cell? ⟨w.heap.size, 1, none⟩ = some (.int .i64 n) ∧ At w' ⟨w.heap.size, 0, none⟩ #[.int .i64 p, .int .i64 n, .slice (some ad) l.length c] ∧ MAt w' ⟨wo.heap.size, 0, none⟩ m ∧ MAt w' ⟨wr.heap.size, 0, none⟩ m2) (ds := []) #[Nn,Nn,Nn,Nn,Nn,Nn,Nn,Nn,Nn,Nn] (by kernel_rfl) rfl rfl ⟨k0, k1, H1.drew.at, H4.drew.at, H6.drew.at⟩ (fun hHeld => ?_)
              refine pure_ (i := 1) (N := some 56) (v := ?_) (a' := ?_) #[Nn,Yy,Nn,Nn,Nn,Nn,Nn,Nn,Nn,Nn] rfl rfl (by kernel_rfl) (fun _ _ _ h => h) (Or.inl ⟨by rfl, ?_⟩) ?_ ?_
              rotate_left
              · intro w'
                go_simp
                with_reducible rfl
              rotate_left
              · simp only [Act.put, List.setIfInBounds_toArray, List.set_cons_zero, List.set_cons_succ, i64_w, i32_w]
                rfl
              refine pure_ (i := 3) (N := some 58) (v := ?_) (a' := ?_) #[Nn,Yy,Nn,Yy,Nn,Nn,Nn,Nn,Nn,Nn] rfl rfl (by kernel_rfl) (fun _ _ _ h => h) (Or.inl ⟨by rfl, ?_⟩) ?_ ?_
              rotate_left
              · intro w'
                go_simp
                with_reducible rfl
              rotate_left
              · simp only [Act.put, List.setIfInBounds_toArray, List.set_cons_zero, List.set_cons_succ, i64_w, i32_w]
                rfl
              refine take_ (i := 0) (N := some 55) (v := ?_) (a' := ?_) #[Yy,Yy,Nn,Yy,Nn,Nn,Nn,Nn,Nn,Nn] rfl rfl (by kernel_rfl) (fun _ _ _ h => h) (Or.inl ⟨by rfl, ?_⟩) hHeld ?_ ?_
              rotate_left
              · rintro w' ⟨s0, s1, s2, s3, s4⟩
                refine Eq.trans (run_op_load' s2 (by rfl) (by rfl) Tryz.underlying37 rfl sizeG) ?_
                with_reducible rfl
              rotate_left
              · simp only [Act.put, List.setIfInBounds_toArray, List.set_cons_zero, List.set_cons_succ, i64_w, i32_w]
                rfl
              refine take_ (i := 2) (N := some 57) (v := ?_) (a' := ?_) #[Yy,Yy,Yy,Yy,Nn,Nn,Nn,Nn,Nn,Nn] rfl rfl (by kernel_rfl) (fun _ _ _ h => h) (Or.inl ⟨by rfl, ?_⟩) hHeld ?_ ?_
              rotate_left
              · rintro w' ⟨s0, s1, s2, s3, s4⟩
                go_simp
                with_reducible rfl
              rotate_left
              · simp only [Act.put, List.setIfInBounds_toArray, List.set_cons_zero, List.set_cons_succ, i64_w, i32_w]
                rfl
              refine take_ (i := 4) (N := some 59) (v := ?_) (a' := ?_) #[Yy,Yy,Yy,Yy,Yy,Nn,Nn,Nn,Nn,Nn] rfl rfl (by kernel_rfl) (fun _ _ _ h => h) (Or.inl ⟨by rfl, ?_⟩) hHeld ?_ ?_
              rotate_left
              · rintro w' ⟨s0, s1, s2, s3, s4⟩
                go_simp
                with_reducible rfl
              rotate_left
              · simp only [Act.put, List.setIfInBounds_toArray, List.set_cons_zero, List.set_cons_succ, i64_w, i32_w]
                rfl
              refine take_ (i := 5) (N := some 60) (v := ?_) (a' := ?_) #[Yy,Yy,Yy,Yy,Yy,Yy,Nn,Nn,Nn,Nn] rfl rfl (by kernel_rfl) (fun _ _ _ h => h) (Or.inl ⟨by rfl, ?_⟩) hHeld ?_ ?_
              rotate_left
              · rintro w' ⟨s0, s1, s2, s3, s4⟩
                refine Eq.trans (run_op_load' s3 (by rfl) (by rfl) Tryz.underlying138 rfl (sizeM_of hm9)) ?_
                with_reducible rfl
              rotate_left
              · simp only [Act.put, List.setIfInBounds_toArray, List.set_cons_zero, List.set_cons_succ, i64_w, i32_w]
                rfl
              refine take_ (i := 6) (N := some 61) (v := ?_) (a' := ?_) #[Yy,Yy,Yy,Yy,Yy,Yy,Yy,Nn,Nn,Nn] rfl rfl (by kernel_rfl) (fun _ _ _ h => h) (Or.inl ⟨by rfl, ?_⟩) hHeld ?_ ?_
              rotate_left
              · rintro w' ⟨s0, s1, s2, s3, s4⟩
                refine Eq.trans (run_op_load' s4 (by rfl) (by rfl) Tryz.underlying138 rfl (sizeM_of hm92)) ?_
                with_reducible rfl
              rotate_left
              · simp only [Act.put, List.setIfInBounds_toArray, List.set_cons_zero, List.set_cons_succ, i64_w, i32_w]
                rfl
              refine one_ (i := 7) (N := some 62) #[Yy,Yy,Yy,Yy,Yy,Yy,Yy,Yy,Nn,Nn] rfl rfl (by kernel_rfl) (by decide) (fun K hK => ?_)
              refine goes_ Tryz.func152 (by kernel_rfl) rfl #[.int .i64 p, .int .i64 n, .agg (mcells m), .agg (mcells m2)] (by rfl) rfl rfl (by simp only [List.map_toArray, List.map_cons, List.map_nil]; rfl) ?_
              with_reducible refine (HK.out _).mono ?_
              rintro e w2 ⟨rfl, hb⟩
              refine ⟨_, rfl, ?_⟩
              have HB2 := Aside0.mk hb
              clear hb
              replace H1 := H1.drew.keep HB2.out
              replace H4 := H4.drew.keep HB2.out
              replace H6 := H6.drew.keep HB2.out
              replace HB := Aside0.mk (below_step (below_drew1 HB.out) HB2.out)
              refine hK.out _ _ ⟨H1.cell 0 rfl, H1.cell 1 rfl, H1.at, H4.at, H6.at⟩ (fun hHeld => ?_)
              clear hK K
              refine norm_ (a' := ?_) ?_ ?_
              rotate_left
              · show Act.put _ (some 62) _ = _
                simp only [Act.put, List.setIfInBounds_toArray, List.set_cons_zero, List.set_cons_succ, i64_w, i32_w]
                rfl
              refine one_ (i := 8) (N := some 63) #[Yy,Yy,Yy,Yy,Yy,Yy,Yy,Yy,Yy,Nn] rfl rfl (by kernel_rfl) (by decide) (fun K hK => ?_)
              refine goes_ Tryz.func151 (by kernel_rfl) rfl #[.agg #[.int .i64 p, .int .i64 n, .slice (some ad) l.length c], .agg (mcells (timesM p n m m2))] (by rfl) rfl rfl (by simp only [List.map_toArray, List.map_cons, List.map_nil]; rfl) ?_
              with_reducible refine (HK3.out _ HB.out).mono ?_
              rintro e w3 ⟨rfl, hb⟩
              refine ⟨_, rfl, ?_⟩
              have HB3 := Aside0.mk hb
              clear hb
              replace H1 := H1.keep HB3.out
              replace H4 := H4.keep HB3.out
              replace H6 := H6.keep HB3.out
              refine hK.out _ _ ⟨H1.cell 0 rfl, H1.cell 1 rfl, H1.at, H4.at, H6.at⟩ (fun hHeld => ?_)
              clear hK K
              refine norm_ (a' := ?_) ?_ ?_
              rotate_left
              · show Act.put _ (some 63) _ = _
                simp only [Act.put, List.setIfInBounds_toArray, List.set_cons_zero, List.set_cons_succ, i64_w, i32_w]
                rfl
              refine pure_ (i := 9) (N := some 64) (v := ?_) (a' := ?_) #[Yy,Yy,Yy,Yy,Yy,Yy,Yy,Yy,Yy,Yy] rfl rfl (by kernel_rfl) (fun _ _ _ h => h) (Or.inl ⟨by rfl, ?_⟩) ?_ ?_
              rotate_left
              · intro w'
                go_simp
                with_reducible rfl
              rotate_left
              · simp only [Act.put, List.setIfInBounds_toArray, List.set_cons_zero, List.set_cons_succ, i64_w, i32_w]
                rfl
              refine done_ (by kernel_rfl) ?_
              go_wp2
              go_roundw
              case rel => exact ⟨k + 1, by go_num, by omega, HEK2, H1, H4, ⟨below_step HB.out HB3.out⟩⟩
              case measure => simp [intOf]; omega
          · have HE2 : Aside0 (∀ j < i + 1, (∀ j', j = j' + 1 → beforeB (ntR l j') (ntR l j) = true) ∧ ∀ k < l.length, hasB l (timesM p n (ntR l j) (ntR l k)) = true) := ⟨fun j hj => by
              rcases Nat.lt_succ_iff_lt_or_eq.1 hj with h | h
              · exact HE.out j h
              · subst h; exact ⟨HO2.out, fun k' hk' => HEK.out k' (by omega)⟩⟩
            go_wp2
            go_roundw
            case rel => exact ⟨i + 1, by go_num, by omega, HE2, H1, HB⟩
            case measure => simp [intOf]; omega
      · obtain ⟨i', hii⟩ : ∃ k, i = k + 1 := ⟨i - 1, by omega⟩
        have hi2 : i' < l.length := by omega
        obtain ⟨ad', m', hmm', he', hm9', hc'⟩ := mat_at HR.out i' hi2
        obtain rfl : ad = ad' := Option.some.inj he'
        have HM' : Aside0 (IsM m') := ⟨HL.out m' (hmm' ▸ ntR_mem l i' hi2)⟩
        have HC' := Aside0.mk (hc'.below HB.out)
        have HMM' := Aside0.mk hmm'
        have hgt : decide (0 < i) = true := decide_eq_true (by omega)
        have hsub : wrap64 ((i : Int) - 1) = (i' : Int) := by rw [IntWalk.wrap64_in _ ⟨by omega, by omega⟩]; omega
        have HII := Aside0.mk hii
        clear hmm' hc' he' hi0 hii
        have HK2 := Aside0.mk (fun W => compareMatrices_calls m' m W HM'.out HM.out)
        have hbd := before_dec m' m
        cases hbf : beforeB m' m
        · have HN := Aside0.mk (grpB_not fun h : GrpOk p n l => by have := h.order i' (by have := HII.out; omega); rw [← HII.out, ← HMM.out, ← HMM'.out, hbf] at this; cases this)
          rw [hbf] at hbd
          replace hbd : decide (0 ≤ cmpL m' m) = true := hbd
          refine start_ (n := 13) (S := fun w' => w'.cell? ⟨w.heap.size, 2, none⟩ = some (.slice (some ad) l.length c) ∧ MAt w' (ad.add (i' * 9)) m' ∧ MAt w' ⟨wr.heap.size, 0, none⟩ m) (ds := []) #[Nn,Nn,Nn,Nn,Nn,Nn,Nn,Nn,Nn,Nn,Nn,Nn,Nn] (by kernel_rfl) rfl rfl ⟨k2, HC'.out.drew, H4.drew.at⟩ (fun hHeld => ?_)
          refine pure_ (i := 0) (N := some 35) (v := ?_) (a' := ?_) #[Yy,Nn,Nn,Nn,Nn,Nn,Nn,Nn,Nn,Nn,Nn,Nn,Nn] rfl rfl (by kernel_rfl) (fun _ _ _ h => h) (Or.inl ⟨by rfl, ?_⟩) ?_ ?_
          rotate_left
          · intro w'
            go_simp
            with_reducible rfl
          rotate_left
          · simp only [Act.put, List.setIfInBounds_toArray, List.set_cons_zero, List.set_cons_succ, i64_w, i32_w]
            rfl
          refine pure_ (i := 1) (N := some 36) (v := ?_) (a' := ?_) #[Yy,Yy,Nn,Nn,Nn,Nn,Nn,Nn,Nn,Nn,Nn,Nn,Nn] rfl rfl (by kernel_rfl) (fun _ _ _ h => h) (Or.inl ⟨by rfl, ?_⟩) ?_ ?_
          rotate_left
          · intro w'
            go_simp
            with_reducible rfl
          rotate_left
          · simp only [Act.put, List.setIfInBounds_toArray, List.set_cons_zero, List.set_cons_succ, i64_w, i32_w]
            rfl
          refine pure_ (i := 2) (N := some 37) (v := ?_) (a' := ?_) #[Yy,Yy,Yy,Nn,Nn,Nn,Nn,Nn,Nn,Nn,Nn,Nn,Nn] rfl rfl (by kernel_rfl) (fun _ _ _ h => h) (Or.inl ⟨by rfl, ?_⟩) ?_ ?_
          rotate_left
          · intro w'
            go_simp
            with_reducible rfl
          rotate_left
          · simp only [Act.put, List.setIfInBounds_toArray, List.set_cons_zero, List.set_cons_succ, i64_w, i32_w]
            rfl
          refine pure_ (i := 3) (N := some 38) (v := ?_) (a' := ?_) #[Yy,Yy,Yy,Yy,Nn,Nn,Nn,Nn,Nn,Nn,Nn,Nn,Nn] rfl rfl (by kernel_rfl) (fun _ _ _ h => h) (Or.inl ⟨by rfl, ?_⟩) ?_ ?_
          rotate_left
          · intro w'
            go_simp
            with_reducible rfl
          rotate_left
          · simp only [Act.put, List.setIfInBounds_toArray, List.set_cons_zero, List.set_cons_succ, i64_w, i32_w]
            rfl
          refine pure_ (i := 5) (N := some 40) (v := ?_) (a' := ?_) #[Yy,Yy,Yy,Yy,Nn,Yy,Nn,Nn,Nn,Nn,Nn,Nn,Nn] rfl rfl (by kernel_rfl) (fun _ _ _ h => h) (Or.inl ⟨by rfl, ?_⟩) ?_ ?_
          rotate_left
          · intro w'
            go_simp
            with_reducible rfl
          rotate_left
          · simp only [Act.put, List.setIfInBounds_toArray, List.set_cons_zero, List.set_cons_succ, i64_w, i32_w]
            rfl
          refine pure_ (i := 6) (N := some 41) (v := ?_) (a' := ?_) #[Yy,Yy,Yy,Yy,Nn,Yy,Yy,Nn,Nn,Nn,Nn,Nn,Nn] rfl rfl (by kernel_rfl) (fun _ _ _ h => h) (Or.inl ⟨by rfl, ?_⟩) ?_ ?_
          rotate_left
          · intro w'
            go_simp
            with_reducible rfl
          rotate_left
          · simp only [Act.put, List.setIfInBounds_toArray, List.set_cons_zero, List.set_cons_succ, i64_w, i32_w]
            rfl
          refine take_ (i := 4) (N := some 39) (v := ?_) (a' := ?_) #[Yy,Yy,Yy,Yy,Yy,Yy,Yy,Nn,Nn,Nn,Nn,Nn,Nn] rfl rfl (by kernel_rfl) (fun _ _ _ h => h) (Or.inl ⟨by rfl, ?_⟩) hHeld ?_ ?_
          rotate_left
          · rintro w' ⟨s0, s1, s2⟩
            go_simp
            with_reducible rfl
          rotate_left
          · simp only [Act.put, List.setIfInBounds_toArray, List.set_cons_zero, List.set_cons_succ, i64_w, i32_w]
            rfl
          refine pure_ (i := 7) (N := some 42) (v := ?_) (a' := ?_) #[Yy,Yy,Yy,Yy,Yy,Yy,Yy,Yy,Nn,Nn,Nn,Nn,Nn] rfl rfl (by kernel_rfl) (fun _ _ _ h => h) (Or.inl ⟨by rfl, ?_⟩) ?_ ?_
          rotate_left
          · intro w'
            go_simp
            with_reducible rfl
          rotate_left
          · simp only [Act.put, List.setIfInBounds_toArray, List.set_cons_zero, List.set_cons_succ, i64_w, i32_w]
            rfl
          refine take_ (i := 8) (N := some 43) (v := ?_) (a' := ?_) #[Yy,Yy,Yy,Yy,Yy,Yy,Yy,Yy,Yy,Nn,Nn,Nn,Nn] rfl rfl (by kernel_rfl) (fun _ _ _ h => h) (Or.inl ⟨by rfl, ?_⟩) hHeld ?_ ?_
          rotate_left
          · rintro w' ⟨s0, s1, s2⟩
            refine Eq.trans (run_op_load' s1 (by rfl) (by rfl) Tryz.underlying138 rfl (sizeM_of hm9')) ?_
            with_reducible rfl
          rotate_left
          · simp only [Act.put, List.setIfInBounds_toArray, List.set_cons_zero, List.set_cons_succ, i64_w, i32_w]
            rfl
          refine take_ (i := 9) (N := some 44) (v := ?_) (a' := ?_) #[Yy,Yy,Yy,Yy,Yy,Yy,Yy,Yy,Yy,Yy,Nn,Nn,Nn] rfl rfl (by kernel_rfl) (fun _ _ _ h => h) (Or.inl ⟨by rfl, ?_⟩) hHeld ?_ ?_
          rotate_left
          · rintro w' ⟨s0, s1, s2⟩
            refine Eq.trans (run_op_load' s2 (by rfl) (by rfl) Tryz.underlying138 rfl (sizeM_of hm9)) ?_
            with_reducible rfl
          rotate_left
          · simp only [Act.put, List.setIfInBounds_toArray, List.set_cons_zero, List.set_cons_succ, i64_w, i32_w]
            rfl
          refine one_ (i := 10) (N := some 45) #[Yy,Yy,Yy,Yy,Yy,Yy,Yy,Yy,Yy,Yy,Yy,Nn,Nn] rfl rfl (by kernel_rfl) (by decide) (fun K hK => ?_)
          refine goes_ Tryz.func150 (by kernel_rfl) rfl #[.agg (mcells m'), .agg (mcells m)] (by rfl) rfl rfl (by simp only [List.map_toArray, List.map_cons, List.map_nil]; rfl) ?_
          with_reducible refine (HK2.out _).mono ?_
          rintro e w2 ⟨rfl, hb⟩
          refine ⟨_, rfl, ?_⟩
          have HB2 := Aside0.mk hb
          clear hb
          replace H1 := H1.drew.keep HB2.out
          replace H4 := H4.drew.keep HB2.out
          refine hK.out _ _ ⟨H1.cell 2 rfl, HC'.out.drew.below HB2.out, H4.at⟩ (fun hHeld => ?_)
          clear hK K
          refine norm_ (a' := ?_) ?_ ?_
          rotate_left
          · show Act.put _ (some 45) _ = _
            simp only [Act.put, List.setIfInBounds_toArray, List.set_cons_zero, List.set_cons_succ, i64_w, i32_w]
            rfl
          refine pure_ (i := 11) (N := some 46) (v := ?_) (a' := ?_) #[Yy,Yy,Yy,Yy,Yy,Yy,Yy,Yy,Yy,Yy,Yy,Yy,Nn] rfl rfl (by kernel_rfl) (fun _ _ _ h => h) (Or.inl ⟨by rfl, ?_⟩) ?_ ?_
          rotate_left
          · intro w'
            go_simp
            with_reducible rfl
          rotate_left
          · simp only [Act.put, List.setIfInBounds_toArray, List.set_cons_zero, List.set_cons_succ, i64_w, i32_w]
            rfl
          refine pure_ (i := 12) (N := some 47) (v := ?_) (a' := ?_) #[Yy,Yy,Yy,Yy,Yy,Yy,Yy,Yy,Yy,Yy,Yy,Yy,Yy] rfl rfl (by kernel_rfl) (fun _ _ _ h => h) (Or.inl ⟨by rfl, ?_⟩) ?_ ?_
          rotate_left
          · intro w'
            go_simp
            with_reducible rfl
          rotate_left
          · simp only [Act.put, List.setIfInBounds_toArray, List.set_cons_zero, List.set_cons_succ, i64_w, i32_w]
            rfl
          refine done_ (by kernel_rfl) ?_
          go_wp2
          go_ret
          exact ⟨ret_b HN.out.symm, below_step (below_drew1 HB.out) HB2.out⟩
        · have HO2 : Aside0 (∀ j', i = j' + 1 → beforeB (ntR l j') (ntR l i) = true) := ⟨fun j' hj' => by
            obtain rfl : j' = i' := by have := HII.out; omega
            rw [← HMM.out, ← HMM'.out]; exact hbf⟩
          rw [hbf] at hbd
          replace hbd : decide (0 ≤ cmpL m' m) = false := hbd
          refine start_ (n := 13) (S := fun w' => w'.cell? ⟨w.heap.size, 2, none⟩ = some (.slice (some ad) l.length c) ∧ MAt w' (ad.add (i' * 9)) m' ∧ MAt w' ⟨wr.heap.size, 0, none⟩ m) (ds := []) #[Nn,Nn,Nn,Nn,Nn,Nn,Nn,Nn,Nn,Nn,Nn,Nn,Nn] (by kernel_rfl) rfl rfl ⟨k2, HC'.out.drew, H4.drew.at⟩ (fun hHeld => ?_)
          refine pure_ (i := 0) (N := some 35) (v := ?_) (a' := ?_) #[Yy,Nn,Nn,Nn,Nn,Nn,Nn,Nn,Nn,Nn,Nn,Nn,Nn] rfl rfl (by kernel_rfl) (fun _ _ _ h => h) (Or.inl ⟨by rfl, ?_⟩) ?_ ?_
          rotate_left
          · intro w'
            go_simp
            with_reducible rfl
          rotate_left
          · simp only [Act.put, List.setIfInBounds_toArray, List.set_cons_zero, List.set_cons_succ, i64_w, i32_w]
            rfl
          refine pure_ (i := 1) (N := some 36) (v := ?_) (a' := ?_) #[Yy,Yy,Nn,Nn,Nn,Nn,Nn,Nn,Nn,Nn,Nn,Nn,Nn] rfl rfl (by kernel_rfl) (fun _ _ _ h => h) (Or.inl ⟨by rfl, ?_⟩) ?_ ?_
          rotate_left
          · intro w'
            go_simp
            with_reducible rfl
          rotate_left
          · simp only [Act.put, List.setIfInBounds_toArray, List.set_cons_zero, List.set_cons_succ, i64_w, i32_w]
            rfl
          refine pure_ (i := 2) (N := some 37) (v := ?_) (a' := ?_) #[Yy,Yy,Yy,Nn,Nn,Nn,Nn,Nn,Nn,Nn,Nn,Nn,Nn] rfl rfl (by kernel_rfl) (fun _ _ _ h => h) (Or.inl ⟨by rfl, ?_⟩) ?_ ?_
          rotate_left
          · intro w'
            go_simp
            with_reducible rfl
          rotate_left
          · simp only [Act.put, List.setIfInBounds_toArray, List.set_cons_zero, List.set_cons_succ, i64_w, i32_w]
            rfl
          refine pure_ (i := 3) (N := some 38) (v := ?_) (a' := ?_) #[Yy,Yy,Yy,Yy,Nn,Nn,Nn,Nn,Nn,Nn,Nn,Nn,Nn] rfl rfl (by kernel_rfl) (fun _ _ _ h => h) (Or.inl ⟨by rfl, ?_⟩) ?_ ?_
          rotate_left
          · intro w'
            go_simp
            with_reducible rfl
          rotate_left
          · simp only [Act.put, List.setIfInBounds_toArray, List.set_cons_zero, List.set_cons_succ, i64_w, i32_w]
            rfl
          refine pure_ (i := 5) (N := some 40) (v := ?_) (a' := ?_) #[Yy,Yy,Yy,Yy,Nn,Yy,Nn,Nn,Nn,Nn,Nn,Nn,Nn] rfl rfl (by kernel_rfl) (fun _ _ _ h => h) (Or.inl ⟨by rfl, ?_⟩) ?_ ?_
          rotate_left
          · intro w'
            go_simp
            with_reducible rfl
          rotate_left
          · simp only [Act.put, List.setIfInBounds_toArray, List.set_cons_zero, List.set_cons_succ, i64_w, i32_w]
            rfl
          refine pure_ (i := 6) (N := some 41) (v := ?_) (a' := ?_) #[Yy,Yy,Yy,Yy,Nn,Yy,Yy,Nn,Nn,Nn,Nn,Nn,Nn] rfl rfl (by kernel_rfl) (fun _ _ _ h => h) (Or.inl ⟨by rfl, ?_⟩) ?_ ?_
          rotate_left
          · intro w'
            go_simp
            with_reducible rfl
          rotate_left
          · simp only [Act.put, List.setIfInBounds_toArray, List.set_cons_zero, List.set_cons_succ, i64_w, i32_w]
            rfl
          refine take_ (i := 4) (N := some 39) (v := ?_) (a' := ?_) #[Yy,Yy,Yy,Yy,Yy,Yy,Yy,Nn,Nn,Nn,Nn,Nn,Nn] rfl rfl (by kernel_rfl) (fun _ _ _ h => h) (Or.inl ⟨by rfl, ?_⟩) hHeld ?_ ?_
          rotate_left
          · rintro w' ⟨s0, s1, s2⟩
            go_simp
            with_reducible rfl
          rotate_left
          · simp only [Act.put, List.setIfInBounds_toArray, List.set_cons_zero, List.set_cons_succ, i64_w, i32_w]
            rfl
          refine pure_ (i := 7) (N := some 42) (v := ?_) (a' := ?_) #[Yy,Yy,Yy,Yy,Yy,Yy,Yy,Yy,Nn,Nn,Nn,Nn,Nn] rfl rfl (by kernel_rfl) (fun _ _ _ h => h) (Or.inl ⟨by rfl, ?_⟩) ?_ ?_
          rotate_left
          · intro w'
            go_simp
            with_reducible rfl
          rotate_left
          · simp only [Act.put, List.setIfInBounds_toArray, List.set_cons_zero, List.set_cons_succ, i64_w, i32_w]
            rfl
          refine take_ (i := 8) (N := some 43) (v := ?_) (a' := ?_) #[Yy,Yy,Yy,Yy,Yy,Yy,Yy,Yy,Yy,Nn,Nn,Nn,Nn] rfl rfl (by kernel_rfl) (fun _ _ _ h => h) (Or.inl ⟨by rfl, ?_⟩) hHeld ?_ ?_
          rotate_left
          · rintro w' ⟨s0, s1, s2⟩
            refine Eq.trans (run_op_load' s1 (by rfl) (by rfl) Tryz.underlying138 rfl (sizeM_of hm9')) ?_
            with_reducible rfl
          rotate_left
          · simp only [Act.put, List.setIfInBounds_toArray, List.set_cons_zero, List.set_cons_succ, i64_w, i32_w]
            rfl
          refine take_ (i := 9) (N := some 44) (v := ?_) (a' := ?_) #[Yy,Yy,Yy,Yy,Yy,Yy,Yy,Yy,Yy,Yy,Nn,Nn,Nn] rfl rfl (by kernel_rfl) (fun _ _ _ h => h) (Or.inl ⟨by rfl, ?_⟩) hHeld ?_ ?_
          rotate_left
          · rintro w' ⟨s0, s1, s2⟩
            refine Eq.trans (run_op_load' s2 (by rfl) (by rfl) Tryz.underlying138 rfl (sizeM_of hm9)) ?_
            with_reducible rfl
          rotate_left
          · simp only [Act.put, List.setIfInBounds_toArray, List.set_cons_zero, List.set_cons_succ, i64_w, i32_w]
            rfl
          refine one_ (i := 10) (N := some 45) #[Yy,Yy,Yy,Yy,Yy,Yy,Yy,Yy,Yy,Yy,Yy,Nn,Nn] rfl rfl (by kernel_rfl) (by decide) (fun K hK => ?_)
          refine goes_ Tryz.func150 (by kernel_rfl) rfl #[.agg (mcells m'), .agg (mcells m)] (by rfl) rfl rfl (by simp only [List.map_toArray, List.map_cons, List.map_nil]; rfl) ?_
          with_reducible refine (HK2.out _).mono ?_
          rintro e w2 ⟨rfl, hb⟩
          refine ⟨_, rfl, ?_⟩
          have HB2 := Aside0.mk hb
          clear hb
          replace H1 := H1.drew.keep HB2.out
          replace H4 := H4.drew.keep HB2.out
          refine hK.out _ _ ⟨H1.cell 2 rfl, HC'.out.drew.below HB2.out, H4.at⟩ (fun hHeld => ?_)
          clear hK K
          refine norm_ (a' := ?_) ?_ ?_
          rotate_left
          · show Act.put _ (some 45) _ = _
            simp only [Act.put, List.setIfInBounds_toArray, List.set_cons_zero, List.set_cons_succ, i64_w, i32_w]
            rfl
          refine pure_ (i := 11) (N := some 46) (v := ?_) (a' := ?_) #[Yy,Yy,Yy,Yy,Yy,Yy,Yy,Yy,Yy,Yy,Yy,Yy,Nn] rfl rfl (by kernel_rfl) (fun _ _ _ h => h) (Or.inl ⟨by rfl, ?_⟩) ?_ ?_
          rotate_left
          · intro w'
            go_simp
            with_reducible rfl
          rotate_left
          · simp only [Act.put, List.setIfInBounds_toArray, List.set_cons_zero, List.set_cons_succ, i64_w, i32_w]
            rfl
          refine pure_ (i := 12) (N := some 47) (v := ?_) (a' := ?_) #[Yy,Yy,Yy,Yy,Yy,Yy,Yy,Yy,Yy,Yy,Yy,Yy,Yy] rfl rfl (by kernel_rfl) (fun _ _ _ h => h) (Or.inl ⟨by rfl, ?_⟩) ?_ ?_
          rotate_left
          · intro w'
            go_simp
            with_reducible rfl
          rotate_left
          · simp only [Act.put, List.setIfInBounds_toArray, List.set_cons_zero, List.set_cons_succ, i64_w, i32_w]
            rfl
          refine done_ (by kernel_rfl) ?_
          replace HB := Aside0.mk (below_step (below_drew1 HB.out) HB2.out)
          clear k0 k1 k2 HC' HK2 hbd hbf hsub hgt
          have k2 := H1.cell 2 rfl
          go_wp2
          clear k2
          obtain ⟨wo, rfl⟩ : ∃ wo, wo = wr := ⟨_, rfl⟩
          go_loopw [51] (fun v wr => ∃ k : Nat, v = .int .i64 k ∧ k ≤ l.length ∧ Aside0 (∀ j < k, hasB l (timesM p n (ntR l i) (ntR l j)) = true) ∧ Blk wr w.heap.size 37 #[.int .i64 p, .int .i64 n, .slice (some ad) l.length c] ∧ Blk wr wo.heap.size 138 (mcells m) ∧ Aside0 (Below w.heap.size w wr)) (fun v _ => l.length - (intOf v).toNat)
          case atStart => exact ⟨0, rfl, by omega, ⟨fun j hj => by omega⟩, H1, H4, HB⟩
          case round =>
            clear H1 H4 HB
            obtain ⟨k, rfl, hk, HEK, H1, H4, HB⟩ := hrel
            by_cases hkl : k < l.length
            · obtain ⟨ad', m2, hmm2, he2, hm92, hc2⟩ := mat_at HR.out k hkl
              obtain rfl : ad = ad' := Option.some.inj he2
              have HM2 : Aside0 (IsM m2) := ⟨HL.out m2 (hmm2 ▸ ntR_mem l k hkl)⟩
              have HC2 := Aside0.mk (hc2.below HB.out)
              have HMM2 := Aside0.mk hmm2
              clear hmm2 hc2 he2
              have HK := Aside0.mk (fun W => times_calls p n m m2 W (by omega) (by omega) (by omega) HM.out HM2.out)
              have HK3 := Aside0.mk (fun W (h : Below w.heap.size w W) => has_calls p n (some ad) l.length c l (timesM p n m m2) W (Kd.C_below HR.out h) (mk9_len _))
              have hg1 := H1.lt
              have hg5 := H4.lt
              have Hz := Blk.new wr (mcells [0, 0, 0, 0, 0, 0, 0, 0, 0]) 138
              have H6 := Hz.setRow (mcells m2)
              replace H1 := (H1.alloc (.cells (mcells [0, 0, 0, 0, 0, 0, 0, 0, 0]) 138)).setRow_far (g' := wr.heap.size) (by omega) (mcells m2)
              replace H4 := (H4.alloc (.cells (mcells [0, 0, 0, 0, 0, 0, 0, 0, 0]) 138)).setRow_far (g' := wr.heap.size) (by omega) (mcells m2)
              replace HB := Aside0.mk (below_setRow (below_alloc HB.out (.cells (mcells [0, 0, 0, 0, 0, 0, 0, 0, 0]) 138)) HB.out.size (mcells m2))
              have k0 := H1.cell 0 rfl
              have k1 := H1.cell 1 rfl
              cases hhb : hasB l (timesM p n m m2)
              · have HN := Aside0.mk (grpB_not fun h : GrpOk p n l => by have := h.closed _ hlt k hkl; rw [← HMM.out, ← HMM2.out, Int.toNat_natCast, hhb] at this; cases this)
                rw [hhb] at HK3
                go_wp2_with (first
                  | (refine store_blk rfl _ 6 _ rfl Hz rfl rfl (sizeM_of hm92) (by rw [mcells_size, mcells_size, hm92]; rfl) (mcells_one _) ?_)
                  | (refine load_agg rfl _ 53 rfl (ad.add (k * 9)) HC2.out rfl _ Tryz.underlying138 rfl (sizeM_of hm92) ?_))
                refine start_ (n := 10) (S := fun w' => w'.cell? ⟨w.heap.size, 0, none⟩ = some (.int .i64 p) ∧ w'.cell? ⟨w.heap.size, 1, none⟩ = some (.int .i64 n) ∧ At w' ⟨w.heap.size, 0, none⟩ #[.int .i64 p, .int .i64 n, .slice (some ad) l.length c] ∧ MAt w' ⟨wo.heap.size, 0, none⟩ m ∧ MAt w' ⟨wr.heap.size, 0, none⟩ m2) (ds := []) #[Nn,Nn,Nn,Nn,Nn,Nn,Nn,Nn,Nn,Nn] (by kernel_rfl) rfl rfl ⟨k0, k1, H1.drew.at, H4.drew.at, H6.drew.at⟩ (fun hHeld => ?_)
                refine pure_ (i := 1) (N := some 56) (v := ?_) (a' := ?_) #[Nn,Yy,Nn,Nn,Nn,Nn,Nn,Nn,Nn,Nn] rfl rfl (by kernel_rfl) (fun _ _ _ h => h) (Or.inl ⟨by rfl, ?_⟩) ?_ ?_
                rotate_left
                · intro w'
                  go_simp
                  with_reducible rfl
                rotate_left
                · simp only [Act.put, List.setIfInBounds_toArray, List.set_cons_zero, List.set_cons_succ, i64_w, i32_w]
                  rfl
                refine pure_ (i := 3) (N := some 58) (v := ?_) (a' := ?_) #[Nn,Yy,Nn,Yy,Nn,Nn,Nn,Nn,Nn,Nn] rfl rfl (by kernel_rfl) (fun _ _ _ h => h) (Or.inl ⟨by rfl, ?_⟩) ?_ ?_
                rotate_left
                · intro w'
                  go_simp
                  with_reducible rfl
                rotate_left
                · simp only [Act.put, List.setIfInBounds_toArray, List.set_cons_zero, List.set_cons_succ, i64_w, i32_w]
                  rfl
                refine take_ (i := 0) (N := some 55) (v := ?_) (a' := ?_) #[Yy,Yy,Nn,Yy,Nn,Nn,Nn,Nn,Nn,Nn] rfl rfl (by kernel_rfl) (fun _ _ _ h => h) (Or.inl ⟨by rfl, ?_⟩) hHeld ?_ ?_
                rotate_left
                · rintro w' ⟨s0, s1, s2, s3, s4⟩
                  refine Eq.trans (run_op_load' s2 (by rfl) (by rfl) Tryz.underlying37 rfl sizeG) ?_
                  with_reducible rfl
                rotate_left
                · simp only [Act.put, List.setIfInBounds_toArray, List.set_cons_zero, List.set_cons_succ, i64_w, i32_w]
                  rfl
                refine take_ (i := 2) (N := some 57) (v := ?_) (a' := ?_) #[Yy,Yy,Yy,Yy,Nn,Nn,Nn,Nn,Nn,Nn] rfl rfl (by kernel_rfl) (fun _ _ _ h => h) (Or.inl ⟨by rfl, ?_⟩) hHeld ?_ ?_
                rotate_left
                · rintro w' ⟨s0, s1, s2, s3, s4⟩
                  go_simp
                  with_reducible rfl
                rotate_left
                · simp only [Act.put, List.setIfInBounds_toArray, List.set_cons_zero, List.set_cons_succ, i64_w, i32_w]
                  rfl
                refine take_ (i := 4) (N := some 59) (v := ?_) (a' := ?_) #[Yy,Yy,Yy,Yy,Yy,Nn,Nn,Nn,Nn,Nn] rfl rfl (by kernel_rfl) (fun _ _ _ h => h) (Or.inl ⟨by rfl, ?_⟩) hHeld ?_ ?_
                rotate_left
                · rintro w' ⟨s0, s1, s2, s3, s4⟩
                  go_simp
                  with_reducible rfl
                rotate_left
                · simp only [Act.put, List.setIfInBounds_toArray, List.set_cons_zero, List.set_cons_succ, i64_w, i32_w]
                  rfl
                refine take_ (i := 5) (N := some 60) (v := ?_) (a' := ?_) #[Yy,Yy,Yy,Yy,Yy,Yy,Nn,Nn,Nn,Nn] rfl rfl (by kernel_rfl) (fun _ _ _ h => h) (Or.inl ⟨by rfl, ?_⟩) hHeld ?_ ?_
                rotate_left
                · rintro w' ⟨s0, s1, s2, s3, s4⟩
                  refine Eq.trans (run_op_load' s3 (by rfl) (by rfl) Tryz.underlying138 rfl (sizeM_of hm9)) ?_
                  with_reducible rfl
                rotate_left
                · simp only [Act.put, List.setIfInBounds_toArray, List.set_cons_zero, List.set_cons_succ, i64_w, i32_w]
                  rfl
                refine take_ (i := 6) (N := some 61) (v := ?_) (a' := ?_) #[Yy,Yy,Yy,Yy,Yy,Yy,Yy,Nn,Nn,Nn] rfl rfl (by kernel_rfl) (fun _ _ _ h => h) (Or.inl ⟨by rfl, ?_⟩) hHeld ?_ ?_
                rotate_left
                · rintro w' ⟨s0, s1, s2, s3, s4⟩
                  refine Eq.trans (run_op_load' s4 (by rfl) (by rfl) Tryz.underlying138 rfl (sizeM_of hm92)) ?_
                  with_reducible rfl
                rotate_left
                · simp only [Act.put, List.setIfInBounds_toArray, List.set_cons_zero, List.set_cons_succ, i64_w, i32_w]
                  rfl
                refine one_ (i := 7) (N := some 62) #[Yy,Yy,Yy,Yy,Yy,Yy,Yy,Yy,Nn,Nn] rfl rfl (by kernel_rfl) (by decide) (fun K hK => ?_)
                refine goes_ Tryz.func152 (by kernel_rfl) rfl #[.int .i64 p, .int .i64 n, .agg (mcells m), .agg (mcells m2)] (by rfl) rfl rfl (by simp only [List.map_toArray, List.map_cons, List.map_nil]; rfl) ?_
                with_reducible refine (HK.out _).mono ?_
                rintro e w2 ⟨rfl, hb⟩
                refine ⟨_, rfl, ?_⟩
                have HB2 := Aside0.mk hb
                clear hb
                replace H1 := H1.drew.keep HB2.out
                replace H4 := H4.drew.keep HB2.out
                replace H6 := H6.drew.keep HB2.out
                replace HB := Aside0.mk (below_step (below_drew1 HB.out) HB2.out)
                refine hK.out _ _ ⟨H1.cell 0 rfl, H1.cell 1 rfl, H1.at, H4.at, H6.at⟩ (fun hHeld => ?_)
                clear hK K
                refine norm_ (a' := ?_) ?_ ?_
                rotate_left
                · show Act.put _ (some 62) _ = _
                  simp only [Act.put, List.setIfInBounds_toArray, List.set_cons_zero, List.set_cons_succ, i64_w, i32_w]
                  rfl
                refine one_ (i := 8) (N := some 63) #[Yy,Yy,Yy,Yy,Yy,Yy,Yy,Yy,Yy,Nn] rfl rfl (by kernel_rfl) (by decide) (fun K hK => ?_)
                refine goes_ Tryz.func151 (by kernel_rfl) rfl #[.agg #[.int .i64 p, .int .i64 n, .slice (some ad) l.length c], .agg (mcells (timesM p n m m2))] (by rfl) rfl rfl (by simp only [List.map_toArray, List.map_cons, List.map_nil]; rfl) ?_
                with_reducible refine (HK3.out _ HB.out).mono ?_
                rintro e w3 ⟨rfl, hb⟩
                refine ⟨_, rfl, ?_⟩
                have HB3 := Aside0.mk hb
                clear hb
                replace H1 := H1.keep HB3.out
                replace H4 := H4.keep HB3.out
                replace H6 := H6.keep HB3.out
                refine hK.out _ _ ⟨H1.cell 0 rfl, H1.cell 1 rfl, H1.at, H4.at, H6.at⟩ (fun hHeld => ?_)
                clear hK K
                refine norm_ (a' := ?_) ?_ ?_
                rotate_left
                · show Act.put _ (some 63) _ = _
                  simp only [Act.put, List.setIfInBounds_toArray, List.set_cons_zero, List.set_cons_succ, i64_w, i32_w]
                  rfl
                refine pure_ (i := 9) (N := some 64) (v := ?_) (a' := ?_) #[Yy,Yy,Yy,Yy,Yy,Yy,Yy,Yy,Yy,Yy] rfl rfl (by kernel_rfl) (fun _ _ _ h => h) (Or.inl ⟨by rfl, ?_⟩) ?_ ?_
                rotate_left
                · intro w'
                  go_simp
                  with_reducible rfl
                rotate_left
                · simp only [Act.put, List.setIfInBounds_toArray, List.set_cons_zero, List.set_cons_succ, i64_w, i32_w]
                  rfl
                refine done_ (by kernel_rfl) ?_
                go_wp2
                go_ret
                exact ⟨ret_b HN.out.symm, below_step HB.out HB3.out⟩
              · have HEK2 : Aside0 (∀ j < k + 1, hasB l (timesM p n (ntR l i) (ntR l j)) = true) := ⟨fun j hj => by
                  rcases Nat.lt_succ_iff_lt_or_eq.1 hj with h | h
                  · exact HEK.out j h
                  · subst h; rw [← HMM.out, ← HMM2.out]; exact hhb⟩
                rw [hhb] at HK3
                go_wp2_with (first
                  | (refine store_blk rfl _ 6 _ rfl Hz rfl rfl (sizeM_of hm92) (by rw [mcells_size, mcells_size, hm92]; rfl) (mcells_one _) ?_)
                  | (refine load_agg rfl _ 53 rfl (ad.add (k * 9)) HC2.out rfl _ Tryz.underlying138 rfl (sizeM_of hm92) ?_))
                refine start_ (n := 10) (S := fun w' => w'.cell? ⟨w.heap.size, 0, none⟩ = some (.int .i64 p) ∧ w'.cell? ⟨w.heap.size, 1, none⟩ = some (.int .i64 n) ∧ At w' ⟨w.heap.size, 0, none⟩ #[.int .i64 p, .int .i64 n, .slice (some ad) l.length c] ∧ MAt w' ⟨wo.heap.size, 0, none⟩ m ∧ MAt w' ⟨wr.heap.size, 0, none⟩ m2) (ds := []) #[Nn,Nn,Nn,Nn,Nn,Nn,Nn,Nn,Nn,Nn] (by kernel_rfl) rfl rfl ⟨k0, k1, H1.drew.at, H4.drew.at, H6.drew.at⟩ (fun hHeld => ?_)
                refine pure_ (i := 1) (N := some 56) (v := ?_) (a' := ?_) #[Nn,Yy,Nn,Nn,Nn,Nn,Nn,Nn,Nn,Nn] rfl rfl (by kernel_rfl) (fun _ _ _ h => h) (Or.inl ⟨by rfl, ?_⟩) ?_ ?_
                rotate_left
                · intro w'
                  go_simp
                  with_reducible rfl
                rotate_left
                · simp only [Act.put, List.setIfInBounds_toArray, List.set_cons_zero, List.set_cons_succ, i64_w, i32_w]
                  rfl
                refine pure_ (i := 3) (N := some 58) (v := ?_) (a' := ?_) #[Nn,Yy,Nn,Yy,Nn,Nn,Nn,Nn,Nn,Nn] rfl rfl (by kernel_rfl) (fun _ _ _ h => h) (Or.inl ⟨by rfl, ?_⟩) ?_ ?_
                rotate_left
                · intro w'
                  go_simp
                  with_reducible rfl
                rotate_left
                · simp only [Act.put, List.setIfInBounds_toArray, List.set_cons_zero, List.set_cons_succ, i64_w, i32_w]
                  rfl
                refine take_ (i := 0) (N := some 55) (v := ?_) (a' := ?_) #[Yy,Yy,Nn,Yy,Nn,Nn,Nn,Nn,Nn,Nn] rfl rfl (by kernel_rfl) (fun _ _ _ h => h) (Or.inl ⟨by rfl, ?_⟩) hHeld ?_ ?_
                rotate_left
                · rintro w' ⟨s0, s1, s2, s3, s4⟩
                  refine Eq.trans (run_op_load' s2 (by rfl) (by rfl) Tryz.underlying37 rfl sizeG) ?_
                  with_reducible rfl
                rotate_left
                · simp only [Act.put, List.setIfInBounds_toArray, List.set_cons_zero, List.set_cons_succ, i64_w, i32_w]
                  rfl
                refine take_ (i := 2) (N := some 57) (v := ?_) (a' := ?_) #[Yy,Yy,Yy,Yy,Nn,Nn,Nn,Nn,Nn,Nn] rfl rfl (by kernel_rfl) (fun _ _ _ h => h) (Or.inl ⟨by rfl, ?_⟩) hHeld ?_ ?_
                rotate_left
                · rintro w' ⟨s0, s1, s2, s3, s4⟩
                  go_simp
                  with_reducible rfl
                rotate_left
                · simp only [Act.put, List.setIfInBounds_toArray, List.set_cons_zero, List.set_cons_succ, i64_w, i32_w]
                  rfl
                refine take_ (i := 4) (N := some 59) (v := ?_) (a' := ?_) #[Yy,Yy,Yy,Yy,Yy,Nn,Nn,Nn,Nn,Nn] rfl rfl (by kernel_rfl) (fun _ _ _ h => h) (Or.inl ⟨by rfl, ?_⟩) hHeld ?_ ?_
                rotate_left
                · rintro w' ⟨s0, s1, s2, s3, s4⟩
                  go_simp
                  with_reducible rfl
                rotate_left
                · simp only [Act.put, List.setIfInBounds_toArray, List.set_cons_zero, List.set_cons_succ, i64_w, i32_w]
                  rfl
                refine take_ (i := 5) (N := some 60) (v := ?_) (a' := ?_) #[Yy,Yy,Yy,Yy,Yy,Yy,Nn,Nn,Nn,Nn] rfl rfl (by kernel_rfl) (fun _ _ _ h => h) (Or.inl ⟨by rfl, ?_⟩) hHeld ?_ ?_
                rotate_left
                · rintro w' ⟨s0, s1, s2, s3, s4⟩
                  refine Eq.trans (run_op_load' s3 (by rfl) (by rfl) Tryz.underlying138 rfl (sizeM_of hm9)) ?_
                  with_reducible rfl
                rotate_left
                · simp only [Act.put, List.setIfInBounds_toArray, List.set_cons_zero, List.set_cons_succ, i64_w, i32_w]
                  rfl
                refine take_ (i := 6) (N := some 61) (v := ?_) (a' := ?_) #[Yy,Yy,Yy,Yy,Yy,Yy,Yy,Nn,Nn,Nn] rfl rfl (by kernel_rfl) (fun _ _ _ h => h) (Or.inl ⟨by rfl, ?_⟩) hHeld ?_ ?_
                rotate_left
                · rintro w' ⟨s0, s1, s2, s3, s4⟩
                  refine Eq.trans (run_op_load' s4 (by rfl) (by rfl) Tryz.underlying138 rfl (sizeM_of hm92)) ?_
                  with_reducible rfl
                rotate_left
                · simp only [Act.put, List.setIfInBounds_toArray, List.set_cons_zero, List.set_cons_succ, i64_w, i32_w]
                  rfl
                refine one_ (i := 7) (N := some 62) #[Yy,Yy,Yy,Yy,Yy,Yy,Yy,Yy,Nn,Nn] rfl rfl (by kernel_rfl) (by decide) (fun K hK => ?_)
                refine goes_ Tryz.func152 (by kernel_rfl) rfl #[.int .i64 p, .int .i64 n, .agg (mcells m), .agg (mcells m2)] (by rfl) rfl rfl (by simp only [List.map_toArray, List.map_cons, List.map_nil]; rfl) ?_
                with_reducible refine (HK.out _).mono ?_
                rintro e w2 ⟨rfl, hb⟩
                refine ⟨_, rfl, ?_⟩
                have HB2 := Aside0.mk hb
                clear hb
                replace H1 := H1.drew.keep HB2.out
                replace H4 := H4.drew.keep HB2.out
                replace H6 := H6.drew.keep HB2.out
                replace HB := Aside0.mk (below_step (below_drew1 HB.out) HB2.out)
                refine hK.out _ _ ⟨H1.cell 0 rfl, H1.cell 1 rfl, H1.at, H4.at, H6.at⟩ (fun hHeld => ?_)
                clear hK K
                refine norm_ (a' := ?_) ?_ ?_
                rotate_left
                · show Act.put _ (some 62) _ = _
                  simp only [Act.put, List.setIfInBounds_toArray, List.set_cons_zero, List.set_cons_succ, i64_w, i32_w]
                  rfl
                refine one_ (i := 8) (N := some 63) #[Yy,Yy,Yy,Yy,Yy,Yy,Yy,Yy,Yy,Nn] rfl rfl (by kernel_rfl) (by decide) (fun K hK => ?_)
                refine goes_ Tryz.func151 (by kernel_rfl) rfl #[.agg #[.int .i64 p, .int .i64 n, .slice (some ad) l.length c], .agg (mcells (timesM p n m m2))] (by rfl) rfl rfl (by simp only [List.map_toArray, List.map_cons, List.map_nil]; rfl) ?_
                with_reducible refine (HK3.out _ HB.out).mono ?_
                rintro e w3 ⟨rfl, hb⟩
                refine ⟨_, rfl, ?_⟩
                have HB3 := Aside0.mk hb
                clear hb
                replace H1 := H1.keep HB3.out
                replace H4 := H4.keep HB3.out
                replace H6 := H6.keep HB3.out
                refine hK.out _ _ ⟨H1.cell 0 rfl, H1.cell 1 rfl, H1.at, H4.at, H6.at⟩ (fun hHeld => ?_)
                clear hK K
                refine norm_ (a' := ?_) ?_ ?_
                rotate_left
                · show Act.put _ (some 63) _ = _
                  simp only [Act.put, List.setIfInBounds_toArray, List.set_cons_zero, List.set_cons_succ, i64_w, i32_w]
                  rfl
                refine pure_ (i := 9) (N := some 64) (v := ?_) (a' := ?_) #[Yy,Yy,Yy,Yy,Yy,Yy,Yy,Yy,Yy,Yy] rfl rfl (by kernel_rfl) (fun _ _ _ h => h) (Or.inl ⟨by rfl, ?_⟩) ?_ ?_
                rotate_left
                · intro w'
                  go_simp
                  with_reducible rfl
                rotate_left
                · simp only [Act.put, List.setIfInBounds_toArray, List.set_cons_zero, List.set_cons_succ, i64_w, i32_w]
                  rfl
                refine done_ (by kernel_rfl) ?_
                go_wp2
                go_roundw
                case rel => exact ⟨k + 1, by go_num, by omega, HEK2, H1, H4, ⟨below_step HB.out HB3.out⟩⟩
                case measure => simp [intOf]; omega
            · have HE2 : Aside0 (∀ j < i + 1, (∀ j', j = j' + 1 → beforeB (ntR l j') (ntR l j) = true) ∧ ∀ k < l.length, hasB l (timesM p n (ntR l j) (ntR l k)) = true) := ⟨fun j hj => by
                rcases Nat.lt_succ_iff_lt_or_eq.1 hj with h | h
                · exact HE.out j h
                · subst h; exact ⟨HO2.out, fun k' hk' => HEK.out k' (by omega)⟩⟩
              go_wp2
              go_roundw
              case rel => exact ⟨i + 1, by go_num, by omega, HE2, H1, HB⟩
              case measure => simp [intOf]; omega
    · have HN : Aside0 (grpB p n l = hasB l (unitM n)) := ⟨by
        rw [Bool.eq_iff_iff, grpB_iff]
        exact ⟨fun h => h.one, fun h => ⟨hpb, hvb, by omega, by omega, HMS.out, fun i hi => (HE.out (i + 1) (by omega)).1 i rfl, fun i hi k hk => (HE.out i (by omega)).2 k hk, h⟩⟩⟩
      have k0 := H1.cell 0 rfl
      have k1 := H1.cell 1 rfl
      have k2 := H1.cell 2 rfl
      have HK := Aside0.mk (fun W => unit_calls n W (by omega))
      have HK2 := Aside0.mk (fun W (h : Below w.heap.size w W) => has_calls p n A l.length c l (unitM n) W (Kd.C_below HR.out h) (mk9_len _))
      go_wp2
      refine start_ (n := 6) (S := fun w' => w'.cell? ⟨w.heap.size, 1, none⟩ = some (.int .i64 n) ∧ At w' ⟨w.heap.size, 0, none⟩ #[.int .i64 p, .int .i64 n, .slice A l.length c]) (ds := []) #[Nn,Nn,Nn,Nn,Nn,Nn] (by kernel_rfl) rfl rfl ⟨k1, H1.drew.at⟩ (fun hHeld => ?_)
      refine pure_ (i := 1) (N := some 68) (v := ?_) (a' := ?_) #[Nn,Yy,Nn,Nn,Nn,Nn] rfl rfl (by kernel_rfl) (fun _ _ _ h => h) (Or.inl ⟨by rfl, ?_⟩) ?_ ?_
      rotate_left
      · intro w'
        go_simp
        with_reducible rfl
      rotate_left
      · simp only [Act.put, List.setIfInBounds_toArray, List.set_cons_zero, List.set_cons_succ, i64_w, i32_w]
        rfl
      refine take_ (i := 0) (N := some 67) (v := ?_) (a' := ?_) #[Yy,Yy,Nn,Nn,Nn,Nn] rfl rfl (by kernel_rfl) (fun _ _ _ h => h) (Or.inl ⟨by rfl, ?_⟩) hHeld ?_ ?_
      rotate_left
      · rintro w' ⟨s0, s1⟩
        refine Eq.trans (run_op_load' s1 (by rfl) (by rfl) Tryz.underlying37 rfl sizeG) ?_
        with_reducible rfl
      rotate_left
      · simp only [Act.put, List.setIfInBounds_toArray, List.set_cons_zero, List.set_cons_succ, i64_w, i32_w]
        rfl
      refine take_ (i := 2) (N := some 69) (v := ?_) (a' := ?_) #[Yy,Yy,Yy,Nn,Nn,Nn] rfl rfl (by kernel_rfl) (fun _ _ _ h => h) (Or.inl ⟨by rfl, ?_⟩) hHeld ?_ ?_
      rotate_left
      · rintro w' ⟨s0, s1⟩
        go_simp
        with_reducible rfl
      rotate_left
      · simp only [Act.put, List.setIfInBounds_toArray, List.set_cons_zero, List.set_cons_succ, i64_w, i32_w]
        rfl
      refine one_ (i := 3) (N := some 70) #[Yy,Yy,Yy,Yy,Nn,Nn] rfl rfl (by kernel_rfl) (by decide) (fun K hK => ?_)
      refine goes_ Tryz.func153 (by kernel_rfl) rfl #[.int .i64 n] (by rfl) rfl rfl (by simp only [List.map_toArray, List.map_cons, List.map_nil]; rfl) ?_
      with_reducible refine (HK.out _).mono ?_
      rintro e w2 ⟨rfl, hb⟩
      refine ⟨_, rfl, ?_⟩
      have HB2 := Aside0.mk hb
      clear hb
      replace H1 := H1.drew.keep HB2.out
      replace HB := Aside0.mk (below_step (below_drew1 HB.out) HB2.out)
      refine hK.out _ _ ⟨H1.cell 1 rfl, H1.at⟩ (fun hHeld => ?_)
      clear hK K
      refine norm_ (a' := ?_) ?_ ?_
      rotate_left
      · show Act.put _ (some 70) _ = _
        simp only [Act.put, List.setIfInBounds_toArray, List.set_cons_zero, List.set_cons_succ, i64_w, i32_w]
        rfl
      refine one_ (i := 4) (N := some 71) #[Yy,Yy,Yy,Yy,Yy,Nn] rfl rfl (by kernel_rfl) (by decide) (fun K hK => ?_)
      refine goes_ Tryz.func151 (by kernel_rfl) rfl #[.agg #[.int .i64 p, .int .i64 n, .slice A l.length c], .agg (mcells (unitM n))] (by rfl) rfl rfl (by simp only [List.map_toArray, List.map_cons, List.map_nil]; rfl) ?_
      with_reducible refine (HK2.out _ HB.out).mono ?_
      rintro e w3 ⟨rfl, hb⟩
      refine ⟨_, rfl, ?_⟩
      have HB3 := Aside0.mk hb
      clear hb
      replace H1 := H1.keep HB3.out
      refine hK.out _ _ ⟨H1.cell 1 rfl, H1.at⟩ (fun hHeld => ?_)
      clear hK K
      refine norm_ (a' := ?_) ?_ ?_
      rotate_left
      · show Act.put _ (some 71) _ = _
        simp only [Act.put, List.setIfInBounds_toArray, List.set_cons_zero, List.set_cons_succ, i64_w, i32_w]
        rfl
      refine pure_ (i := 5) (N := some 2) (v := ?_) (a' := ?_) #[Yy,Yy,Yy,Yy,Yy,Yy] rfl rfl (by kernel_rfl) (fun _ _ _ h => h) (Or.inl ⟨by rfl, ?_⟩) ?_ ?_
      rotate_left
      · intro w'
        go_simp
        with_reducible rfl
      rotate_left
      · simp only [Act.put, List.setIfInBounds_toArray, List.set_cons_zero, List.set_cons_succ, i64_w, i32_w]
        rfl
      refine done_ (by kernel_rfl) ?_
      go_wp2
      go_ret
      exact ⟨ret_b HN.out.symm, below_step HB.out HB3.out⟩
end Go.Proofs.YtbenhcognapdpaaGreat
