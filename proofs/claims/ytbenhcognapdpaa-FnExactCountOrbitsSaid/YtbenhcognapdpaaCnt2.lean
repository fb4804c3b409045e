/- Walks: CountOrbits, in the program and in the specification. -/
import Derived.Test.YtbenhcognapdpaaCnt
import Derived.Test.YtbenhcognapdpaaSameS
set_option linter.unusedVariables false
set_option linter.unusedSimpArgs false
namespace Go.Proofs.Ytbenhcognapdpaa
open Go.RowKit Go.Proofs.YtbenhcognapdpaaW.PrintWords Go.Proofs.YtbenhcognapdpaaW.PrintLast Lin

theorem cntO_perm (P n : Nat) (hp : 0 < P) (l : List (List Int)) : cntO P n l (ptsI P n) = cntO P n l (ptsS P n) := (pts_perm hp n).countP_eq _
/-- What both programs answer. -/
noncomputable def countR (p n : Int) (l : List (List Int)) : Int × Int :=
  if grpB p n l = true then if fewB p.toNat n.toNat = true then (((cntO p n.toNat l (ptsS p.toNat n.toNat) : Nat) : Int), 0) else (0, 3) else (0, 1)
theorem l09Same_is (A : Option Addr) (n c : Nat) (a : List Int) (A' : Option Addr) (n' c' : Nat) (b : List Int) (w : World) (hr : kI.C w A n a) (hr' : kI.C w A' n' b) (hl : n = n') {t : Bool} (h : sameB a b = t) :
    Calls Try.prog 39 #[.slice A n c, .slice A' n' c'] w fun e w' => e = .returned (.bool t) ∧ Drawn0 w w' := by
  rw [← h]
  exact l09Same_calls A n c a A' n' c' b w hr hr' hl
theorem ptsOut_few {w' : World} {l : List (List Int)} {P n : Nat} {v : Value} (h : PtsOut w' l P n v) (hf : fewB P n = true) : ∃ A c, v = .slice A l.length c ∧ l.length ≤ c ∧ kR.C w' A l.length l := by
  unfold PtsOut at h
  rwa [if_pos (of_decide_eq_true hf)] at h

set_option maxRecDepth 100000 in
set_option maxHeartbeats 1000000 in
theorem implCount_calls (p n : Int) (A : Option Addr) (q c : Nat) (l : List (List Int)) (w : World) (hr : kM.C w A q l) (hl : ∀ m ∈ l, IsM m) :
    Calls Try.prog 22 #[.agg #[.int .i64 p, .int .i64 n, .slice A q c]] w fun e w' => e = .returned (.tuple #[.int .i64 (countR p n l).1, .int .i64 (countR p n l).2]) ∧ Below w.heap.size w w' := by
  have HR := Aside0.mk hr
  have HL := Aside0.mk hl
  have hbox := below_alloc (Below.refl w.heap.size w) (.cells #[.int .i64 p, .int .i64 n, .slice A q c] 44)
  have HBX := Aside0.mk hbox
  have HKG := Aside0.mk (IsGroup_calls p n A q c l _ (Kd.C_below hr hbox) hl)
  clear hr hl hbox
  have H1 := Blk.new w #[.int .i64 p, .int .i64 n, .slice A q c] 44
  cases hgb : grpB p n l
  · have HN : Aside0 (countR p n l = (0, 1)) := ⟨by simp [countR, hgb]⟩
    rw [hgb] at HKG
    clear hgb
    go_enter Try.func22, Try.ntmps22
    go_wp2_with (first
      | (refine load_blk rfl _ 1 rfl H1 rfl _ Try.underlying44 rfl sizeG ?_)
      | (go_at_call 47; refine HKG.out.mono ?_; rintro e w1 ⟨rfl, hb⟩; have HB := Aside0.mk (below_step HBX.out hb); clear hb))
    refine bodyPost_ret (results_tmp2 rfl _ _ _) rfl ?_
    exact ⟨by rw [HN.out]; rfl, HB.out⟩
  have hok := grpB_iff.1 hgb
  have hP := primeB_iff.1 hok.prime
  have hpp := hP.pos
  have hvv : 1 ≤ n ∧ n ≤ 3 := of_decide_eq_true hok.vars
  obtain ⟨n, rfl⟩ : ∃ k : Nat, n = k := ⟨n.toNat, by omega⟩
  obtain ⟨P, rfl⟩ : ∃ k : Nat, p = k := ⟨p.toNat, by omega⟩
  have hl1 := hok.least
  have hl48 := hok.most
  rw [hgb] at HKG
  have HKP := Aside0.mk (fun W => points_calls P n A q c W (by omega) (by omega))
  cases hfw : fewB P n
  · have HN : Aside0 (countR P n l = (0, 3)) := ⟨by simp [countR, hgb, hfw]⟩
    rw [hfw] at HKP
    clear hgb hfw hok hP
    go_enter Try.func22, Try.ntmps22
    go_wp2_with (first
      | (refine load_blk rfl _ 1 rfl H1 rfl _ Try.underlying44 rfl sizeG ?_)
      | (go_at_call 47; refine HKG.out.mono ?_; rintro e w1 ⟨rfl, hb⟩; replace H1 := H1.keep hb; have HB := Aside0.mk (below_step HBX.out hb); clear hb)
      | (go_at_call 48; refine (HKP.out _).mono ?_; rintro e w2 ⟨v, rfl, ho, hb⟩; replace H1 := H1.keep hb; replace HB := Aside0.mk (below_step HB.out hb); clear hb ho))
    refine bodyPost_ret (results_tmp2 rfl _ _ _) rfl ?_
    exact ⟨by rw [HN.out]; rfl, HB.out⟩
  · have HN : Aside0 (countR P n l = (((cntO P n l (ptsI P n) : Nat) : Int), 0)) := ⟨by simp [countR, hgb, hfw, cntO_perm P n (by omega) l]⟩
    have HPT : Aside0 (∀ x ∈ ptsI P n, Pt P n x) := ⟨fun x hx => (ptsI_mem (by omega) n x).1 hx⟩
    have HFW := Aside0.mk hfw
    rw [hfw] at HKP
    clear hgb hfw hok hP
    obtain ⟨pts, hpts⟩ : ∃ pts, pts = ptsI P n := ⟨_, rfl⟩
    rw [← hpts] at HKP HN HPT
    clear hpts
    go_enter Try.func22, Try.ntmps22
    go_wp2_with (first
      | (refine load_blk rfl _ 1 rfl H1 rfl _ Try.underlying44 rfl sizeG ?_)
      | (go_at_call 47; refine HKG.out.mono ?_; rintro e w1 ⟨rfl, hb⟩; replace H1 := H1.keep hb; have HB := Aside0.mk (below_step HBX.out hb); clear hb)
      | (go_at_call 48; refine (HKP.out _).mono ?_; rintro e w2 ⟨v, rfl, ho, hb⟩; obtain ⟨A2, c2, rfl, hc2, hC2⟩ := ptsOut_few ho HFW.out; have HC2 := Aside0.mk hC2; replace H1 := H1.keep hb; replace HB := Aside0.mk (below_step HB.out hb); clear hb ho hC2)
      | (go_at_call 49; refine (countOrbits_calls P n A q c l A2 pts.length c2 pts _ (Kd.C_below HR.out HB.out) HL.out HC2.out (by omega) (by omega) (by omega) (by omega) HPT.out hl48 hl1).mono ?_; rintro e w3 ⟨rfl, hb⟩; replace HB := Aside0.mk (below_step HB.out hb); clear hb))
    refine bodyPost_ret (results_tmp2 rfl _ _ _) rfl ?_
    exact ⟨by rw [HN.out]; rfl, HB.out⟩

set_option maxRecDepth 100000 in
set_option maxHeartbeats 2000000 in
theorem specCount_calls (p n : Int) (A : Option Addr) (q c : Nat) (l : List (List Int)) (w : World) (hr : kM.C w A q l) (hl : ∀ m ∈ l, IsM m) :
    Calls Try.prog 21 #[.agg #[.int .i64 p, .int .i64 n, .slice A q c]] w fun e w' => e = .returned (.tuple #[.int .i64 (countR p n l).1, .int .i64 (countR p n l).2]) ∧ Below w.heap.size w w' := by
  have HR := Aside0.mk hr
  have HL := Aside0.mk hl
  have hbox := below_alloc (Below.refl w.heap.size w) (.cells #[.int .i64 p, .int .i64 n, .slice A q c] 44)
  have HBX := Aside0.mk hbox
  have HKG := Aside0.mk (l02Is_calls p n A q c l _ (Kd.C_below hr hbox) hl)
  clear hr hl hbox
  have H1 := Blk.new w #[.int .i64 p, .int .i64 n, .slice A q c] 44
  cases hgb : grpB p n l
  · have HN : Aside0 (countR p n l = (0, 1)) := ⟨by simp [countR, hgb]⟩
    rw [hgb] at HKG
    clear hgb
    go_enter Try.func21, Try.ntmps21
    go_wp2_with (first
      | (refine load_blk rfl _ 1 rfl H1 rfl _ Try.underlying44 rfl sizeG ?_)
      | (go_at_call 37; refine HKG.out.mono ?_; rintro e w1 ⟨rfl, hb⟩; have HB := Aside0.mk (below_step HBX.out hb); clear hb))
    refine bodyPost_ret (results_tmp2 rfl _ _ _) rfl ?_
    exact ⟨by rw [HN.out]; rfl, HB.out⟩
  have hok := grpB_iff.1 hgb
  have hP := primeB_iff.1 hok.prime
  have hpp := hP.pos
  have hvv : 1 ≤ n ∧ n ≤ 3 := of_decide_eq_true hok.vars
  obtain ⟨n, rfl⟩ : ∃ k : Nat, n = k := ⟨n.toNat, by omega⟩
  obtain ⟨P, rfl⟩ : ∃ k : Nat, p = k := ⟨p.toNat, by omega⟩
  have hl1 := hok.least
  have hl48 := hok.most
  rw [hgb] at HKG
  have HKP := Aside0.mk (fun W => l09Points_calls P n A q c W (by omega) (by omega))
  cases hfw : fewB P n
  · have HN : Aside0 (countR P n l = (0, 3)) := ⟨by simp [countR, hgb, hfw]⟩
    rw [hfw] at HKP
    clear hgb hfw hok hP
    go_enter Try.func21, Try.ntmps21
    go_wp2_with (first
      | (refine load_blk rfl _ 1 rfl H1 rfl _ Try.underlying44 rfl sizeG ?_)
      | (go_at_call 37; refine HKG.out.mono ?_; rintro e w1 ⟨rfl, hb⟩; replace H1 := H1.keep hb; have HB := Aside0.mk (below_step HBX.out hb); clear hb)
      | (go_at_call 46; refine (HKP.out _).mono ?_; rintro e w2 ⟨v, rfl, ho, hb⟩; replace H1 := H1.keep hb; replace HB := Aside0.mk (below_step HB.out hb); clear hb ho))
    refine bodyPost_ret (results_tmp2 rfl _ _ _) rfl ?_
    exact ⟨by rw [HN.out]; rfl, HB.out⟩
  · have HN : Aside0 (countR P n l = (((cntO P n l (ptsS P n) : Nat) : Int), 0)) := ⟨by simp [countR, hgb, hfw]⟩
    have HPT : Aside0 (∀ x ∈ ptsS P n, Pt P n x) := ⟨fun x hx => (ptsS_mem n x).1 hx⟩
    have HFW := Aside0.mk hfw
    rw [hfw] at HKP
    clear hgb hfw hok hP
    obtain ⟨pts, hpts⟩ : ∃ pts, pts = ptsS P n := ⟨_, rfl⟩
    rw [← hpts] at HKP HN HPT
    clear hpts
    go_enter Try.func21, Try.ntmps21
    go_wp2_with (first
      | (refine load_blk rfl _ 1 rfl H1 rfl _ Try.underlying44 rfl sizeG ?_)
      | (go_at_call 37; refine HKG.out.mono ?_; rintro e w1 ⟨rfl, hb⟩; replace H1 := H1.keep hb; have HB := Aside0.mk (below_step HBX.out hb); clear hb)
      | (go_at_call 46; refine (HKP.out _).mono ?_; rintro e w2 ⟨v, rfl, ho, hb⟩; obtain ⟨A2, c2, rfl, hc2, hC2⟩ := ptsOut_few ho HFW.out; have HC2 := Aside0.mk hC2; have hm1 := Kd.C_max hC2; replace H1 := H1.keep hb; replace HB := Aside0.mk (below_step HB.out hb); clear hb ho hC2))
    go_loopw [6, 7] (fun v6 v7 wr => ∃ k : Nat, v7 = .int .i64 k ∧ k ≤ pts.length ∧ v6 = .int .i64 (cntO P n l (pts.take k) : Nat) ∧ Blk wr w.heap.size 44 #[.int .i64 P, .int .i64 n, .slice A q c] ∧ Aside0 (Below w2.heap.size w2 wr)) (fun _ v7 _ => pts.length - (intOf v7).toNat)
    case atStart => exact ⟨0, rfl, by omega, rfl, H1, ⟨Below.refl _ _⟩⟩
    case round =>
      clear H1
      obtain ⟨k, rfl, hk, rfl, H1, HB2⟩ := hrel
      have hcl := cntO_le P n l pts k
      by_cases hlt : k < pts.length
      · obtain ⟨ad, A4, c4, x, hrr, rfl, hc, hrc, hC⟩ := at_row (Kd.C_below HC2.out HB2.out) k hlt
        have HC := Aside0.mk hC
        have HPX := Aside0.mk (HPT.out x (by rw [hrr]; exact ntR_mem pts k hlt))
        have HS := cntO_step P n l pts k hlt
        rw [← hrr] at HS
        clear hC hrr
        have HKL := Aside0.mk (fun W (h : Below wr.heap.size wr W) => l09Least_calls P n A q c l A4 x.length c4 x W (Kd.C_below HR.out (below_step (below_step HB.out HB2.out) h)) HL.out (Kd.C_below HC.out h) (by omega) (by omega) (by omega) HPX.out hl48 hl1)
        have HLL : Aside0 ((ntR' (orbitS P n l x)).length = x.length) := ⟨by rw [HPX.out.1]; exact orbitS_rows (ntR'_mem (by have := orbitS_ne (p := P) (n := n) (x := x) hl1; intro h; rw [h] at this; simp at this))⟩
        have HFR : Aside0 (firstB P n l x = sameB (ntR' (orbitS P n l x)) x) := ⟨rfl⟩
        obtain ⟨fx, hfx⟩ : ∃ fx, fx = ntR' (orbitS P n l x) := ⟨_, rfl⟩
        rw [← hfx] at HKL HLL HFR
        clear hfx
        obtain ⟨m, hm⟩ : ∃ m, m = cntO P n l (pts.take k) := ⟨_, rfl⟩
        rw [← hm] at HS hcl ⊢
        clear hm
        have hd3 : decide ((k : Int) < pts.length) = true := decide_eq_true (by omega)
        cases hfb : firstB P n l x
        ·
          have HSB := Aside0.mk HFR.out.symm
          rw [hfb] at HSB HS
          clear hfb HFR
          go_wp2
          refine start_ (n := 11) (S := fun w' => At w' ⟨w.heap.size, 0, none⟩ #[.int .i64 P, .int .i64 n, .slice A q c] ∧ w'.cell? (ad.add k) = some (.slice A4 x.length c4)) (ds := []) #[false, false, false, false, false, false, false, false, false, false, false] (by kernel_rfl) rfl rfl ⟨H1.drew.at, hc⟩ (fun hHeld => ?_)
          refine pure_ (i := 1) (N := some 25) (v := ?_) (a' := ?_) #[false, true, false, false, false, false, false, false, false, false, false] rfl rfl (by kernel_rfl) (fun _ _ _ h => h) (Or.inl ⟨by rfl, ?_⟩) ?_ ?_
          rotate_left
          · intro w'
            go_simp
            with_reducible rfl
          rotate_left
          · simp only [Act.put, List.setIfInBounds_toArray, List.set_cons_zero, List.set_cons_succ, i64_w, i32_w]
            rfl
          refine pure_ (i := 2) (N := some 26) (v := ?_) (a' := ?_) #[false, true, true, false, false, false, false, false, false, false, false] rfl rfl (by kernel_rfl) (fun _ _ _ h => h) (Or.inl ⟨by rfl, ?_⟩) ?_ ?_
          rotate_left
          · intro w'
            go_simp
            with_reducible rfl
          rotate_left
          · simp only [Act.put, List.setIfInBounds_toArray, List.set_cons_zero, List.set_cons_succ, i64_w, i32_w]
            rfl
          refine pure_ (i := 3) (N := some 27) (v := ?_) (a' := ?_) #[false, true, true, true, false, false, false, false, false, false, false] rfl rfl (by kernel_rfl) (fun _ _ _ h => h) (Or.inl ⟨by rfl, ?_⟩) ?_ ?_
          rotate_left
          · intro w'
            go_simp
            with_reducible rfl
          rotate_left
          · simp only [Act.put, List.setIfInBounds_toArray, List.set_cons_zero, List.set_cons_succ, i64_w, i32_w]
            rfl
          refine pure_ (i := 6) (N := some 30) (v := ?_) (a' := ?_) #[false, true, true, true, false, false, true, false, false, false, false] rfl rfl (by kernel_rfl) (fun _ _ _ h => h) (Or.inl ⟨by rfl, ?_⟩) ?_ ?_
          rotate_left
          · intro w'
            go_simp
            with_reducible rfl
          rotate_left
          · simp only [Act.put, List.setIfInBounds_toArray, List.set_cons_zero, List.set_cons_succ, i64_w, i32_w]
            rfl
          refine pure_ (i := 7) (N := some 31) (v := ?_) (a' := ?_) #[false, true, true, true, false, false, true, true, false, false, false] rfl rfl (by kernel_rfl) (fun _ _ _ h => h) (Or.inl ⟨by rfl, ?_⟩) ?_ ?_
          rotate_left
          · intro w'
            go_simp
            with_reducible rfl
          rotate_left
          · simp only [Act.put, List.setIfInBounds_toArray, List.set_cons_zero, List.set_cons_succ, i64_w, i32_w]
            rfl
          refine pure_ (i := 8) (N := some 32) (v := ?_) (a' := ?_) #[false, true, true, true, false, false, true, true, true, false, false] rfl rfl (by kernel_rfl) (fun _ _ _ h => h) (Or.inl ⟨by rfl, ?_⟩) ?_ ?_
          rotate_left
          · intro w'
            go_simp
            with_reducible rfl
          rotate_left
          · simp only [Act.put, List.setIfInBounds_toArray, List.set_cons_zero, List.set_cons_succ, i64_w, i32_w]
            rfl
          refine take_ (i := 0) (N := some 24) (v := ?_) (a' := ?_) #[true, true, true, true, false, false, true, true, true, false, false] rfl rfl (by kernel_rfl) (fun _ _ _ h => h) (Or.inl ⟨by rfl, ?_⟩) hHeld ?_ ?_
          rotate_left
          · rintro w' ⟨s0, s1⟩
            refine Eq.trans (run_op_load' s0 (by rfl) (by rfl) Try.underlying44 rfl sizeG) ?_
            with_reducible rfl
          rotate_left
          · simp only [Act.put, List.setIfInBounds_toArray, List.set_cons_zero, List.set_cons_succ, i64_w, i32_w]
            rfl
          refine take_ (i := 4) (N := some 28) (v := ?_) (a' := ?_) #[true, true, true, true, true, false, true, true, true, false, false] rfl rfl (by kernel_rfl) (fun _ _ _ h => h) (Or.inl ⟨by rfl, ?_⟩) hHeld ?_ ?_
          rotate_left
          · rintro w' ⟨s0, s1⟩
            go_simp
            with_reducible rfl
          rotate_left
          · simp only [Act.put, List.setIfInBounds_toArray, List.set_cons_zero, List.set_cons_succ, i64_w, i32_w]
            rfl
          refine take_ (i := 9) (N := some 33) (v := ?_) (a' := ?_) #[true, true, true, true, true, false, true, true, true, true, false] rfl rfl (by kernel_rfl) (fun _ _ _ h => h) (Or.inl ⟨by rfl, ?_⟩) hHeld ?_ ?_
          rotate_left
          · rintro w' ⟨s0, s1⟩
            go_simp
            with_reducible rfl
          rotate_left
          · simp only [Act.put, List.setIfInBounds_toArray, List.set_cons_zero, List.set_cons_succ, i64_w, i32_w]
            rfl
          refine one_ (i := 5) (N := some 29) #[true, true, true, true, true, true, true, true, true, true, false] rfl rfl (by kernel_rfl) (by decide) (fun K hK => ?_)
          refine goes_ Try.func40 (by kernel_rfl) rfl #[.agg #[.int .i64 P, .int .i64 n, .slice A q c], .slice A4 x.length c4] (by rfl) rfl rfl (by simp only [List.map_toArray, List.map_cons, List.map_nil]; rfl) ?_
          with_reducible refine (HKL.out _ (below_drew1 (Below.refl _ _))).mono ?_
          rintro e w3 ⟨B1, d1, rfl, hC1, hb⟩
          refine ⟨_, rfl, ?_⟩
          have HC1 := Aside0.mk hC1
          replace HC := Aside0.mk (Kd.C_below (Kd.C_drew HC.out) hb)
          replace hc := (hb.cell (World.block_lt_of_cell? _ _ hc)).trans hc
          replace H1 := H1.drew.keep hb
          replace HB2 := Aside0.mk (below_step (below_drew1 HB2.out) hb)
          clear hC1 hb
          refine hK.out _ _ ⟨H1.at, hc⟩ (fun hHeld => ?_)
          clear hK K
          refine norm_ (a' := ?_) ?_ ?_
          rotate_left
          · show Act.put _ (some 29) _ = _
            simp only [Act.put, List.setIfInBounds_toArray, List.set_cons_zero, List.set_cons_succ, i64_w, i32_w]
            rfl
          refine one_ (i := 10) (N := some 34) #[true, true, true, true, true, true, true, true, true, true, true] rfl rfl (by kernel_rfl) (by decide) (fun K hK => ?_)
          refine goes_ Try.func39 (by kernel_rfl) rfl #[.slice B1 fx.length d1, .slice A4 x.length c4] (by rfl) rfl rfl (by simp only [List.map_toArray, List.map_cons, List.map_nil]; rfl) ?_
          with_reducible refine (l09Same_is B1 fx.length d1 fx A4 x.length c4 x _ HC1.out HC.out HLL.out HSB.out).mono ?_
          rintro e w4 ⟨rfl, hd⟩
          refine ⟨_, rfl, ?_⟩
          have hb := hd.below
          replace hc := (hb.cell (World.block_lt_of_cell? _ _ hc)).trans hc
          replace H1 := H1.keep hb
          replace HB2 := Aside0.mk (below_step HB2.out hb)
          clear hd hb
          refine hK.out _ _ ⟨H1.at, hc⟩ (fun hHeld => ?_)
          clear hK K
          refine norm_ (a' := ?_) ?_ ?_
          rotate_left
          · show Act.put _ (some 34) _ = _
            simp only [Act.put, List.setIfInBounds_toArray, List.set_cons_zero, List.set_cons_succ, i64_w, i32_w]
            rfl
          refine done_ (by kernel_rfl) ?_
          have HS2 : Aside0 (cntO P n l (pts.take (k + 1)) = m) := ⟨by rw [HS]; simp⟩
          clear HS
          go_wp2
          go_roundw
          case rel => exact ⟨k + 1, by go_num, by omega, by rw [HS2.out], H1, HB2⟩
          case measure => simp [intOf]; omega
        ·
          have HSB := Aside0.mk HFR.out.symm
          rw [hfb] at HSB HS
          clear hfb HFR
          go_wp2
          refine start_ (n := 11) (S := fun w' => At w' ⟨w.heap.size, 0, none⟩ #[.int .i64 P, .int .i64 n, .slice A q c] ∧ w'.cell? (ad.add k) = some (.slice A4 x.length c4)) (ds := []) #[false, false, false, false, false, false, false, false, false, false, false] (by kernel_rfl) rfl rfl ⟨H1.drew.at, hc⟩ (fun hHeld => ?_)
          refine pure_ (i := 1) (N := some 25) (v := ?_) (a' := ?_) #[false, true, false, false, false, false, false, false, false, false, false] rfl rfl (by kernel_rfl) (fun _ _ _ h => h) (Or.inl ⟨by rfl, ?_⟩) ?_ ?_
          rotate_left
          · intro w'
            go_simp
            with_reducible rfl
          rotate_left
          · simp only [Act.put, List.setIfInBounds_toArray, List.set_cons_zero, List.set_cons_succ, i64_w, i32_w]
            rfl
          refine pure_ (i := 2) (N := some 26) (v := ?_) (a' := ?_) #[false, true, true, false, false, false, false, false, false, false, false] rfl rfl (by kernel_rfl) (fun _ _ _ h => h) (Or.inl ⟨by rfl, ?_⟩) ?_ ?_
          rotate_left
          · intro w'
            go_simp
            with_reducible rfl
          rotate_left
          · simp only [Act.put, List.setIfInBounds_toArray, List.set_cons_zero, List.set_cons_succ, i64_w, i32_w]
            rfl
          refine pure_ (i := 3) (N := some 27) (v := ?_) (a' := ?_) #[false, true, true, true, false, false, false, false, false, false, false] rfl rfl (by kernel_rfl) (fun _ _ _ h => h) (Or.inl ⟨by rfl, ?_⟩) ?_ ?_
          rotate_left
          · intro w'
            go_simp
            with_reducible rfl
          rotate_left
          · simp only [Act.put, List.setIfInBounds_toArray, List.set_cons_zero, List.set_cons_succ, i64_w, i32_w]
            rfl
          refine pure_ (i := 6) (N := some 30) (v := ?_) (a' := ?_) #[false, true, true, true, false, false, true, false, false, false, false] rfl rfl (by kernel_rfl) (fun _ _ _ h => h) (Or.inl ⟨by rfl, ?_⟩) ?_ ?_
          rotate_left
          · intro w'
            go_simp
            with_reducible rfl
          rotate_left
          · simp only [Act.put, List.setIfInBounds_toArray, List.set_cons_zero, List.set_cons_succ, i64_w, i32_w]
            rfl
          refine pure_ (i := 7) (N := some 31) (v := ?_) (a' := ?_) #[false, true, true, true, false, false, true, true, false, false, false] rfl rfl (by kernel_rfl) (fun _ _ _ h => h) (Or.inl ⟨by rfl, ?_⟩) ?_ ?_
          rotate_left
          · intro w'
            go_simp
            with_reducible rfl
          rotate_left
          · simp only [Act.put, List.setIfInBounds_toArray, List.set_cons_zero, List.set_cons_succ, i64_w, i32_w]
            rfl
          refine pure_ (i := 8) (N := some 32) (v := ?_) (a' := ?_) #[false, true, true, true, false, false, true, true, true, false, false] rfl rfl (by kernel_rfl) (fun _ _ _ h => h) (Or.inl ⟨by rfl, ?_⟩) ?_ ?_
          rotate_left
          · intro w'
            go_simp
            with_reducible rfl
          rotate_left
          · simp only [Act.put, List.setIfInBounds_toArray, List.set_cons_zero, List.set_cons_succ, i64_w, i32_w]
            rfl
          refine take_ (i := 0) (N := some 24) (v := ?_) (a' := ?_) #[true, true, true, true, false, false, true, true, true, false, false] rfl rfl (by kernel_rfl) (fun _ _ _ h => h) (Or.inl ⟨by rfl, ?_⟩) hHeld ?_ ?_
          rotate_left
          · rintro w' ⟨s0, s1⟩
            refine Eq.trans (run_op_load' s0 (by rfl) (by rfl) Try.underlying44 rfl sizeG) ?_
            with_reducible rfl
          rotate_left
          · simp only [Act.put, List.setIfInBounds_toArray, List.set_cons_zero, List.set_cons_succ, i64_w, i32_w]
            rfl
          refine take_ (i := 4) (N := some 28) (v := ?_) (a' := ?_) #[true, true, true, true, true, false, true, true, true, false, false] rfl rfl (by kernel_rfl) (fun _ _ _ h => h) (Or.inl ⟨by rfl, ?_⟩) hHeld ?_ ?_
          rotate_left
          · rintro w' ⟨s0, s1⟩
            go_simp
            with_reducible rfl
          rotate_left
          · simp only [Act.put, List.setIfInBounds_toArray, List.set_cons_zero, List.set_cons_succ, i64_w, i32_w]
            rfl
          refine take_ (i := 9) (N := some 33) (v := ?_) (a' := ?_) #[true, true, true, true, true, false, true, true, true, true, false] rfl rfl (by kernel_rfl) (fun _ _ _ h => h) (Or.inl ⟨by rfl, ?_⟩) hHeld ?_ ?_
          rotate_left
          · rintro w' ⟨s0, s1⟩
            go_simp
            with_reducible rfl
          rotate_left
          · simp only [Act.put, List.setIfInBounds_toArray, List.set_cons_zero, List.set_cons_succ, i64_w, i32_w]
            rfl
          refine one_ (i := 5) (N := some 29) #[true, true, true, true, true, true, true, true, true, true, false] rfl rfl (by kernel_rfl) (by decide) (fun K hK => ?_)
          refine goes_ Try.func40 (by kernel_rfl) rfl #[.agg #[.int .i64 P, .int .i64 n, .slice A q c], .slice A4 x.length c4] (by rfl) rfl rfl (by simp only [List.map_toArray, List.map_cons, List.map_nil]; rfl) ?_
          with_reducible refine (HKL.out _ (below_drew1 (Below.refl _ _))).mono ?_
          rintro e w3 ⟨B1, d1, rfl, hC1, hb⟩
          refine ⟨_, rfl, ?_⟩
          have HC1 := Aside0.mk hC1
          replace HC := Aside0.mk (Kd.C_below (Kd.C_drew HC.out) hb)
          replace hc := (hb.cell (World.block_lt_of_cell? _ _ hc)).trans hc
          replace H1 := H1.drew.keep hb
          replace HB2 := Aside0.mk (below_step (below_drew1 HB2.out) hb)
          clear hC1 hb
          refine hK.out _ _ ⟨H1.at, hc⟩ (fun hHeld => ?_)
          clear hK K
          refine norm_ (a' := ?_) ?_ ?_
          rotate_left
          · show Act.put _ (some 29) _ = _
            simp only [Act.put, List.setIfInBounds_toArray, List.set_cons_zero, List.set_cons_succ, i64_w, i32_w]
            rfl
          refine one_ (i := 10) (N := some 34) #[true, true, true, true, true, true, true, true, true, true, true] rfl rfl (by kernel_rfl) (by decide) (fun K hK => ?_)
          refine goes_ Try.func39 (by kernel_rfl) rfl #[.slice B1 fx.length d1, .slice A4 x.length c4] (by rfl) rfl rfl (by simp only [List.map_toArray, List.map_cons, List.map_nil]; rfl) ?_
          with_reducible refine (l09Same_is B1 fx.length d1 fx A4 x.length c4 x _ HC1.out HC.out HLL.out HSB.out).mono ?_
          rintro e w4 ⟨rfl, hd⟩
          refine ⟨_, rfl, ?_⟩
          have hb := hd.below
          replace hc := (hb.cell (World.block_lt_of_cell? _ _ hc)).trans hc
          replace H1 := H1.keep hb
          replace HB2 := Aside0.mk (below_step HB2.out hb)
          clear hd hb
          refine hK.out _ _ ⟨H1.at, hc⟩ (fun hHeld => ?_)
          clear hK K
          refine norm_ (a' := ?_) ?_ ?_
          rotate_left
          · show Act.put _ (some 34) _ = _
            simp only [Act.put, List.setIfInBounds_toArray, List.set_cons_zero, List.set_cons_succ, i64_w, i32_w]
            rfl
          refine done_ (by kernel_rfl) ?_
          have HS2 : Aside0 (cntO P n l (pts.take (k + 1)) = m + 1) := ⟨by rw [HS]; simp⟩
          clear HS
          go_wp2
          go_roundw
          case rel => exact ⟨k + 1, by go_num, by omega, by rw [HS2.out]; go_num, H1, HB2⟩
          case measure => simp [intOf]; omega
      · obtain rfl : k = pts.length := by omega
        rw [List.take_length] at *
        go_wp2
        refine bodyPost_ret (results_tmp2 rfl _ _ _) rfl ?_
        exact ⟨by rw [HN.out]; rfl, below_step HB.out HB2.out⟩
end Go.Proofs.Ytbenhcognapdpaa
