/- Walk: the specification's reduced list. -/
import Derived.Test.YtbenhcognapdpaaLinW2
set_option linter.unusedVariables false
set_option linter.unusedSimpArgs false
namespace Go.Proofs.Ytbenhcognapdpaa
open Go.RowKit Go.Proofs.YtbenhcognapdpaaW.PrintWords Go.Proofs.YtbenhcognapdpaaW.PrintLast Lin

theorem l01Less_calls' (p : Int) (A : Option Addr) (n c : Nat) (r : List Int) (A' : Option Addr) (n' c' : Nat) (o : List Int) (k : Int) (w : World) (hr : kI.C w A n r) (hr' : kI.C w A' n' o) (ho : n' = n)
    (hp : 0 < p) (hp2 : p ≤ 1000) (hR : InR p r) (hO : InR p o) (hk : 0 ≤ k ∧ k < p) (hl : n < 1000000) :
    Calls Try.prog 169 #[.int .i64 p, .slice A n c, .slice A' n' c', .int .i64 k] w fun e w' => ∃ v, e = .returned v ∧ kI.R 2 w' w.heap.size (fun _ => True) v (lessOf p r o k) ∧ Below w.heap.size w w' := by
  have h1 := Kd.C_len hr
  have h2 := Kd.C_len hr'
  subst h1 h2
  exact l01Less_calls p A c r A' c' o k w hr hr' ho hp hp2 hR hO hk hl

set_option maxRecDepth 100000 in
set_option maxHeartbeats 2000000 in
theorem l01Echelon_calls (p : Int) (n : Nat) (A : Option Addr) (c : Nat) (rows : List (List Int)) (w : World) (hr : kR.C w A rows.length rows)
    (hp : IsP p) (hg : ∀ r ∈ rows, r.length = n ∧ InR p r) (hl : n < 100000) (hll : rows.length < 100000) :
    Calls Try.prog 140 #[.int .i64 p, .slice A rows.length c] w fun e w' => ∃ v, e = .returned v ∧ kR.R 38 w' w.heap.size (fun _ => True) v (echelon p rows) ∧ Below w.heap.size w w' := by
  have HP := Aside0.mk hp
  have hpos := hp.pos
  have HR := Aside0.mk hr
  have HG := Aside0.mk hg
  clear hr hg hp
  go_enter Try.func140, Try.ntmps140
  go_wp2
  go_loopw [5, 6] (fun v5 v6 wr => ∃ i : Nat, v6 = .int .i64 i ∧ i ≤ rows.length ∧ Aside0 (kR.R 38 wr w.heap.size (fun _ => True) v5 (echelon p (rows.take i))) ∧ Aside0 (Below w.heap.size w wr)) (fun _ v6 _ => rows.length - (intOf v6).toNat)
  case atStart => exact ⟨0, rfl, by omega, ⟨R_lit0 kR _ _ _ (Nat.le_refl _)⟩, ⟨below_alloc (Below.refl _ _) _⟩⟩
  case round =>
    obtain ⟨i, rfl, hi, HO, HB⟩ := hrel
    have hred := echelon_red (n := n) HP.out (rows.take i) (fun r hr => HG.out r (List.mem_of_mem_take hr))
    have hlen := echelon_length p (rows.take i)
    rw [List.length_take] at hlen
    obtain ⟨out, hout⟩ : ∃ out, out = echelon p (rows.take i) := ⟨_, rfl⟩
    rw [← hout] at HO hred hlen
    have HD := Aside0.mk hred
    have HE := Aside0.mk hout
    clear hred hout
    by_cases hlt : i < rows.length
    · obtain ⟨ad, A0, c0, row, hrr, rfl, hc, hrc, hC⟩ := at_row HR.out i hlt
      obtain ⟨hn, hin⟩ := HG.out _ (ntR_mem rows i hlt)
      rw [← hrr] at hn hin
      have hw := ((HB.out.cell (World.block_lt_of_cell? _ _ hc)).trans hc)
      have HC := Aside0.mk (Kd.C_below hC HB.out)
      have HX := Aside0.mk (And.intro hrr (And.intro hn hin))
      have hol : out.length < 100000 := by omega
      have hrn : row.length < 100000 := by omega
      obtain ⟨A5, c5, rfl, hc5, hC5⟩ := Kd.R_reads HO.out
      have HC5 := Aside0.mk hC5
      obtain ⟨hq1, hq2⟩ := restOf_good (by omega) out row HD.out.rows hn hin
      obtain ⟨own, hown⟩ : ∃ own, own = restOf p out row := ⟨_, rfl⟩
      rw [← hown] at hq1 hq2
      have HW := Aside0.mk (And.intro hown (And.intro hq1 hq2))
      have hon : own.length < 100000 := by omega
      clear hrr hn hin hC hC5 hown hq1 hq2
      by_cases h0 : lead own < 0
      · have H0 := Aside0.mk h0
        go_wp2_with (first
          | (go_at_call 167; refine (l01Rest_calls p n _ _ out _ _ row _ HC5.out HC.out (by omega) (by omega) HD.out.rows HX.out.2.1 HX.out.2.2 (by omega) (by omega)).mono ?_; rintro e w1 ⟨v1, rfl, HO1, HB1⟩; rw [← HW.out.1] at HO1; obtain ⟨A1, c1, rfl, hc1, hC1⟩ := Kd.R_reads HO1; replace HO1 := Aside0.mk HO1; replace HB1 := Aside0.mk HB1; replace hC1 := Aside0.mk hC1)
          | (go_at_call 141; refine (l01Lead_calls _ _ own _ hC1.out).mono ?_; rintro e w' ⟨rfl, ⟨nd, rfl⟩⟩))
        go_roundw
        case rel => exact ⟨i + 1, by go_num, by omega, ⟨by rw [take_succ_ntR rows i hlt, echelon_snoc, ← HE.out, ← HX.out.1]; unfold echStep; rw [← HW.out.1, if_pos H0.out]; exact Kd.R_drewN (Kd.R_below HO.out HB1.out) nd⟩, ⟨pw_below_drewN (below_step HB.out HB1.out) nd⟩⟩
        case measure => simp [intOf]; omega
      · obtain ⟨hl1, hl2, hl3, hl4⟩ := lead_lt own (by omega)
        obtain ⟨q, hq⟩ : ∃ q, q = (lead own).toNat := ⟨_, rfl⟩
        rw [← hq] at hl1 hl2 hl4
        have HQ := Aside0.mk (And.intro hl2 (And.intro hl4 (And.intro hq h0)))
        have hbq := HW.out.2.2.nt (show 0 < p by omega) q
        have hiv := inv_spec HP.out (x := nt own q) (by rw [Int.emod_eq_of_lt hbq.1 hbq.2]; exact hl4)
        obtain ⟨iv, hivE⟩ : ∃ iv, iv = invOf p (nt own q) := ⟨_, rfl⟩
        rw [← hivE] at hiv
        have hiv1 := hiv.2.1
        have hiv2 := hiv.2.2
        have HIV := Aside0.mk hivE
        clear hl2 hl3 hl4 hq h0 hiv hivE
        go_wp2_with (first
          | (go_at_call 167; refine (l01Rest_calls p n _ _ out _ _ row _ HC5.out HC.out (by omega) (by omega) HD.out.rows HX.out.2.1 HX.out.2.2 (by omega) (by omega)).mono ?_; rintro e w1 ⟨v1, rfl, HO1, HB1⟩; rw [← HW.out.1] at HO1; obtain ⟨g, cap, rfl, hg1, hg2, cells, hcell⟩ := Kd.R_form HO1 (by omega); have hq1 := (own_cell HO1 q hl1).1; have hC1 := Aside0.mk (Kd.R_reads' HO1).2.2; replace HO1 := Aside0.mk HO1; replace HB1 := Aside0.mk HB1; replace hcell := Aside0.mk hcell)
          | (go_at_call 141; refine (l01Lead_calls _ _ own _ hC1.out).mono ?_; rintro e w' ⟨rfl, ⟨nd, rfl⟩⟩; rw [HQ.out.1])
          | (go_at_call 168; refine (l01Inverse_calls p _ _ (by omega) (by omega)).mono ?_; rintro e w' ⟨rfl, ⟨nd2, rfl⟩⟩; rw [← HIV.out]))
        have hfar : kR.R 38 (w1.drewN (nd + nd2)) w.heap.size (fun k => k ≠ g) (.slice A5 out.length c5) out := Kd.R_drewN (Kd.R_mono (Kd.R_elder HO.out HO1.out HB1.out) (fun k hk => by rintro rfl; exact hk.2 rfl)) _
        have HF := Aside0.mk hfar
        clear hfar
        have hB2 := pw_below_drewN (below_step HB.out HB1.out) (nd + nd2)
        have HB2 := Aside0.mk hB2
        have hgB : w.heap.size ≤ g := Nat.le_trans HB.out.size hg1
        have hon0 : 0 < own.length := by omega
        clear hB2
        go_loopw [10] (fun v10 wr2 => ∃ j : Nat, v10 = .int .i64 j ∧ j ≤ own.length ∧ Aside0 (kI.R 2 wr2 w.heap.size (fun _ => True) (.slice (some ⟨g, 0, none⟩) own.length cap) (scTo p own iv j)) ∧ Aside0 (kR.R 38 wr2 w.heap.size (fun k => k ≠ g) (.slice A5 out.length c5) out) ∧ Aside0 (Below w.heap.size w wr2)) (fun v10 _ => own.length - (intOf v10).toNat)
        case atStart => exact ⟨0, rfl, by omega, ⟨by rw [scTo_zero]; exact Kd.R_lower (Kd.R_drewN HO1.out _) HB.out.size⟩, HF, HB2⟩
        case round =>
          clear HF HB2
          obtain ⟨j, rfl, hj, HS, HF, HB2⟩ := hrel
          by_cases hjl : j < own.length
          · obtain ⟨hj1, hj2⟩ := own_cell HS.out j hjl
            rw [scTo_nt p own iv j hjl] at hj1
            have hjb := HW.out.2.2.nt (show 0 < p by omega) j
            have hm1 : 0 ≤ nt own j * iv := Int.mul_nonneg hjb.1 (by omega)
            have hm2 : nt own j * iv ≤ 13 * 13 := Int.mul_le_mul (by omega) (by omega) (by omega) (by omega)
            have hp0 : (p == 0) = false := by rw [beq_eq_false_iff_ne]; omega
            go_wp2
            go_roundw
            case rel => exact ⟨j + 1, by go_num, by omega, ⟨by rw [← scTo_set p own iv j hjl]; exact own_put HS.out j _⟩, ⟨Kd.R_far (p := ⟨g, j, none⟩) HF.out (fun _ h => h) _⟩, ⟨HB2.out.setCell hgB _⟩⟩
            case measure => simp [intOf]; omega
          · have hje : scTo p own iv j = scaleRow p own iv := scTo_all p own iv j (by omega)
            rw [hje] at HS
            clear hje
            obtain ⟨ow, how⟩ : ∃ ow, ow = scaleRow p own iv := ⟨_, rfl⟩
            have howl : ow.length = own.length := by rw [how, scaleRow_length]
            have howi : InR p ow := by rw [how]; exact scaleRow_inR (by omega) _ _
            rw [← how] at HS
            have HOW := Aside0.mk (And.intro how (And.intro howl howi))
            clear how howl howi
            go_wp2
            go_loopw [11, 12, 13] (fun v11 v12 v13 wr3 => ∃ (k : Nat) (put : Bool) (next : List (List Int)), v13 = .int .i64 k ∧ v12 = .bool put ∧ k ≤ out.length ∧ Aside0 ((out.take k).foldl (insSt p ow q) (false, []) = (put, next)) ∧ Aside0 (next.length ≤ k + put.toNat) ∧ Aside0 (kR.R 38 wr3 w.heap.size (fun _ => True) v11 next) ∧
              Aside0 (kI.R 2 wr3 w.heap.size (fun k => some k ≠ v11.ownBlock) (.slice (some ⟨g, 0, none⟩) own.length cap) ow) ∧ Aside0 (kR.R 38 wr3 w.heap.size (fun k => some k ≠ v11.ownBlock) (.slice A5 out.length c5) out) ∧ Aside0 (Below w.heap.size w wr3)) (fun _ _ v13 _ => out.length - (intOf v13).toNat)
            case atStart => exact ⟨0, false, [], rfl, rfl, by omega, ⟨rfl⟩, ⟨by simp⟩, ⟨R_lit0 kR _ _ _ HB2.out.size⟩, ⟨R_fresh HS.out _ _ _⟩, ⟨R_fresh HF.out _ _ _⟩, ⟨below_alloc HB2.out _⟩⟩
            case round =>
              clear HS HF HB2
              obtain ⟨k, put, next, rfl, rfl, hk, HFO, HNL, HN, HS, HF, HB2⟩ := hrel
              have hnx : next.length ≤ 100001 := by have := HNL.out; have := Bool.toNat_le put; omega
              by_cases hkl : k < out.length
              · obtain ⟨_, _, hFC⟩ := Kd.R_reads' HF.out
                obtain ⟨ad5, A6, c6, r, hrk, rfl, hc5k, hc6, hC6⟩ := at_row hFC k hkl
                obtain ⟨hg1r, hg2r, hg3r, hg4r⟩ := HD.out.good _ (ntR_mem out k hkl)
                rw [← hrk] at hg1r hg2r hg3r hg4r
                have hqr : q < r.length := by have := HW.out.2.1; omega
                have hbr := hg2r.nt (show 0 < p by omega) q
                have HK := Aside0.mk (And.intro hrk (And.intro hC6 (And.intro hg2r hg1r)))
                have hstep : (out.take (k + 1)).foldl (insSt p ow q) (false, []) = insSt p ow q (put, next) r := by rw [take_succ_ntR out k hkl, List.foldl_append, HFO.out, ← hrk]; rfl
                have HST := Aside0.mk hstep
                clear hFC hrk hC6 hg1r hg2r hg3r hg4r hstep HFO
                have hcases : (put = false ∧ (q : Int) < lead r) ∨ (put = false ∧ ¬ (q : Int) < lead r) ∨ put = true := by
                  cases put
                  · by_cases h : (q : Int) < lead r
                    · exact .inl ⟨rfl, h⟩
                    · exact .inr (.inl ⟨rfl, h⟩)
                  · exact .inr (.inr rfl)
                rcases hcases with hcs | hcs | hcs
                case' pos.inl =>
                  obtain ⟨rfl, hlr⟩ := hcs
                  have HFO2 : Aside0 ((out.take (k + 1)).foldl (insSt p ow q) (false, []) = (true, (next ++ [ow]) ++ [lessOf p r ow (nt r q)])) := ⟨by rw [HST.out]; simp [insSt, hlr]⟩
                  have HNL2 : Aside0 (((next ++ [ow]) ++ [lessOf p r ow (nt r q)]).length ≤ (k + 1) + true.toNat) := ⟨by have := HNL.out; simp at this ⊢; omega⟩
                  have hnx2 : (next ++ [ow]).length ≤ 100002 := by simp; omega
                  go_wp2_with (first
                    | (go_at_call 141; refine (l01Lead_calls _ _ r _ HK.out.2.1).mono ?_; rintro e w' ⟨rfl, ⟨nd3, rfl⟩⟩)
                    | (at_builtin; go_must (refine app_row (w0 := w) rfl _ _ _ rfl Try.underlying65 infoR u11 next _ ow rfl rfl (Kd.R_drewN HS.out _) (Kd.R_drewN HN.out _) (pw_below_drewN HB2.out _) (by omega) ?_); intro u11 wN hn hb hg hat; have HS9 := Aside0.mk (R_next (Kd.R_drewN HS.out nd3) hg hat); have HF9 := Aside0.mk (R_next (Kd.R_drewN HF.out nd3) hg hat); replace HN := Aside0.mk hn; replace HB2 := Aside0.mk hb; replace HS := HS9; replace HF := HF9; clear hn hb hg hat HS9 HF9))
                case' pos.inr.inl =>
                  obtain ⟨rfl, hlr⟩ := hcs
                  have HFO2 : Aside0 ((out.take (k + 1)).foldl (insSt p ow q) (false, []) = (false, next ++ [lessOf p r ow (nt r q)])) := ⟨by rw [HST.out]; simp [insSt, hlr]⟩
                  have HNL2 : Aside0 ((next ++ [lessOf p r ow (nt r q)]).length ≤ (k + 1) + false.toNat) := ⟨by have := HNL.out; simp at this ⊢; omega⟩
                  have hnx2 : next.length ≤ 100002 := by omega
                  go_wp2_with ((go_at_call 141; refine (l01Lead_calls _ _ r _ HK.out.2.1).mono ?_; rintro e wN ⟨rfl, hdr⟩; have hb := hdr.below; clear hdr; replace HN := Aside0.mk (Kd.R_below HN.out hb); replace HS := Aside0.mk (Kd.R_below HS.out hb); replace HF := Aside0.mk (Kd.R_below HF.out hb); replace HB2 := Aside0.mk (below_step HB2.out hb); clear hb))
                case' pos.inr.inr =>
                  obtain rfl := hcs
                  have HFO2 : Aside0 ((out.take (k + 1)).foldl (insSt p ow q) (false, []) = (true, next ++ [lessOf p r ow (nt r q)])) := ⟨by rw [HST.out]; simp [insSt]⟩
                  have HNL2 : Aside0 ((next ++ [lessOf p r ow (nt r q)]).length ≤ (k + 1) + true.toNat) := ⟨by have := HNL.out; simp at this ⊢; omega⟩
                  have hnx2 : next.length ≤ 100002 := by omega
                  go_wp2
                all_goals
                  clear hc5k HST
                  obtain ⟨_, _, hFC⟩ := Kd.R_reads' HF.out
                  obtain ⟨ad5', A6, c6, r', hrk', he5, hc5k, hc6, hC6⟩ := at_row hFC k hkl
                  obtain rfl : r' = r := hrk'.trans HK.out.1.symm
                  cases he5
                  obtain ⟨ad6, rfl, hc6q⟩ := at_nt hC6 q hqr
                  replace hC6 := Aside0.mk hC6
                  have HSC := Aside0.mk (show kI.C _ _ own.length ow from by have h := (Kd.R_reads' HS.out).2.2; rwa [HOW.out.2.1] at h)
                  clear hFC hrk'
                  refine start_ (n := 18) (S := fun w' => w'.cell? (ad5.add k) = some (.slice (some ad6) r'.length c6) ∧ w'.cell? (ad6.add q) = some (.int .i64 (nt r' q))) (ds := [16]) #[false, false, false, false, false, false, false, false, false, false, false, false, false, false, false, false, false, false] (by kernel_rfl) rfl rfl ⟨hc5k, hc6q⟩ (fun hHeld => ?_)
                  refine pure_ (i := 0) (N := some 77) (v := ?_) (a' := ?_) #[true, false, false, false, false, false, false, false, false, false, false, false, false, false, false, false, false, false] rfl rfl (by kernel_rfl) (fun _ _ _ h => h) (Or.inl ⟨by rfl, ?_⟩) ?_ ?_
                  rotate_left
                  · intro w'
                    go_simp
                    with_reducible rfl
                  rotate_left
                  · simp only [Act.put, List.setIfInBounds_toArray, List.set_cons_zero, List.set_cons_succ, i64_w, i32_w]
                    rfl
                  refine pure_ (i := 1) (N := some 78) (v := ?_) (a' := ?_) #[true, true, false, false, false, false, false, false, false, false, false, false, false, false, false, false, false, false] rfl rfl (by kernel_rfl) (fun _ _ _ h => h) (Or.inl ⟨by rfl, ?_⟩) ?_ ?_
                  rotate_left
                  · intro w'
                    go_simp
                    with_reducible rfl
                  rotate_left
                  · simp only [Act.put, List.setIfInBounds_toArray, List.set_cons_zero, List.set_cons_succ, i64_w, i32_w]
                    rfl
                  refine pure_ (i := 2) (N := some 79) (v := ?_) (a' := ?_) #[true, true, true, false, false, false, false, false, false, false, false, false, false, false, false, false, false, false] rfl rfl (by kernel_rfl) (fun _ _ _ h => h) (Or.inl ⟨by rfl, ?_⟩) ?_ ?_
                  rotate_left
                  · intro w'
                    go_simp
                    with_reducible rfl
                  rotate_left
                  · simp only [Act.put, List.setIfInBounds_toArray, List.set_cons_zero, List.set_cons_succ, i64_w, i32_w]
                    rfl
                  refine pure_ (i := 3) (N := some 80) (v := ?_) (a' := ?_) #[true, true, true, true, false, false, false, false, false, false, false, false, false, false, false, false, false, false] rfl rfl (by kernel_rfl) (fun _ _ _ h => h) (Or.inl ⟨by rfl, ?_⟩) ?_ ?_
                  rotate_left
                  · intro w'
                    go_simp
                    with_reducible rfl
                  rotate_left
                  · simp only [Act.put, List.setIfInBounds_toArray, List.set_cons_zero, List.set_cons_succ, i64_w, i32_w]
                    rfl
                  refine pure_ (i := 4) (N := some 81) (v := ?_) (a' := ?_) #[true, true, true, true, true, false, false, false, false, false, false, false, false, false, false, false, false, false] rfl rfl (by kernel_rfl) (fun _ _ _ h => h) (Or.inl ⟨by rfl, ?_⟩) ?_ ?_
                  rotate_left
                  · intro w'
                    go_simp
                    with_reducible rfl
                  rotate_left
                  · simp only [Act.put, List.setIfInBounds_toArray, List.set_cons_zero, List.set_cons_succ, i64_w, i32_w]
                    rfl
                  refine pure_ (i := 6) (N := some 83) (v := ?_) (a' := ?_) #[true, true, true, true, true, false, true, false, false, false, false, false, false, false, false, false, false, false] rfl rfl (by kernel_rfl) (fun _ _ _ h => h) (Or.inl ⟨by rfl, ?_⟩) ?_ ?_
                  rotate_left
                  · intro w'
                    go_simp
                    with_reducible rfl
                  rotate_left
                  · simp only [Act.put, List.setIfInBounds_toArray, List.set_cons_zero, List.set_cons_succ, i64_w, i32_w]
                    rfl
                  refine pure_ (i := 7) (N := some 84) (v := ?_) (a' := ?_) #[true, true, true, true, true, false, true, true, false, false, false, false, false, false, false, false, false, false] rfl rfl (by kernel_rfl) (fun _ _ _ h => h) (Or.inl ⟨by rfl, ?_⟩) ?_ ?_
                  rotate_left
                  · intro w'
                    go_simp
                    with_reducible rfl
                  rotate_left
                  · simp only [Act.put, List.setIfInBounds_toArray, List.set_cons_zero, List.set_cons_succ, i64_w, i32_w]
                    rfl
                  refine pure_ (i := 8) (N := some 85) (v := ?_) (a' := ?_) #[true, true, true, true, true, false, true, true, true, false, false, false, false, false, false, false, false, false] rfl rfl (by kernel_rfl) (fun _ _ _ h => h) (Or.inl ⟨by rfl, ?_⟩) ?_ ?_
                  rotate_left
                  · intro w'
                    go_simp
                    with_reducible rfl
                  rotate_left
                  · simp only [Act.put, List.setIfInBounds_toArray, List.set_cons_zero, List.set_cons_succ, i64_w, i32_w]
                    rfl
                  refine pure_ (i := 9) (N := some 86) (v := ?_) (a' := ?_) #[true, true, true, true, true, false, true, true, true, true, false, false, false, false, false, false, false, false] rfl rfl (by kernel_rfl) (fun _ _ _ h => h) (Or.inl ⟨by rfl, ?_⟩) ?_ ?_
                  rotate_left
                  · intro w'
                    go_simp
                    with_reducible rfl
                  rotate_left
                  · simp only [Act.put, List.setIfInBounds_toArray, List.set_cons_zero, List.set_cons_succ, i64_w, i32_w]
                    rfl
                  refine pure_ (i := 11) (N := some 88) (v := ?_) (a' := ?_) #[true, true, true, true, true, false, true, true, true, true, false, true, false, false, false, false, false, false] rfl rfl (by kernel_rfl) (fun _ _ _ h => h) (Or.inl ⟨by rfl, ?_⟩) ?_ ?_
                  rotate_left
                  · intro w'
                    go_simp
                    with_reducible rfl
                  rotate_left
                  · simp only [Act.put, List.setIfInBounds_toArray, List.set_cons_zero, List.set_cons_succ, i64_w, i32_w]
                    rfl
                  refine take_ (i := 5) (N := some 82) (v := ?_) (a' := ?_) #[true, true, true, true, true, true, true, true, true, true, false, true, false, false, false, false, false, false] rfl rfl (by kernel_rfl) (fun _ _ _ h => h) (Or.inl ⟨by rfl, ?_⟩) hHeld ?_ ?_
                  rotate_left
                  · rintro w' ⟨s0, s1⟩
                    go_simp
                    with_reducible rfl
                  rotate_left
                  · simp only [Act.put, List.setIfInBounds_toArray, List.set_cons_zero, List.set_cons_succ, i64_w, i32_w]
                    rfl
                  refine take_ (i := 10) (N := some 87) (v := ?_) (a' := ?_) #[true, true, true, true, true, true, true, true, true, true, true, true, false, false, false, false, false, false] rfl rfl (by kernel_rfl) (fun _ _ _ h => h) (Or.inl ⟨by rfl, ?_⟩) hHeld ?_ ?_
                  rotate_left
                  · rintro w' ⟨s0, s1⟩
                    go_simp
                    with_reducible rfl
                  rotate_left
                  · simp only [Act.put, List.setIfInBounds_toArray, List.set_cons_zero, List.set_cons_succ, i64_w, i32_w]
                    rfl
                  refine pure_ (i := 12) (N := some 89) (v := ?_) (a' := ?_) #[true, true, true, true, true, true, true, true, true, true, true, true, true, false, false, false, false, false] rfl rfl (by kernel_rfl) (fun _ _ _ h => h) (Or.inl ⟨by rfl, ?_⟩) ?_ ?_
                  rotate_left
                  · intro w'
                    go_simp
                    with_reducible rfl
                  rotate_left
                  · simp only [Act.put, List.setIfInBounds_toArray, List.set_cons_zero, List.set_cons_succ, i64_w, i32_w]
                    rfl
                  refine take_ (i := 13) (N := some 90) (v := ?_) (a' := ?_) #[true, true, true, true, true, true, true, true, true, true, true, true, true, true, false, false, false, false] rfl rfl (by kernel_rfl) (fun _ _ _ h => h) (Or.inl ⟨by rfl, ?_⟩) hHeld ?_ ?_
                  rotate_left
                  · rintro w' ⟨s0, s1⟩
                    go_simp
                    with_reducible rfl
                  rotate_left
                  · simp only [Act.put, List.setIfInBounds_toArray, List.set_cons_zero, List.set_cons_succ, i64_w, i32_w]
                    rfl
                  refine one_ (i := 14) (N := some 91) #[true, true, true, true, true, true, true, true, true, true, true, true, true, true, true, false, false, false] rfl rfl (by kernel_rfl) (by decide) (fun K hK => ?_)
                  refine goes_ Try.func169 (by kernel_rfl) rfl #[.int .i64 p, .slice (some ad6) r'.length c6, .slice (some ⟨g, 0, none⟩) own.length cap, .int .i64 (nt r' q)] (by rfl) rfl rfl (by simp only [List.map_toArray, List.map_cons, List.map_nil]; rfl) ?_
                  with_reducible refine (l01Less_calls' p _ _ _ r' _ _ _ ow _ _ (Kd.C_drew hC6.out) (Kd.C_drew HSC.out) (by have := HK.out.2.2.2; have := HW.out.2.1; omega) (by omega) (by omega) HK.out.2.2.1 HOW.out.2.2 hbr (by have := HK.out.2.2.2; omega)).mono ?_
                  rintro e w2 ⟨v2, rfl, ho2, hb2⟩
                  refine ⟨_, rfl, ?_⟩
                  obtain ⟨A2, c2, rfl⟩ := Kd.R_slice ho2
                  replace ho2 := Aside0.mk ho2
                  replace hb2 := Aside0.mk hb2
                  refine hK.out _ _ ⟨(hb2.out.cell (World.block_lt_of_cell? _ _ hc5k)).trans hc5k, (hb2.out.cell (World.block_lt_of_cell? _ _ hc6q)).trans hc6q⟩ (fun hHeld => ?_)
                  clear hK K
                  refine norm_ (a' := ?_) ?_ ?_
                  rotate_left
                  · show Act.put _ (some 91) _ = _
                    simp only [Act.put, List.setIfInBounds_toArray, List.set_cons_zero, List.set_cons_succ, i64_w, i32_w]
                    rfl
                  refine one_ (i := 15) (N := some 92) #[true, true, true, true, true, true, true, true, true, true, true, true, true, true, true, true, false, false] rfl rfl (by kernel_rfl) (by decide) (fun K hK => ?_)
                  refine value_ (w1 := ?_) (v := ?_) (by rfl) rfl ?_ ?_
                  rotate_left 2
                  · go_simp
                    constructor
                    · rfl
                    · rfl
                  refine hK.out _ _ ⟨((below_alloc hb2.out _).cell (World.block_lt_of_cell? _ _ hc5k)).trans hc5k, ((below_alloc hb2.out _).cell (World.block_lt_of_cell? _ _ hc6q)).trans hc6q⟩ (fun hHeld => ?_)
                  clear hK K
                  refine norm_ (a' := ?_) ?_ ?_
                  rotate_left
                  · show Act.put _ (some 92) _ = _
                    simp only [Act.put, List.setIfInBounds_toArray, List.set_cons_zero, List.set_cons_succ, i64_w, i32_w]
                    rfl
                  refine last_ (i := 16) (N := some 93) #[true, true, true, true, true, true, true, true, true, true, true, true, true, true, true, true, true, false] rfl rfl (by kernel_rfl) (by decide) (fun K hK => ?_)
                  refine app_row_step (w0 := w) (by rfl) (.tmp 77) (.tmp 92) _ rfl Try.underlying65 infoR u11 _ _ (lessOf p r' ow (nt r' q)) rfl rfl (Kd.R_lower (Kd.R_mono (Kd.R_newR ho2.out (Kd.R_drew HN.out)) (fun _ h => h.2)) (below_drew1 HB2.out).size) (Kd.R_below (Kd.R_drew HN.out) hb2.out) (below_step (below_drew1 HB2.out) hb2.out) (by omega) ?_
                  intro u11 wM hn hb hg hat
                  have HS9 := Aside0.mk (R_next (Kd.R_below (Kd.R_drew HS.out) hb2.out) hg hat)
                  have HF9 := Aside0.mk (R_next (Kd.R_below (Kd.R_drew HF.out) hb2.out) hg hat)
                  replace HN := Aside0.mk hn
                  replace HB2 := Aside0.mk hb
                  replace HS := HS9
                  replace HF := HF9
                  clear hn hb hg hat HS9 HF9
                  refine hK.out _ _ ?_
                  clear hK K
                  refine norm_ (a' := ?_) ?_ ?_
                  rotate_left
                  · show Act.put _ (some 93) _ = _
                    simp only [Act.put, List.setIfInBounds_toArray, List.set_cons_zero, List.set_cons_succ, i64_w, i32_w]
                    rfl
                  refine pure_ (i := 17) (N := some 11) (v := ?_) (a' := ?_) #[true, true, true, true, true, true, true, true, true, true, true, true, true, true, true, true, true, true] rfl rfl (by kernel_rfl) (fun _ _ _ h => h) (Or.inl ⟨by rfl, ?_⟩) ?_ ?_
                  rotate_left
                  · intro w'
                    go_simp
                    with_reducible rfl
                  rotate_left
                  · simp only [Act.put, List.setIfInBounds_toArray, List.set_cons_zero, List.set_cons_succ, i64_w, i32_w]
                    rfl
                  refine done_ (by kernel_rfl) ?_
                  go_wp2
                  go_roundw
                  case rel => exact ⟨k + 1, _, _, by go_num, rfl, by omega, HFO2, HNL2, HN, HS, HF, HB2⟩
                  case measure => simp [intOf]; omega
              · have hfin : ∀ x, (out.take k).foldl (insSt p ow q) (false, []) = x → insRow p ow q out = if x.1 = true then x.2 else x.2 ++ [ow] := by
                  intro x hx
                  rw [List.take_of_length_le (by omega)] at hx
                  unfold insRow
                  rw [hx]
                have HFI := Aside0.mk (hfin _ HFO.out)
                have hend : echelon p (rows.take (i + 1)) = insRow p ow q out := by
                  rw [take_succ_ntR rows i hlt, echelon_snoc, ← HE.out, ← HX.out.1]
                  unfold echStep
                  rw [← HW.out.1, if_neg (by have := HQ.out.2.2.2; omega), ← HQ.out.2.2.1, ← HIV.out, ← HOW.out.1]
                have HEN := Aside0.mk hend
                clear hfin hend
                cases put
                · go_wp2_with ((at_builtin; go_must (refine app_row (w0 := w) rfl _ _ _ rfl Try.underlying65 infoR u11 next _ ow rfl rfl HS.out HN.out HB2.out (by omega) ?_); intro v1 w9 HO9 HB9 _ _; replace HO9 := Aside0.mk HO9; replace HB9 := Aside0.mk HB9))
                  go_roundw
                  case rel => exact ⟨i + 1, by go_num, by omega, ⟨by rw [HEN.out, HFI.out]; exact HO9.out⟩, HB9⟩
                  case measure => simp [intOf]; omega
                · go_wp2
                  go_roundw
                  case rel => exact ⟨i + 1, by go_num, by omega, ⟨by rw [HEN.out, HFI.out]; exact HN.out⟩, HB2⟩
                  case measure => simp [intOf]; omega
    · go_wp2
      go_ret
      exact ⟨_, rfl, by rw [show echelon p rows = out by rw [HE.out, List.take_of_length_le (by omega)]]; exact HO.out, HB.out⟩
end Go.Proofs.Ytbenhcognapdpaa
