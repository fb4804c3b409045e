/- Walks: the specification's orbit of a point. -/
import Derived.Test.YtbenhcognapdpaaOrbW1
import Derived.Test.YtbenhcognapdpaaOrbB
import Derived.Test.YtbenhcognapdpaaOrbM2
import Derived.Test.YtbenhcognapdpaaGrp
import Derived.Test.YtbenhcognapdpaaSmallW2
set_option linter.unusedVariables false
set_option linter.unusedSimpArgs false
namespace Go.Proofs.Ytbenhcognapdpaa
open Go.RowKit Go.Proofs.YtbenhcognapdpaaW.PrintWords Go.Proofs.YtbenhcognapdpaaW.PrintLast Lin

theorem orbitS_take (p : Int) (n : Nat) (l : List (List Int)) (x : List Int) (i : Nat) (hi : i < l.length) : orbitS p n (l.take (i + 1)) x = orbIns (leadV p n x (ntR l i)) (orbitS p n (l.take i) x) := by
  rw [take_succ_ntR l i hi]
  simp [orbitS]
theorem orbIns_len (own : List Int) (out : List (List Int)) : (orbIns own out).length ≤ out.length + 1 := by
  induction out with
  | nil => simp [orbIns]
  | cons r rs ih =>
    simp only [orbIns]
    split
    · simp; omega
    · split <;> simp
theorem orbitS_len (p : Int) (n : Nat) (l : List (List Int)) (x : List Int) : (orbitS p n l x).length ≤ l.length := by
  induction l using snoc_ind with
  | h0 => simp [orbitS]
  | h1 l a ih =>
    have : orbitS p n (l ++ [a]) x = orbIns (leadV p n x a) (orbitS p n l x) := by simp [orbitS]
    rw [this]
    have := orbIns_len (leadV p n x a) (orbitS p n l x)
    simp
    omega
theorem orbitS_rows {p : Int} {n : Nat} {l : List (List Int)} {x y : List Int} (h : y ∈ orbitS p n l x) : y.length = n := by
  obtain ⟨m, _, rfl⟩ := orbitS_mem.1 h
  exact leadV_len ..

set_option maxRecDepth 100000 in
set_option maxHeartbeats 4000000 in
theorem l02Orbit_calls (p : Int) (n : Nat) (A : Option Addr) (q c : Nat) (l : List (List Int)) (A' : Option Addr) (q' c' : Nat) (x : List Int) (w : World) (hr : kM.C w A q l) (hl : ∀ m ∈ l, IsM m) (hr' : kI.C w A' q' x)
    (hp : 0 < p) (hp2 : p ≤ 1000) (hn : n ≤ 3) (hx : Pt p n x) (hl48 : l.length ≤ 48) :
    Calls Try.prog 86 #[.agg #[.int .i64 p, .int .i64 n, .slice A q c], .slice A' q' c'] w fun e w' => ∃ v, e = .returned v ∧ kR.R 38 w' w.heap.size (fun _ => True) v (orbitS p n l x) ∧ Below w.heap.size w w' := by
  obtain rfl := Kd.C_len hr
  obtain rfl := Kd.C_len hr'
  have HR := Aside0.mk hr
  have HL := Aside0.mk hl
  have HR' := Aside0.mk hr'
  have HX := Aside0.mk (show x.length = n ∧ InR p x from hx)
  clear hr hl hr' hx
  go_enter Try.func86, Try.ntmps86
  go_wp2
  obtain ⟨wb, hwb⟩ : ∃ wb, wb = w.alloc (.cells #[.int .i64 p, .int .i64 n, .slice A l.length c] 44) := ⟨_, rfl⟩
  have H1b : Blk wb w.heap.size 44 #[.int .i64 p, .int .i64 n, .slice A l.length c] := hwb ▸ Blk.new w _ _
  have hwbs : wb.heap.size = w.heap.size + 1 := by rw [hwb, size_alloc]
  have HWB := Aside0.mk (show Below w.heap.size w wb from hwb ▸ below_alloc (Below.refl _ _) _)
  go_loopw [5, 6] (fun v5 v6 wr => ∃ i : Nat, v6 = .int .i64 i ∧ i ≤ l.length ∧ Aside0 (kR.R 38 wr wb.heap.size (fun _ => True) v5 (orbitS p n (l.take i) x)) ∧ Aside0 (Below wb.heap.size wb wr)) (fun _ v6 _ => l.length - (intOf v6).toNat)
  case atStart => exact ⟨0, rfl, by omega, ⟨by rw [hwbs]; exact R_litAt kR _ _ _ (by rw [size_alloc]) (by rw [size_alloc]; exact Nat.le_refl _)⟩, ⟨by rw [hwb]; exact below_alloc (Below.refl _ _) _⟩⟩
  case round =>
    obtain ⟨i, rfl, hi, HO, HB⟩ := hrel
    have H1 := H1b.keep HB.out
    have k0 := H1.cell 0 rfl
    have k1 := H1.cell 1 rfl
    have k2 := H1.cell 2 rfl
    have hlen := orbitS_len p n (l.take i) x
    rw [List.length_take] at hlen
    obtain ⟨out, hout⟩ : ∃ out, out = orbitS p n (l.take i) x := ⟨_, rfl⟩
    have HROW := Aside0.mk (show ∀ y ∈ out, y.length = n from fun y hy => orbitS_rows (hout ▸ hy))
    rw [← hout] at HO hlen
    have HE := Aside0.mk hout
    clear hout
    by_cases hlt : i < l.length
    · obtain ⟨ad, m, hmm, rfl, hm9, hc⟩ := mat_at HR.out i hlt
      have HM : Aside0 (IsM m) := ⟨HL.out m (hmm ▸ ntR_mem l i hlt)⟩
      have HC := Aside0.mk (hc.below (below_step HWB.out HB.out))
      have HX' := Aside0.mk (Kd.C_below HR'.out (below_step HWB.out HB.out))
      have HNX : Aside0 (orbitS p n (l.take (i + 1)) x = orbIns (leadV p n x m) out) := ⟨by rw [orbitS_take p n l x i hlt, ← hmm, ← HE.out]⟩
      clear hmm hc HE
      obtain ⟨A5, c5, rfl, hc5, hC5⟩ := Kd.R_reads HO.out
      clear hC5
      have hd3 : decide ((i : Int) < l.length) = true := decide_eq_true (by omega)
      go_wp2
      refine start_ (n := 13) (S := fun w' => w'.cell? ⟨w.heap.size, 0, none⟩ = some (.int .i64 p) ∧ w'.cell? ⟨w.heap.size, 1, none⟩ = some (.int .i64 n) ∧ w'.cell? ⟨w.heap.size, 2, none⟩ = some (.slice (some ad) l.length c) ∧ MAt w' (ad.add (i * 9)) m) (ds := []) #[false, false, false, false, false, false, false, false, false, false, false, false, false] (by kernel_rfl) rfl rfl ⟨k0, k1, k2, HC.out.drew⟩ (fun hHeld => ?_)
      refine pure_ (i := 0) (N := some 18) (v := ?_) (a' := ?_) #[true, false, false, false, false, false, false, false, false, false, false, false, false] rfl rfl (by kernel_rfl) (fun _ _ _ h => h) (Or.inl ⟨by rfl, ?_⟩) ?_ ?_
      rotate_left
      · intro w'
        go_simp
        with_reducible rfl
      rotate_left
      · simp only [Act.put, List.setIfInBounds_toArray, List.set_cons_zero, List.set_cons_succ, i64_w, i32_w]
        rfl
      refine pure_ (i := 2) (N := some 20) (v := ?_) (a' := ?_) #[true, false, true, false, false, false, false, false, false, false, false, false, false] rfl rfl (by kernel_rfl) (fun _ _ _ h => h) (Or.inl ⟨by rfl, ?_⟩) ?_ ?_
      rotate_left
      · intro w'
        go_simp
        with_reducible rfl
      rotate_left
      · simp only [Act.put, List.setIfInBounds_toArray, List.set_cons_zero, List.set_cons_succ, i64_w, i32_w]
        rfl
      refine pure_ (i := 4) (N := some 22) (v := ?_) (a' := ?_) #[true, false, true, false, true, false, false, false, false, false, false, false, false] rfl rfl (by kernel_rfl) (fun _ _ _ h => h) (Or.inl ⟨by rfl, ?_⟩) ?_ ?_
      rotate_left
      · intro w'
        go_simp
        with_reducible rfl
      rotate_left
      · simp only [Act.put, List.setIfInBounds_toArray, List.set_cons_zero, List.set_cons_succ, i64_w, i32_w]
        rfl
      refine pure_ (i := 6) (N := some 24) (v := ?_) (a' := ?_) #[true, false, true, false, true, false, true, false, false, false, false, false, false] rfl rfl (by kernel_rfl) (fun _ _ _ h => h) (Or.inl ⟨by rfl, ?_⟩) ?_ ?_
      rotate_left
      · intro w'
        go_simp
        with_reducible rfl
      rotate_left
      · simp only [Act.put, List.setIfInBounds_toArray, List.set_cons_zero, List.set_cons_succ, i64_w, i32_w]
        rfl
      refine pure_ (i := 9) (N := some 27) (v := ?_) (a' := ?_) #[true, false, true, false, true, false, true, false, false, true, false, false, false] rfl rfl (by kernel_rfl) (fun _ _ _ h => h) (Or.inl ⟨by rfl, ?_⟩) ?_ ?_
      rotate_left
      · intro w'
        go_simp
        with_reducible rfl
      rotate_left
      · simp only [Act.put, List.setIfInBounds_toArray, List.set_cons_zero, List.set_cons_succ, i64_w, i32_w]
        rfl
      refine take_ (i := 1) (N := some 19) (v := ?_) (a' := ?_) #[true, true, true, false, true, false, true, false, false, true, false, false, false] rfl rfl (by kernel_rfl) (fun _ _ _ h => h) (Or.inl ⟨by rfl, ?_⟩) hHeld ?_ ?_
      rotate_left
      · rintro w' ⟨s0, s1, s2, s3⟩
        go_simp
        with_reducible rfl
      rotate_left
      · simp only [Act.put, List.setIfInBounds_toArray, List.set_cons_zero, List.set_cons_succ, i64_w, i32_w]
        rfl
      refine take_ (i := 3) (N := some 21) (v := ?_) (a' := ?_) #[true, true, true, true, true, false, true, false, false, true, false, false, false] rfl rfl (by kernel_rfl) (fun _ _ _ h => h) (Or.inl ⟨by rfl, ?_⟩) hHeld ?_ ?_
      rotate_left
      · rintro w' ⟨s0, s1, s2, s3⟩
        go_simp
        with_reducible rfl
      rotate_left
      · simp only [Act.put, List.setIfInBounds_toArray, List.set_cons_zero, List.set_cons_succ, i64_w, i32_w]
        rfl
      refine take_ (i := 5) (N := some 23) (v := ?_) (a' := ?_) #[true, true, true, true, true, true, true, false, false, true, false, false, false] rfl rfl (by kernel_rfl) (fun _ _ _ h => h) (Or.inl ⟨by rfl, ?_⟩) hHeld ?_ ?_
      rotate_left
      · rintro w' ⟨s0, s1, s2, s3⟩
        go_simp
        with_reducible rfl
      rotate_left
      · simp only [Act.put, List.setIfInBounds_toArray, List.set_cons_zero, List.set_cons_succ, i64_w, i32_w]
        rfl
      refine pure_ (i := 7) (N := some 25) (v := ?_) (a' := ?_) #[true, true, true, true, true, true, true, true, false, true, false, false, false] rfl rfl (by kernel_rfl) (fun _ _ _ h => h) (Or.inl ⟨by rfl, ?_⟩) ?_ ?_
      rotate_left
      · intro w'
        go_simp
        with_reducible rfl
      rotate_left
      · simp only [Act.put, List.setIfInBounds_toArray, List.set_cons_zero, List.set_cons_succ, i64_w, i32_w]
        rfl
      refine take_ (i := 8) (N := some 26) (v := ?_) (a' := ?_) #[true, true, true, true, true, true, true, true, true, true, false, false, false] rfl rfl (by kernel_rfl) (fun _ _ _ h => h) (Or.inl ⟨by rfl, ?_⟩) hHeld ?_ ?_
      rotate_left
      · rintro w' ⟨s0, s1, s2, s3⟩
        refine Eq.trans (run_op_load' s3 (by rfl) (by rfl) Try.underlying103 rfl (sizeM_of hm9)) ?_
        with_reducible rfl
      rotate_left
      · simp only [Act.put, List.setIfInBounds_toArray, List.set_cons_zero, List.set_cons_succ, i64_w, i32_w]
        rfl
      refine one_ (i := 10) (N := some 28) #[true, true, true, true, true, true, true, true, true, true, true, false, false] rfl rfl (by kernel_rfl) (by decide) (fun K hK => ?_)
      refine goes_ Try.func123 (by kernel_rfl) rfl #[.int .i64 p, .int .i64 n, .agg (mcells m), .slice A' x.length c'] (by rfl) rfl rfl (by simp only [List.map_toArray, List.map_cons, List.map_nil]; rfl) ?_
      with_reducible refine (l02Lead_calls p n m A' x.length c' x _ (Kd.C_drew HX'.out) hp hp2 hn HM.out HX.out.1 HX.out.2).mono ?_
      rintro e w2 ⟨v7, rfl, ho, hb⟩
      refine ⟨_, rfl, ?_⟩
      obtain ⟨A7, c7, rfl⟩ := Kd.R_slice ho
      have HS0 := Aside0.mk ho
      have HB2 := Aside0.mk hb
      clear ho hb
      replace H1 := H1.drew.keep HB2.out
      refine hK.out _ _ ⟨H1.cell 0 rfl, H1.cell 1 rfl, H1.cell 2 rfl, HC.out.drew.below HB2.out⟩ (fun hHeld => ?_)
      clear hK K
      refine norm_ (a' := ?_) ?_ ?_
      rotate_left
      · show Act.put _ (some 28) _ = _
        simp only [Act.put, List.setIfInBounds_toArray, List.set_cons_zero, List.set_cons_succ, i64_w, i32_w]
        rfl
      refine pure_ (i := 11) (N := some 7) (v := ?_) (a' := ?_) #[true, true, true, true, true, true, true, true, true, true, true, true, false] rfl rfl (by kernel_rfl) (fun _ _ _ h => h) (Or.inl ⟨by rfl, ?_⟩) ?_ ?_
      rotate_left
      · intro w'
        go_simp
        with_reducible rfl
      rotate_left
      · simp only [Act.put, List.setIfInBounds_toArray, List.set_cons_zero, List.set_cons_succ, i64_w, i32_w]
        rfl
      refine pure_ (i := 12) (N := some 8) (v := ?_) (a' := ?_) #[true, true, true, true, true, true, true, true, true, true, true, true, true] rfl rfl (by kernel_rfl) (fun _ _ _ h => h) (Or.inl ⟨by rfl, ?_⟩) ?_ ?_
      rotate_left
      · intro w'
        go_simp
        with_reducible rfl
      rotate_left
      · simp only [Act.put, List.setIfInBounds_toArray, List.set_cons_zero, List.set_cons_succ, i64_w, i32_w]
        rfl
      refine done_ (by kernel_rfl) ?_
      obtain ⟨own, hown⟩ : ∃ own, own = leadV p n x m := ⟨_, rfl⟩
      have hownl := leadV_len p n x m
      rw [← hown] at HS0 HNX hownl ⊢
      have HOL := Aside0.mk hownl
      have HS := Aside0.mk (Kd.R_lower HS0.out (below_drew1 HB.out).size)
      replace HO := Aside0.mk (Kd.R_below (Kd.R_drew HO.out) HB2.out)
      replace HB := Aside0.mk (below_step (below_drew1 HB.out) HB2.out)
      clear HS0 hownl hown HB2 HC HX' k0 k1 k2
      have hi0 := info_parts infoR
      obtain ⟨iR, hiR, _, hszR, _⟩ := hi0
      go_wp2
      go_loopw [8] (fun v8 wr => ∃ k : Nat, v8 = .int .i64 k ∧ k ≤ out.length ∧ Aside0 (∀ j < k, cmpL (ntR out j) own < 0) ∧ Aside0 (kR.R 38 wr wb.heap.size (fun _ => True) (.slice A5 out.length c5) out) ∧ Aside0 (kI.R 2 wr wb.heap.size (fun _ => True) (.slice A7 own.length c7) own) ∧ Aside0 (Below wb.heap.size wb wr)) (fun v8 _ => out.length - (intOf v8).toNat)
      case atStart => exact ⟨0, rfl, by omega, ⟨fun j hj => by omega⟩, HO, HS, HB⟩
      case round =>
        clear HO HS HB H1
        obtain ⟨k, rfl, hk, HK, HO, HS, HB⟩ := hrel
        have hcut1 := cut_from (P := Try.prog) 65 38 .i64 Try.underlying65 hiR 1 hszR A5 out.length c5 k (by omega) (by omega)
        have hcut2 := cut_to (P := Try.prog) 65 38 .i64 Try.underlying65 hiR A5 out.length c5 k (by omega) (by omega) hc5
        rw [Int.toNat_natCast] at hcut1 hcut2
        obtain ⟨AD, hAD⟩ : ∃ AD, AD = (if c5 = k then A5 else A5.map (·.add (k * 1))) := ⟨_, rfl⟩
        obtain ⟨cd, hcd⟩ : ∃ cd, cd = c5 - k := ⟨_, rfl⟩
        rw [← hAD, ← hcd] at hcut1
        replace hAD := Aside0.mk hAD.symm
        clear hcd
        by_cases hkl : k < out.length
        · obtain ⟨ad5, A6, c6, r, hrk, rfl, hc5k, hc6, hC6⟩ := at_row (Kd.R_reads' HO.out).2.2 k hkl
          have HC6 := Aside0.mk hC6
          have HCO := Aside0.mk (Kd.R_reads' HS.out).2.2
          have HRL : Aside0 (r.length = own.length) := ⟨by rw [HOL.out, hrk]; exact HROW.out _ (ntR_mem out k hkl)⟩
          have HRK := Aside0.mk hrk
          clear hC6 hrk
          have hkd : decide ((k : Int) < out.length) = true := decide_eq_true (by omega)
          rcases Int.lt_trichotomy (cmpL r own) 0 with h | h | h
          · have hb1 : decide (cmpL r own < 0) = true := decide_eq_true h
            have HK2 : Aside0 (∀ j < k + 1, cmpL (ntR out j) own < 0) := ⟨fun j hj => by
              rcases Nat.lt_succ_iff_lt_or_eq.1 hj with h' | h'
              · exact HK.out j h'
              · subst h'; rw [← HRK.out]; exact h⟩
            clear h
            go_wp2_with (first
              | (go_at_call 124; refine (l02Compare_calls A6 r.length c6 r A7 own.length c7 own _ HC6.out HCO.out HRL.out).mono ?_; rintro e wN ⟨rfl, hdr⟩; have hb := hdr.below; clear hdr; replace HO := Aside0.mk (Kd.R_below HO.out hb); replace HS := Aside0.mk (Kd.R_below HS.out hb); replace HB := Aside0.mk (below_step HB.out hb); replace HC6 := Aside0.mk (Kd.C_below HC6.out hb); replace HCO := Aside0.mk (Kd.C_below HCO.out hb); replace hc5k := (hb.cell (World.block_lt_of_cell? _ _ hc5k)).trans hc5k; clear hb))
            go_roundw
            case rel => exact ⟨k + 1, by go_num, by omega, HK2, HO, HS, HB⟩
            case measure => simp [intOf]; omega
          · have hb1 : decide (cmpL r own < 0) = false := decide_eq_false (by omega)
            have hb2 : (cmpL r own == 0) = true := by simpa using h
            have HIN : Aside0 (orbIns own out = out) := ⟨by rw [orbIns_at own out k hk HK.out (fun _ => by have := HRK.out; unfold ntR at this; rw [← this, h]; omega), if_pos ⟨hkl, by have := HRK.out; unfold ntR at this; rw [← this]; exact h⟩]⟩
            clear h
            go_wp2_with (first
              | (go_at_call 124; refine (l02Compare_calls A6 r.length c6 r A7 own.length c7 own _ HC6.out HCO.out HRL.out).mono ?_; rintro e wN ⟨rfl, hdr⟩; have hb := hdr.below; clear hdr; replace HO := Aside0.mk (Kd.R_below HO.out hb); replace HS := Aside0.mk (Kd.R_below HS.out hb); replace HB := Aside0.mk (below_step HB.out hb); replace HC6 := Aside0.mk (Kd.C_below HC6.out hb); replace HCO := Aside0.mk (Kd.C_below HCO.out hb); replace hc5k := (hb.cell (World.block_lt_of_cell? _ _ hc5k)).trans hc5k; clear hb))
            go_roundw
            case rel => exact ⟨i + 1, by go_num, by omega, ⟨by rw [HNX.out, HIN.out]; exact HO.out⟩, HB⟩
            case measure => simp [intOf]; omega
          · have hb1 : decide (cmpL r own < 0) = false := decide_eq_false (by omega)
            have hb2 : (cmpL r own == 0) = false := by rw [beq_eq_false_iff_ne]; omega
            have HIN : Aside0 (orbIns own out = out.take k ++ ([own] ++ out.drop k)) := ⟨by rw [orbIns_at own out k hk HK.out (fun _ => by have := HRK.out; unfold ntR at this; rw [← this]; omega), if_neg (fun h' => by have := HRK.out; unfold ntR at this; rw [← this] at h'; omega)]⟩
            clear h
            go_wp2_with (first
              | (go_at_call 124; refine (l02Compare_calls A6 r.length c6 r A7 own.length c7 own _ HC6.out HCO.out HRL.out).mono ?_; rintro e wN ⟨rfl, hdr⟩; have hb := hdr.below; clear hdr; replace HO := Aside0.mk (Kd.R_below HO.out hb); replace HS := Aside0.mk (Kd.R_below HS.out hb); replace HB := Aside0.mk (below_step HB.out hb); replace HC6 := Aside0.mk (Kd.C_below HC6.out hb); replace HCO := Aside0.mk (Kd.C_below HCO.out hb); replace hc5k := (hb.cell (World.block_lt_of_cell? _ _ hc5k)).trans hc5k; clear hb)
              | (at_builtin; refine app_rows (w0 := wb) rfl (.tmp 58) (.tmp 61) _ rfl Try.underlying65 infoR _ [own] (out.drop k) AD (out.length - k) cd _ rfl rfl (R_lit1 kR _ _ _ (Kd.M_row HS.out) HB.out.size) (hAD.out ▸ rows_drop (R_rows' (R_fresh HO.out _ 1 1)).2.2 hk hc5) (fun _ h => h.1) (below_alloc HB.out _) (by simp; omega) ?_; intro v62 w62 ho hb hg hat; replace HO := Aside0.mk (R_next (R_fresh HO.out _ 1 1) hg hat); obtain ⟨L2, hL2⟩ : ∃ L2, L2 = [own] ++ out.drop k := ⟨_, rfl⟩; have hLL : L2.length ≤ 50 := (by rw [hL2]; simp; omega); rw [← hL2] at ho; have HL2 := Aside0.mk hL2; clear hL2; obtain ⟨A62, c62, hv62, hle62, _⟩ := R_rows ho; subst hv62; have H62 := Aside0.mk ho; replace HB := Aside0.mk hb; clear ho hb hg hat hle62)
              | (at_builtin; refine app_rows (w0 := wb) rfl (.tmp 63) (.tmp 66) _ rfl Try.underlying65 infoR _ [] (out.take k) _ k c5 _ rfl rfl (R_lit0 kR _ _ _ HB.out.size) (rows_take (R_rows' (R_fresh (R_any HO.out) _ 0 0)).2.2 hk) (fun _ h => h.1) (below_alloc HB.out _) (by simp; omega) ?_; intro v67 w67 ho hb hg hat; replace H62 := Aside0.mk (R_next (R_fresh H62.out _ 0 0) hg hat); have H67 := Aside0.mk ho; replace HB := Aside0.mk hb; clear ho hb hg hat)
              | (at_builtin; refine app_rows (w0 := wb) rfl (.tmp 67) (.tmp 68) _ rfl Try.underlying65 infoR v67 ([] ++ out.take k) L2 A62 L2.length c62 _ rfl rfl H67.out (R_rows' H62.out).2.2 (fun _ h => h.1) HB.out (by simp; omega) ?_; intro v69 w69 ho hb hg hat; have H69 := Aside0.mk ho; replace HB := Aside0.mk hb; clear ho hb hg hat))
            go_roundw
            case rel => exact ⟨i + 1, by go_num, by omega, ⟨by rw [HNX.out, HIN.out, ← HL2.out]; exact H69.out⟩, HB⟩
            case measure => simp [intOf]; omega
        · have hkd : decide ((k : Int) < out.length) = false := decide_eq_false (by omega)
          have HIN : Aside0 (orbIns own out = out.take k ++ ([own] ++ out.drop k)) := ⟨by rw [orbIns_at own out k hk HK.out (fun h => absurd h hkl), if_neg (fun h => hkl h.1)]⟩
          go_wp2_with (first
            | (at_builtin; refine app_rows (w0 := wb) rfl (.tmp 58) (.tmp 61) _ rfl Try.underlying65 infoR _ [own] (out.drop k) AD (out.length - k) cd _ rfl rfl (R_lit1 kR _ _ _ (Kd.M_row HS.out) HB.out.size) (hAD.out ▸ rows_drop (R_rows' (R_fresh HO.out _ 1 1)).2.2 hk hc5) (fun _ h => h.1) (below_alloc HB.out _) (by simp; omega) ?_; intro v62 w62 ho hb hg hat; replace HO := Aside0.mk (R_next (R_fresh HO.out _ 1 1) hg hat); obtain ⟨L2, hL2⟩ : ∃ L2, L2 = [own] ++ out.drop k := ⟨_, rfl⟩; have hLL : L2.length ≤ 50 := (by rw [hL2]; simp; omega); rw [← hL2] at ho; have HL2 := Aside0.mk hL2; clear hL2; obtain ⟨A62, c62, hv62, hle62, _⟩ := R_rows ho; subst hv62; have H62 := Aside0.mk ho; replace HB := Aside0.mk hb; clear ho hb hg hat hle62)
            | (at_builtin; refine app_rows (w0 := wb) rfl (.tmp 63) (.tmp 66) _ rfl Try.underlying65 infoR _ [] (out.take k) _ k c5 _ rfl rfl (R_lit0 kR _ _ _ HB.out.size) (rows_take (R_rows' (R_fresh (R_any HO.out) _ 0 0)).2.2 hk) (fun _ h => h.1) (below_alloc HB.out _) (by simp; omega) ?_; intro v67 w67 ho hb hg hat; replace H62 := Aside0.mk (R_next (R_fresh H62.out _ 0 0) hg hat); have H67 := Aside0.mk ho; replace HB := Aside0.mk hb; clear ho hb hg hat)
            | (at_builtin; refine app_rows (w0 := wb) rfl (.tmp 67) (.tmp 68) _ rfl Try.underlying65 infoR v67 ([] ++ out.take k) L2 A62 L2.length c62 _ rfl rfl H67.out (R_rows' H62.out).2.2 (fun _ h => h.1) HB.out (by simp; omega) ?_; intro v69 w69 ho hb hg hat; have H69 := Aside0.mk ho; replace HB := Aside0.mk hb; clear ho hb hg hat))
          go_roundw
          case rel => exact ⟨i + 1, by go_num, by omega, ⟨by rw [HNX.out, HIN.out, ← HL2.out]; exact H69.out⟩, HB⟩
          case measure => simp [intOf]; omega
    · have HN : Aside0 (orbitS p n l x = out) := ⟨by rw [HE.out, List.take_of_length_le (by omega)]⟩
      go_wp2
      go_ret
      exact ⟨_, rfl, by rw [HN.out]; exact Kd.R_lower HO.out (by omega), below_step HWB.out HB.out⟩
end Go.Proofs.Ytbenhcognapdpaa
