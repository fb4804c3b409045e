/- Own texts of this claim, in one file: Com, Com2, Law4, Law5, Law6, Law7, Law8. -/
import Derived.Test.YtbenhcognapdpaaGreatKR9b
import Derived.Test.YtbenhcognapdpaaGreatKR9m
import Derived.Test.YtbenhcognapdpaaGreatKR9n
import Derived.Test.YtbenhcognapdpaaGreatKR9g
import Derived.Deep.MidRow
import Derived.Test.YtbenhcognapdpaaGreatKR9j
/- Walks: the number of different lists of values, in the program. -/
set_option linter.unusedVariables false
set_option linter.unusedSimpArgs false
namespace Go.Proofs.YtbenhcognapdpaaGreat
open Go.RowKit Go.Proofs.YtbenhcognapdpaaGreatW.PrintWords Go.Proofs.YtbenhcognapdpaaGreatW.PrintLast Lin

set_option maxRecDepth 100000 in
set_option maxHeartbeats 2000000 in
theorem told_calls (p : Int) (n : Nat) (A : Option Addr) (q c : Nat) (ps : List Pv) (A1 : Option Addr) (q1 c1 : Nat) (pts : List (List Int)) (w : World) (hr : kP.C w A q ps) (hf : ForP p n ps) (hr1 : kR.C w A1 q1 pts) (hx : ∀ x ∈ pts, Pt p n x)
    (hl : ps.length ≤ 8) (h1 : 1 ≤ pts.length) (h4 : pts.length ≤ 400) :
    Calls Tryz.prog 90 #[.slice A q c, .slice A1 q1 c1] w fun e w' => ∃ (A2 : Option Addr) (c2 : Nat) (zs : List (List Int)), e = .returned (.slice A2 zs.length c2) ∧ (Sorted zs ∧ ∀ r, r ∈ zs ↔ r ∈ pts.map (valsV ps)) ∧ Below w.heap.size w w' := by
  obtain rfl := Kd.C_len hr1
  have HR := Aside0.mk hr
  have HR1 := Aside0.mk hr1
  have HF := Aside0.mk hf
  have HX := Aside0.mk hx
  clear hr hr1 hf hx
  go_enter Tryz.func90, Tryz.ntmps90
  go_wp2
  go_loopw [5, 11] (fun v5 v11 wr => ∃ i : Nat, v11 = .int .i64 i ∧ i ≤ pts.length ∧ Aside0 (kR.R 84 wr w.heap.size (fun _ => True) v5 ((pts.take i).map (valsV ps))) ∧ Aside0 (Below w.heap.size w wr)) (fun _ v11 _ => pts.length - (intOf v11).toNat)
  case atStart => exact ⟨0, rfl, by omega, ⟨R_lit0 kR _ _ _ (Nat.le_refl _)⟩, ⟨below_alloc (Below.refl _ _) _⟩⟩
  case round =>
    obtain ⟨i, rfl, hi, HO, HB⟩ := hrel
    by_cases hlt : i < pts.length
    · obtain ⟨ad, A4, c4, x, hrr, rfl, hc, hrc, hC⟩ := at_row (Kd.C_below HR1.out HB.out) i hlt
      have HNX : Aside0 ((pts.take (i + 1)).map (valsV ps) = (pts.take i).map (valsV ps) ++ [valsV ps x]) := ⟨by rw [take_succ_ntR pts i hlt, List.map_append, ← hrr]; rfl⟩
      have HK := Aside0.mk (values_calls p n A q c ps A4 x.length c4 x wr (Kd.C_below HR.out HB.out) HF.out hC (HX.out x (by rw [hrr]; exact ntR_mem pts i hlt)) hl)
      clear hC hrr
      obtain ⟨out, hout⟩ : ∃ out, out = (pts.take i).map (valsV ps) := ⟨_, rfl⟩
      have hol : out.length ≤ 400 := by rw [hout, List.length_map, List.length_take]; omega
      rw [← hout] at HO HNX
      clear hout
      obtain ⟨own, hown⟩ : ∃ own, own = valsV ps x := ⟨_, rfl⟩
      rw [← hown] at HK HNX
      clear hown
      obtain ⟨A5, c5, rfl, hc5, hC5⟩ := Kd.R_reads HO.out
      clear hC5
      have hd3 : decide ((i : Int) < pts.length) = true := decide_eq_true (by omega)
      go_wp2_with (first
        | (go_at_call 92; refine HK.out.mono ?_; rintro e w5 ⟨v23, rfl, ho, hb⟩; obtain ⟨A23, c23, rfl⟩ := Kd.R_slice ho; have HP := Aside0.mk (Kd.R_lower (Kd.R_mono (Kd.R_newR ho HO.out) (fun _ h => h.2)) HB.out.size); replace HO := Aside0.mk (Kd.R_below HO.out hb); replace HB := Aside0.mk (below_step HB.out hb); clear ho hb)
        | (at_builtin; go_must (refine app_row (w0 := w) rfl (.tmp 15) (.tmp 19) _ rfl Tryz.underlying41 infoR (.slice A5 out.length c5) out (.slice A23 own.length c23) own rfl rfl HP.out HO.out HB.out (by omega) ?_); intro v9 w9 ho hb _ _; have H9 := Aside0.mk ho; replace HB := Aside0.mk hb; clear ho hb))
      go_roundw
      case rel => exact ⟨i + 1, by go_num, by omega, ⟨by rw [HNX.out]; exact H9.out⟩, HB⟩
      case measure => simp [intOf]; omega
    · obtain rfl : i = pts.length := by omega
      rw [List.take_length] at HO
      obtain ⟨out, hout⟩ : ∃ out, out = pts.map (valsV ps) := ⟨_, rfl⟩
      have hol : 1 ≤ out.length ∧ out.length ≤ 400 := by rw [hout, List.length_map]; omega
      rw [← hout] at HO
      have HOUT := Aside0.mk hout
      clear hout
      obtain ⟨g, cap, rfl, hg1, hg2, cells, hcell⟩ := Kd.R_form HO.out (by omega)
      clear hcell hg2
      have HBS := Aside0.mk HB.out.size
      go_wp2_with (first
        | (go_at_call 132; refine (sortRows_calls HO.out (by omega) HBS.out).mono ?_; rintro e w5 ⟨rfl, ys, hperm, hpw, hR, hb⟩; have HY := Aside0.mk hR; have HPW := Aside0.mk hpw; have HPM := Aside0.mk hperm; replace HB := Aside0.mk (HB.out.trans hb); clear hR hpw hperm hb)
        | (go_at_call 171; refine (compactFunc_calls HY.out HPW.out (by omega)).mono ?_; rintro e w6 ⟨zs, rfl, hs, hmem, hC, hb⟩; have HZ := Aside0.mk (And.intro hs hmem); replace HB := Aside0.mk (HB.out.trans hb); clear hs hmem hC hb))
      go_ret
      exact ⟨_, _, zs, rfl, ⟨HZ.out.1, fun r => by rw [HZ.out.2 r, HPM.out.mem_iff, HOUT.out]⟩, HB.out⟩
/-- What both programs answer. -/
noncomputable def commonR (p n : Int) (l : List (List Int)) (ps : List Pv) : Int × Int :=
  if sepC p n l ps = 0 then (((metL ((ptsS p.toNat n.toNat).map (valsV ps))).length : Nat), 0) else (0, sepC p n l ps)
theorem sep_zero {p n : Int} {l : List (List Int)} {ps : List Pv} (h : sepC p n l ps = 0) : GrpOk p n l ∧ ps.all polB = true ∧ likesB ps = true ∧ fitB p n ps = true ∧ fewB p.toNat n.toNat = true := by
  unfold sepC at h
  split at h
  · rename_i h1
    split at h
    · rename_i h2
      split at h
      · rename_i h3
        exact ⟨grpB_iff.1 h1.1, h1.2, h2.1, h2.2, h3⟩
      · cases h
    · cases h
  · cases h
theorem forP_of {p : Int} {n : Nat} {ps : List Pv} (h1 : ps.all polB = true) (h2 : likesB ps = true) (h3 : fitB p n ps = true) (ht : ∀ P ∈ ps, IsPv P) (hs : ∀ P ∈ ps, P.2.2.length ≤ 1048576) : ForP p n ps ∧ ps.length ≤ 8 := by
  unfold likesB at h2
  rw [Bool.and_eq_true, List.all_eq_true] at h2
  rw [List.all_eq_true] at h1
  refine ⟨fun P hP => ?_, of_decide_eq_true h2.2⟩
  have hne : ¬ ps.length = 0 := fun e => by rw [List.eq_nil_of_length_eq_zero e] at hP; cases hP
  unfold fitB at h3
  rw [decide_eq_false hne, Bool.false_or, Bool.and_eq_true, beq_iff_eq, beq_iff_eq] at h3
  have hl := h2.1 P hP
  unfold likeB at hl
  rw [Bool.and_eq_true, beq_iff_eq, beq_iff_eq] at hl
  exact ⟨polyB_iff.1 (h1 P hP), hl.1.trans h3.1, hl.2.trans h3.2, hs P hP, ht P hP⟩
set_option maxRecDepth 100000 in
set_option maxHeartbeats 2000000 in
theorem implCommon_calls (p n : Int) (A : Option Addr) (q c : Nat) (l : List (List Int)) (A1 : Option Addr) (q1 c1 : Nat) (ps : List Pv) (w : World) (hr : kM.C w A q l) (hl : ∀ m ∈ l, IsM m) (hr1 : kP.C w A1 q1 ps) (ht : ∀ P ∈ ps, IsPv P) (hs : ∀ P ∈ ps, P.2.2.length ≤ 1048576) :
    Calls Tryz.prog 35 #[.agg #[.int .i64 p, .int .i64 n, .slice A q c], .slice A1 q1 c1] w fun e w' => e = .returned (.tuple #[.int .i64 (commonR p n l ps).1, .int .i64 (commonR p n l ps).2]) ∧ Below w.heap.size w w' := by
  obtain rfl := Kd.C_len hr1
  have HR1 := Aside0.mk hr1
  have hbox := below_alloc (Below.refl w.heap.size w) (.cells #[.int .i64 p, .int .i64 n, .slice A q c] 37)
  have HB := Aside0.mk hbox
  have HKS := Aside0.mk (separationCode_calls p n A q c l A1 ps.length c1 ps _ (Kd.C_below hr hbox) hl (Kd.C_below hr1 hbox) ht)
  have H1 := Blk.new w #[.int .i64 p, .int .i64 n, .slice A q c] 37
  by_cases hz : sepC p n l ps = 0
  · obtain ⟨hok, hpb, hlb, hfb, hfw⟩ := sep_zero hz
    have hP := primeB_iff.1 hok.prime
    have hpp := hP.pos
    have hvv : 1 ≤ n ∧ n ≤ 3 := of_decide_eq_true hok.vars
    obtain ⟨n, rfl⟩ : ∃ k : Nat, n = k := ⟨n.toNat, by omega⟩
    obtain ⟨P, rfl⟩ : ∃ k : Nat, p = k := ⟨p.toNat, by omega⟩
    obtain ⟨hfp, h8⟩ := forP_of hpb hlb hfb ht hs
    have HFP := Aside0.mk hfp
    have HZ0 := Aside0.mk hz
    have HN : Aside0 (∀ zs : List (List Int), Sorted zs → (∀ r, r ∈ zs ↔ r ∈ (ptsI P n).map (valsV ps)) → commonR P n l ps = ((zs.length : Int), 0)) := ⟨fun zs h1 h2 => by
      unfold commonR
      rw [if_pos hz, Int.toNat_natCast, Int.toNat_natCast, metL_len ((pts_perm (by omega) n).map _) h1 h2]⟩
    have HPT : Aside0 (∀ x ∈ ptsI P n, Pt P n x) := ⟨fun x hx => (ptsI_mem (by omega) n x).1 hx⟩
    have hpl : 1 ≤ (ptsI P n).length ∧ (ptsI P n).length ≤ 400 := by
      rw [ptsI_len]
      exact ⟨Nat.pow_pos (by omega), of_decide_eq_true (by simpa [fewB] using hfw)⟩
    rw [hz] at HKS
    rw [Int.toNat_natCast, Int.toNat_natCast] at HKS
    clear hz hok hpb hlb hfb hfw hP hfp hr hl hr1 hbox ht hs
    obtain ⟨pts, hpts⟩ : ∃ pts, pts = ptsI P n := ⟨_, rfl⟩
    rw [← hpts] at HKS HN HPT hpl
    clear hpts
    go_enter Tryz.func35, Tryz.ntmps35
    go_wp2_with (first
      | (refine load_blk rfl _ 2 rfl H1 rfl _ Tryz.underlying37 rfl sizeG ?_)
      | (go_at_call 89; refine HKS.out.mono ?_; rintro e w1 ⟨v, rfl, ho, hb⟩; obtain ⟨A2, c2, rfl, hc2, hC2⟩ := ho rfl; have HC2 := Aside0.mk hC2; replace HB := Aside0.mk (below_step HB.out hb); clear hb ho hC2)
      | (go_at_call 90; refine (told_calls P n A1 ps.length c1 ps A2 pts.length c2 pts _ (Kd.C_below HR1.out HB.out) HFP.out HC2.out HPT.out h8 hpl.1 hpl.2).mono ?_; rintro e w2 ⟨A3, c3, zs, rfl, hzs, hb⟩; have HZ := Aside0.mk hzs; replace HB := Aside0.mk (below_step HB.out hb); clear hb hzs))
    refine bodyPost_ret (results_tmp2 rfl _ _ _) rfl ?_
    exact ⟨by rw [HN.out zs HZ.out.1 HZ.out.2]; rfl, HB.out⟩
  · have HN : Aside0 (commonR p n l ps = (0, sepC p n l ps)) := ⟨by unfold commonR; rw [if_neg hz]⟩
    obtain ⟨z, hzz⟩ : ∃ z, z = sepC p n l ps := ⟨_, rfl⟩
    rw [← hzz] at HKS HN hz
    have hb : (z != 0) = true := by simpa using hz
    clear hz hzz hr hl hr1 hbox ht hs
    go_enter Tryz.func35, Tryz.ntmps35
    go_wp2_with (first
      | (refine load_blk rfl _ 2 rfl H1 rfl _ Tryz.underlying37 rfl sizeG ?_)
      | (go_at_call 89; refine HKS.out.mono ?_; rintro e w1 ⟨v, rfl, ho, hb⟩; replace HB := Aside0.mk (below_step HB.out hb); clear hb ho))
    refine bodyPost_ret (results_tmp2 rfl _ _ _) rfl ?_
    exact ⟨by rw [HN.out]; rfl, HB.out⟩
end Go.Proofs.YtbenhcognapdpaaGreat
/- Walk: the number of different lists of values, in the specification. -/
set_option linter.unusedVariables false
set_option linter.unusedSimpArgs false
namespace Go.Proofs.YtbenhcognapdpaaGreat
open Go.RowKit Go.Proofs.YtbenhcognapdpaaGreatW.PrintWords Go.Proofs.YtbenhcognapdpaaGreatW.PrintLast Lin

theorem l09Same_is (A : Option Addr) (n c : Nat) (a : List Int) (A' : Option Addr) (n' c' : Nat) (b : List Int) (w : World) (hr : kI.C w A n a) (hr' : kI.C w A' n' b) (hl : n = n') {t : Bool} (h : sameB a b = t) :
    Calls Tryz.prog 88 #[.slice A n c, .slice A' n' c'] w fun e w' => e = .returned (.bool t) ∧ Drawn0 w w' := by
  rw [← h]
  exact l09Same_calls A n c a A' n' c' b w hr hr' hl
set_option maxRecDepth 100000 in
set_option maxHeartbeats 4000000 in
theorem specCommon_calls (p n : Int) (A : Option Addr) (q c : Nat) (l : List (List Int)) (A1 : Option Addr) (q1 c1 : Nat) (ps : List Pv) (w : World) (hr : kM.C w A q l) (hl : ∀ m ∈ l, IsM m) (hr1 : kP.C w A1 q1 ps) (ht : ∀ P ∈ ps, IsPv P) (hs : ∀ P ∈ ps, P.2.2.length ≤ 1048576) :
    Calls Tryz.prog 34 #[.agg #[.int .i64 p, .int .i64 n, .slice A q c], .slice A1 q1 c1] w fun e w' => e = .returned (.tuple #[.int .i64 (commonR p n l ps).1, .int .i64 (commonR p n l ps).2]) ∧ Below w.heap.size w w' := by
  obtain rfl := Kd.C_len hr1
  have HR1 := Aside0.mk hr1
  have hbox := below_alloc (Below.refl w.heap.size w) (.cells #[.int .i64 p, .int .i64 n, .slice A q c] 37)
  have HB := Aside0.mk hbox
  have HKS := Aside0.mk (l09Code_calls p n A q c l A1 ps.length c1 ps _ (Kd.C_below hr hbox) hl (Kd.C_below hr1 hbox) ht)
  have H1 := Blk.new w #[.int .i64 p, .int .i64 n, .slice A q c] 37
  by_cases hz : sepC p n l ps = 0
  · obtain ⟨hok, hpb, hlb, hfb, hfw⟩ := sep_zero hz
    have hP := primeB_iff.1 hok.prime
    have hpp := hP.pos
    have hvv : 1 ≤ n ∧ n ≤ 3 := of_decide_eq_true hok.vars
    obtain ⟨n, rfl⟩ : ∃ k : Nat, n = k := ⟨n.toNat, by omega⟩
    obtain ⟨P, rfl⟩ : ∃ k : Nat, p = k := ⟨p.toNat, by omega⟩
    obtain ⟨hfp, h8⟩ := forP_of hpb hlb hfb ht hs
    have HFP := Aside0.mk hfp
    have HN : Aside0 (commonR P n l ps = ((((metL ((ptsS P n).map (valsV ps))).length : Nat) : Int), 0)) := ⟨by
      unfold commonR
      rw [if_pos hz, Int.toNat_natCast, Int.toNat_natCast]⟩
    have HPT : Aside0 (∀ x ∈ ptsS P n, Pt P n x) := ⟨fun x hx => (ptsS_mem n x).1 hx⟩
    have hpl : (ptsS P n).length ≤ 400 := by
      rw [ptsS_len]
      exact of_decide_eq_true (by simpa [fewB] using hfw)
    rw [hz] at HKS
    rw [Int.toNat_natCast, Int.toNat_natCast] at HKS
    clear hz hok hpb hlb hfb hfw hP hfp hr hl hr1 hbox ht hs
    obtain ⟨pts, hpts⟩ : ∃ pts, pts = ptsS P n := ⟨_, rfl⟩
    rw [← hpts] at HKS HN HPT hpl
    clear hpts
    go_enter Tryz.func34, Tryz.ntmps34
    go_wp2_with (first
      | (refine load_blk rfl _ 2 rfl H1 rfl _ Tryz.underlying37 rfl sizeG ?_)
      | (go_at_call 86; refine HKS.out.mono ?_; rintro e w1 ⟨v, rfl, ho, hb⟩; obtain ⟨A2, c2, rfl, hc2, hC2⟩ := ho rfl; have HC2 := Aside0.mk hC2; replace HB := Aside0.mk (below_step HB.out hb); clear hb ho hC2))
    go_loopw [8, 9] (fun v8 v9 wr => ∃ i : Nat, v9 = .int .i64 i ∧ i ≤ pts.length ∧ Aside0 (kR.R 84 wr w1.heap.size (fun _ => True) v8 (metL ((pts.take i).map (valsV ps)))) ∧ Aside0 (Below w1.heap.size w1 wr)) (fun _ v9 _ => pts.length - (intOf v9).toNat)
    case atStart => exact ⟨0, rfl, by omega, ⟨R_lit0 kR _ _ _ (Nat.le_refl _)⟩, ⟨below_alloc (Below.refl _ _) _⟩⟩
    case round =>
      obtain ⟨i, rfl, hi, HO, HB2⟩ := hrel
      obtain ⟨wo, rfl⟩ : ∃ wo, wo = wr := ⟨_, rfl⟩
      by_cases hlt : i < pts.length
      · obtain ⟨ad, A4, c4, x, hrr, rfl, hc, hrc, hC⟩ := at_row (Kd.C_below HC2.out HB2.out) i hlt
        have HNX : Aside0 (metL ((pts.take (i + 1)).map (valsV ps)) = metIns (metL ((pts.take i).map (valsV ps))) (valsV ps x)) := ⟨by rw [take_succ_ntR pts i hlt, List.map_append, ← hrr]; exact metL_snoc _ _⟩
        have HK := Aside0.mk (l09Values_calls P n A1 ps.length c1 ps A4 x.length c4 x wo (Kd.C_below HR1.out (below_step HB.out HB2.out)) HFP.out hC (HPT.out x (by rw [hrr]; exact ntR_mem pts i hlt)) h8)
        have hol : (metL ((pts.take i).map (valsV ps))).length ≤ 400 := by have := metL_le ((pts.take i).map (valsV ps)); rw [List.length_map, List.length_take] at this; omega
        have HRL : Aside0 (∀ r ∈ metL ((pts.take i).map (valsV ps)), r.length = (valsV ps x).length) := ⟨fun r hr => by
          obtain ⟨y, _, rfl⟩ := List.mem_map.1 (metL_mem.1 hr)
          rw [valsV_len, valsV_len]⟩
        clear hC hrr
        obtain ⟨met, hmet⟩ : ∃ met, met = metL ((pts.take i).map (valsV ps)) := ⟨_, rfl⟩
        rw [← hmet] at HO HNX hol HRL
        clear hmet
        obtain ⟨own, hown⟩ : ∃ own, own = valsV ps x := ⟨_, rfl⟩
        rw [← hown] at HK HNX HRL
        clear hown
        obtain ⟨A5, c5, rfl, hc5, hC5⟩ := Kd.R_reads HO.out
        clear hC5
        have hd3 : decide ((i : Int) < pts.length) = true := decide_eq_true (by omega)
        go_wp2_with ((go_at_call 87; refine HK.out.mono ?_; rintro e w5 ⟨v23, rfl, ho, hb⟩; obtain ⟨A23, c23, rfl⟩ := Kd.R_slice ho; have HP := Aside0.mk (Kd.R_lower (Kd.R_mono (Kd.R_newR ho HO.out) (fun _ h => h.2)) HB2.out.size); have HO5 := Aside0.mk (Kd.R_below HO.out hb); have HB5 := Aside0.mk (below_step HB2.out hb); clear ho hb))
        go_loopw [11, 12] (fun v11 v12 wr => ∃ (k : Nat) (b : Bool), v12 = .int .i64 k ∧ v11 = .bool b ∧ k ≤ met.length ∧ Aside0 ((b = true → own ∈ met) ∧ (b = false → ∀ j < k, ntR met j ≠ own)) ∧ Drawn0 w5 wr) (fun v11 v12 _ => met.length - (intOf v12).toNat)
        case atStart => exact ⟨0, false, rfl, rfl, by omega, ⟨(fun h => by cases h), fun _ j hj => by omega⟩, Drawn0.refl _⟩
        case round =>
          obtain ⟨k, b, rfl, rfl, hk, HE, ⟨m0, rfl⟩⟩ := hrel
          have hbel := (show Drawn0 w5 (w5.drewN m0) from ⟨m0, rfl⟩).below
          have HP2 := Aside0.mk (Kd.R_below HP.out hbel)
          have HO6 := Aside0.mk (Kd.R_below HO5.out hbel)
          have HB6 := Aside0.mk (below_step HB5.out hbel)
          clear hbel
          by_cases hkl : k < met.length
          · have hd4 : decide ((k : Int) < met.length) = true := decide_eq_true (by omega)
            cases b
            · obtain ⟨ad5, A6, c6, r, hrk, rfl, hc5k, hc6, hC6⟩ := at_row (Kd.R_reads' HO6.out).2.2 k hkl
              have HC6 := Aside0.mk hC6
              have HCO := Aside0.mk (Kd.R_reads' HP2.out).2.2
              have HRL2 : Aside0 (r.length = own.length) := ⟨by rw [hrk]; exact HRL.out _ (ntR_mem met k hkl)⟩
              have HRK := Aside0.mk hrk
              clear hC6 hrk
              cases hsb : sameB r own
              · have HSB := Aside0.mk hsb
                have HE2 : Aside0 (∀ j < k + 1, ntR met j ≠ own) := ⟨fun j hj => by
                  rcases Nat.lt_succ_iff_lt_or_eq.1 hj with h | h
                  · exact HE.out.2 rfl j h
                  · subst h; rw [← HRK.out]; exact of_decide_eq_false HSB.out⟩
                clear hsb
                go_wp2_with ((go_at_call 88; refine (l09Same_is A6 r.length c6 r A23 own.length c23 own _ HC6.out HCO.out HRL2.out HSB.out).mono ?_; rintro e w7 ⟨rfl, ⟨m2, rfl⟩⟩))
                go_roundw
                case rel => exact ⟨k + 1, false, by go_num, rfl, by omega, ⟨(fun h => by cases h), fun _ => HE2.out⟩, (by repeat (first | exact Drawn0.refl _ | apply Drawn0.step))⟩
                case measure => simp [intOf]; omega
              · have HSB := Aside0.mk hsb
                have HE2 : Aside0 (own ∈ met) := ⟨by rw [← show r = own from of_decide_eq_true HSB.out, HRK.out]; exact ntR_mem met k hkl⟩
                clear hsb
                go_wp2_with ((go_at_call 88; refine (l09Same_is A6 r.length c6 r A23 own.length c23 own _ HC6.out HCO.out HRL2.out HSB.out).mono ?_; rintro e w7 ⟨rfl, ⟨m2, rfl⟩⟩))
                go_roundw
                case rel => exact ⟨k + 1, true, by go_num, rfl, by omega, ⟨fun _ => HE2.out, fun h => by cases h⟩, (by repeat (first | exact Drawn0.refl _ | apply Drawn0.step))⟩
                case measure => simp [intOf]; omega
            ·
              have HMI : Aside0 (metIns met own = met) := ⟨by unfold metIns; rw [if_pos (HE.out.1 rfl)]⟩
              go_wp2
              go_roundw
              case rel => exact ⟨i + 1, by go_num, by omega, ⟨by rw [HNX.out, HMI.out]; exact HO6.out⟩, HB6⟩
              case measure => simp [intOf]; omega
          · have hd4 : decide ((k : Int) < met.length) = false := decide_eq_false (by omega)
            cases b
            · have HMI : Aside0 (metIns met own = met ++ [own]) := ⟨by
                unfold metIns
                rw [if_neg (fun hm => by
                  obtain ⟨j, hj, e⟩ := List.mem_iff_getElem.1 hm
                  exact HE.out.2 rfl j (by omega) (by rw [ntR_eq met j hj]; exact e))]⟩
              go_wp2_with ((at_builtin; go_must (refine app_row (w0 := w1) rfl (.tmp 53) (.tmp 55) _ rfl Tryz.underlying41 infoR (.slice A5 met.length c5) met (.slice A23 own.length c23) own rfl rfl HP2.out HO6.out HB6.out (by omega) ?_); intro v9 w9 ho hb _ _; have H9 := Aside0.mk ho; have HB9 := Aside0.mk hb; clear ho hb))
              go_roundw
              case rel => exact ⟨i + 1, by go_num, by omega, ⟨by rw [HNX.out, HMI.out]; exact H9.out⟩, HB9⟩
              case measure => simp [intOf]; omega
            ·
              have HMI : Aside0 (metIns met own = met) := ⟨by unfold metIns; rw [if_pos (HE.out.1 rfl)]⟩
              go_wp2
              go_roundw
              case rel => exact ⟨i + 1, by go_num, by omega, ⟨by rw [HNX.out, HMI.out]; exact HO6.out⟩, HB6⟩
              case measure => simp [intOf]; omega
      · obtain rfl : i = pts.length := by omega
        rw [List.take_length] at HO
        obtain ⟨A5, c5, rfl, hc5, hC5⟩ := Kd.R_reads HO.out
        clear hC5
        go_wp2
        refine bodyPost_ret (results_tmp2 rfl _ _ _) rfl ?_
        exact ⟨by rw [HN.out]; rfl, below_step HB.out HB2.out⟩
  · have HN : Aside0 (commonR p n l ps = (0, sepC p n l ps)) := ⟨by unfold commonR; rw [if_neg hz]⟩
    obtain ⟨z, hzz⟩ : ∃ z, z = sepC p n l ps := ⟨_, rfl⟩
    rw [← hzz] at HKS HN hz
    have hb : (z != 0) = true := by simpa using hz
    clear hz hzz hr hl hr1 hbox ht hs
    go_enter Tryz.func34, Tryz.ntmps34
    go_wp2_with (first
      | (refine load_blk rfl _ 2 rfl H1 rfl _ Tryz.underlying37 rfl sizeG ?_)
      | (go_at_call 86; refine HKS.out.mono ?_; rintro e w1 ⟨v, rfl, ho, hb⟩; replace HB := Aside0.mk (below_step HB.out hb); clear hb ho))
    refine bodyPost_ret (results_tmp2 rfl _ _ _) rfl ?_
    exact ⟨by rw [HN.out]; rfl, HB.out⟩
end Go.Proofs.YtbenhcognapdpaaGreat
/- Walks: the laws' copies of matrices. -/
set_option linter.unusedVariables false
set_option linter.unusedSimpArgs false
namespace Go.Proofs.YtbenhcognapdpaaGreat
open Go.RowKit Go.Proofs.YtbenhcognapdpaaGreatW.PrintWords Go.Proofs.YtbenhcognapdpaaGreatW.PrintLast Lin

theorem ret_a3 {fn : Func} {p : Tmp} (h : fn.results = #[.cell p 82]) {R : Ending → World → Prop} {a : Act} {w : World} {g t : Nat} {m : List Int} (H : Blk w g t (mcells m)) (hm : m.length = 3) (hp : a.tmps.getD p undef = .pointer (some ⟨g, 0, none⟩)) (hd : a.defers = [])
    (hR : R (.returned (.agg (mcells m))) w) : bodyPost Tryz.prog fn R .ret a w :=
  ⟨hd, _, results_cell_row h a.tmps w g t (mcells m) (0, 0) _ hp H Tryz.underlying82 rfl (size73_of hm), hR⟩
theorem set_upto {a o : List Int} {k : Nat} (hk : k < o.length) (h : ∀ j < k, nt o j = nt a j) : ∀ j < k + 1, nt (o.set k (nt a k)) j = nt a j := by
  intro j hj
  rw [nt_set hk]
  split
  · rename_i e; rw [e]
  · exact h j (by omega)
theorem a3_done {a o : List Int} (ha : a.length = 3) (ho : o.length = 3) (h : ∀ j < 3, nt o j = nt a j) : o = a := row_ext (by omega) (fun j hj => h j (by omega))
set_option maxRecDepth 100000 in
set_option maxHeartbeats 400000 in
theorem toByteA3_calls (a : List Int) (w : World) (ha : a.length = 3) :
    Calls Tryz.prog 200 #[.agg (mcells a)] w fun e w' => e = .returned (.agg (mcells a)) ∧ Below w.heap.size w w' := by
  go_enter Tryz.func200, Tryz.ntmps200
  go_wp2
  go_loopw [4] (fun v wr => ∃ (k : Nat) (o : List Int), v = .int .i64 k ∧ k ≤ 3 ∧ o.length = 3 ∧ Aside0 (∀ j < k, nt o j = nt a j) ∧ Blk wr w.heap.size 82 (mcells a) ∧ Blk wr (w.heap.size + 1) 82 (mcells [0, 0, 0]) ∧ Blk wr (w.heap.size + 1 + 1) 82 (mcells o) ∧ Aside0 (Below w.heap.size w wr)) (fun v _ => 3 - (intOf v).toNat)
  case atStart => exact ⟨0, [0, 0, 0], rfl, by omega, rfl, ⟨fun j hj => by omega⟩, ((Blk.new _ _ _).alloc _).alloc _, (Blk.new1 _ _ _ _).alloc _, Blk.new2 _ _ _ _ _, ⟨below_alloc (below_alloc (below_alloc (Below.refl _ _) _) _) _⟩⟩
  case round =>
    obtain ⟨k, o, rfl, hk, ho, HZ, H1, H2, H3, HB⟩ := hrel
    by_cases hlt : k < 3
    · have c1 := H1.cell k (mcells_get a k (by omega))
      have c3 := H3.cell k (mcells_get o k (by omega))
      have f3 := H3.frozen k
      have hd3 : decide ((k : Int) < 3) = true := decide_eq_true (by omega)
      have hk3 : (k : Int) < 3 := by omega
      go_wp2
      go_roundw
      case rel => exact ⟨k + 1, o.set k (nt a k), by go_num, by omega, by simp [ho], ⟨set_upto (by omega) HZ.out⟩, H1.far (by dsimp only; omega) _, H2.far (by dsimp only; omega) _, by rw [← mcells_set]; exact H3.set _ _, ⟨HB.out.setCell (by dsimp only; omega) _⟩⟩
      case measure => simp [intOf]; omega
    · obtain rfl : o = a := a3_done ha ho (fun j hj => HZ.out j (by omega))
      go_wp2_with (first
        | (refine load_blk rfl _ 3 rfl H3 rfl _ Tryz.underlying82 rfl (size73_of ho) ?_)
        | (refine store_blk rfl _ 2 _ rfl H2 rfl rfl (size73_of ho) (by rw [mcells_size, mcells_size, ho]; rfl) (mcells_one _) ?_))
      refine ret_a3 (p := 2) rfl (H2.setRow _) ho rfl rfl ⟨rfl, below_setRow HB.out (by omega) _⟩
end Go.Proofs.YtbenhcognapdpaaGreat
/- Walks: the laws' copies of whole matrices. -/
set_option linter.unusedVariables false
set_option linter.unusedSimpArgs false
namespace Go.Proofs.YtbenhcognapdpaaGreat
open Go.RowKit Go.Proofs.YtbenhcognapdpaaGreatW.PrintWords Go.Proofs.YtbenhcognapdpaaGreatW.PrintLast Lin

theorem rowM_lit {m : List Int} (hm : m.length = 9) {i : Nat} (hi : i < 3) : rowM m i = [nt m (i * 3), nt m (i * 3 + 1), nt m (i * 3 + 2)] := by
  refine row_ext (by rw [rowM_len hm hi]; rfl) fun j hj => ?_
  rw [rowM_len hm hi] at hj
  rw [rowM_nt hm hi hj]
  obtain rfl | rfl | rfl : j = 0 ∨ j = 1 ∨ j = 2 := by omega
  all_goals rfl
theorem Blk.there {w : World} {g t : Nat} {m : List Int} (H : Blk w g t (mcells m)) {o n : Nat} (h : o + n ≤ m.length) : w.there g o n := fun j hj => ⟨by rw [H.cell (o + j) (mcells_get m _ (by omega))]; rfl, H.frozen _⟩
theorem Blk.set3 {w : World} {g t : Nat} {m : List Int} (H : Blk w g t (mcells m)) (o : Nat) (x y z : Int) : Blk (w.setCells g o (mcells [x, y, z]).toList) g t (mcells (((m.set o x).set (o + 1) y).set (o + 2) z)) := by
  rw [← mcells_set, ← mcells_set, ← mcells_set]
  exact ((H.set _ _).set _ _).set _ _
theorem Blk.far3 {w : World} {g t : Nat} {cs : Array Value} (H : Blk w g t cs) {b : Nat} (h : g ≠ b) (o : Nat) (x y z : Int) : Blk (w.setCells b o (mcells [x, y, z]).toList) g t cs :=
  ((H.far (p := ⟨b, o, none⟩) h _).far (p := ⟨b, o + 1, none⟩) h _).far (p := ⟨b, o + 1 + 1, none⟩) h _
theorem below_set3 {B : Nat} {a w : World} (H : Below B a w) {b : Nat} (h : B ≤ b) (o : Nat) (x y z : Int) : Below B a (w.setCells b o (mcells [x, y, z]).toList) :=
  ((H.setCell (p := ⟨b, o, none⟩) h _).setCell (p := ⟨b, o + 1, none⟩) h _).setCell (p := ⟨b, o + 1 + 1, none⟩) h _
theorem m9_done {a o : List Int} (ha : a.length = 9) (ho : o.length = 9) (h : ∀ j < 9, nt o j = nt a j) : o = a := row_ext (by omega) (fun j hj => h j (by omega))

set_option maxRecDepth 100000 in
set_option maxHeartbeats 1000000 in
theorem toMatrix_calls (m : List Int) (w : World) (hm : m.length = 9) :
    Calls Tryz.prog 127 #[.agg (mcells m)] w fun e w' => e = .returned (.agg (mcells m)) ∧ Below w.heap.size w w' := by
  go_enter Tryz.func127, Tryz.ntmps127
  go_wp2
  go_loopw [4] (fun v wr => ∃ (k : Nat) (o : List Int), v = .int .i64 k ∧ k ≤ 3 ∧ o.length = 9 ∧ Aside0 (∀ j < k * 3, nt o j = nt m j) ∧ Blk wr w.heap.size 137 (mcells m) ∧ Blk wr (w.heap.size + 1) 138 (mcells [0, 0, 0, 0, 0, 0, 0, 0, 0]) ∧ Blk wr (w.heap.size + 1 + 1) 138 (mcells o) ∧ Aside0 (Below w.heap.size w wr)) (fun v _ => 3 - (intOf v).toNat)
  case atStart => exact ⟨0, [0, 0, 0, 0, 0, 0, 0, 0, 0], rfl, by omega, rfl, ⟨fun j hj => by omega⟩, ((Blk.new _ _ _).alloc _).alloc _, (Blk.new1 _ _ _ _).alloc _, Blk.new2 _ _ _ _ _, ⟨below_alloc (below_alloc (below_alloc (Below.refl _ _) _) _) _⟩⟩
  case round =>
    obtain ⟨k, o, rfl, hk, ho, HZ, H1, H2, H3, HB⟩ := hrel
    by_cases hlt : k < 3
    · have hd3 : decide ((k : Int) < 3) = true := decide_eq_true (by omega)
      have hk3 : (k : Int) < 3 := by omega
      have HA := Aside0.mk (H1.row hm hlt)
      have HK := Aside0.mk (fun W => toByteA3_calls (rowM m k) W (rowM_len hm hlt))
      have hsz := size73_of (rowM_len hm hlt)
      rw [rowM_lit hm hlt] at HA HK hsz
      have HZ2 : Aside0 (∀ j < (k + 1) * 3, nt (((o.set (k * 3) (nt m (k * 3))).set (k * 3 + 1) (nt m (k * 3 + 1))).set (k * 3 + 2) (nt m (k * 3 + 2))) j = nt m j) := ⟨by
        have h := set_upto (a := m) (by simp; omega) (set_upto (a := m) (by simp; omega) (set_upto (a := m) (k := k * 3) (by omega) HZ.out))
        intro j hj
        exact h j (by omega)⟩
      go_wp2_with (first
        | (refine load_agg rfl _ 11 rfl ⟨w.heap.size, k * 3, none⟩ HA.out rfl _ Tryz.underlying82 rfl hsz ?_)
        | (go_at_call 200; refine (HK.out _).mono ?_; rintro e w2 ⟨rfl, hb⟩; replace H1 := H1.keep hb; replace H2 := H2.keep hb; replace H3 := H3.keep hb; replace HB := Aside0.mk (below_step HB.out hb); clear hb)
        | (refine wpList_store_mid rfl _ (.tmp 14) (.tmp 13) rfl (w.heap.size + 1 + 1) (k * 3) (mcells [nt m (k * 3), nt m (k * 3 + 1), nt m (k * 3 + 2)]) rfl rfl (H3.there (by simp [mcells_size]; omega)) hsz (mcells_one _) ?_))
      go_roundw
      case rel => exact ⟨k + 1, _, by go_num, by omega, by simp [ho], HZ2, H1.far3 (by omega) _ _ _ _, H2.far3 (by omega) _ _ _ _, H3.set3 _ _ _ _, ⟨below_set3 HB.out (by omega) _ _ _ _⟩⟩
      case measure => simp [intOf]; omega
    · obtain rfl : o = m := m9_done hm ho (fun j hj => HZ.out j (by omega))
      go_wp2_with (first
        | (refine load_blk rfl _ 3 rfl H3 rfl _ Tryz.underlying138 rfl (sizeM_of ho) ?_)
        | (refine store_blk rfl _ 2 _ rfl H2 rfl rfl (sizeM_of ho) (by rw [mcells_size, mcells_size, ho]; rfl) (mcells_one _) ?_))
      refine ret_mat (p := 2) rfl (H2.setRow _) ho rfl rfl ⟨rfl, below_setRow HB.out (by omega) _⟩
end Go.Proofs.YtbenhcognapdpaaGreat
/- Walks: the laws' copies of lists of matrices and of groups. -/
set_option linter.unusedVariables false
set_option linter.unusedSimpArgs false
namespace Go.Proofs.YtbenhcognapdpaaGreat
open Go.RowKit Go.Proofs.YtbenhcognapdpaaGreatW.PrintWords Go.Proofs.YtbenhcognapdpaaGreatW.PrintLast Lin

def zero9 : List Int := [0, 0, 0, 0, 0, 0, 0, 0, 0]
def cpM (l : List (List Int)) (j : Nat) : List (List Int) := l.take j ++ List.replicate (l.length - j) zero9
theorem cpM_len (l : List (List Int)) (j : Nat) (h : j ≤ l.length) : (cpM l j).length = l.length := by simp [cpM]; omega
theorem cpM_zero (l : List (List Int)) : List.replicate l.length zero9 = cpM l 0 := by simp [cpM]
theorem cpM_set (l : List (List Int)) (j : Nat) (hj : j < l.length) : (cpM l j).set j (ntR l j) = cpM l (j + 1) := by
  unfold cpM
  rw [take_succ_ntR l j hj, List.set_append]
  rw [if_neg (by simp; omega), show l.length - j = (l.length - (j + 1)) + 1 by omega, List.replicate_succ]
  have : j - (l.take j).length = 0 := by rw [List.length_take]; omega
  rw [this, List.set_cons_zero, List.append_assoc]
  rfl
theorem cpM_done (l : List (List Int)) : cpM l l.length = l := by simp [cpM]
theorem infoM : (Tryz.prog.info? 138).map (fun i => (i.zero, i.size, i.bytes)) = some (some (.agg #[.int .u8 0, .int .u8 0, .int .u8 0, .int .u8 0, .int .u8 0, .int .u8 0, .int .u8 0, .int .u8 0, .int .u8 0]), 9, 9) := by kernel_rfl
theorem kM_of {w : World} {base : Nat} {ok : Nat → Prop} {m : List Int} (h : m.length = 9) : kM.M w base ok m (mcells m).toList := by
  have := Kd.arr_of_cells (n := 9) (enc := Value.int .u8) (h1 := fun _ => rfl) (hs := by decide) (w := w) (base := base) (ok := ok) h
  rw [show (mcells m).toList = encs (Value.int .u8) m by simp [mcells]]
  exact this
section
variable {P : Program} {ops : Array Oper} {rest : List Oper} {o : Oper} {a : Act} {Q : Exit → Act → World → Prop}
theorem make_mat {W : World} (hgd : o.guard = none) {N : Tmp} (hd : o.dst = some N) (t : TypeId) (x y : Operand) (ho : o.op = .makeSlice t x y) (n : Int) (hx : a.eval x = .int .i64 n) (hy : a.eval y = .int .i64 n)
    (ht : P.underlying t = some (.slice 138)) (hinfo : (P.info? 138).map (fun i => (i.zero, i.size, i.bytes)) = some (some (.agg #[.int .u8 0, .int .u8 0, .int .u8 0, .int .u8 0, .int .u8 0, .int .u8 0, .int .u8 0, .int .u8 0, .int .u8 0]), 9, 9)) (h0 : 0 ≤ n) (hl : n ≤ 1000000000)
    (h : ∀ v1 w1, kM.R 138 w1 W.heap.size (fun _ => True) v1 (List.replicate n.toNat zero9) → Below W.heap.size W w1 → wpList P ops Q rest (a.put o.dst v1) w1) : wpList P ops Q (o :: rest) a W :=
  Kd.R_make kM (w0 := W) W.heap.size 138 hgd hd t x y ho n hx hy ht (.agg #[.int .u8 0, .int .u8 0, .int .u8 0, .int .u8 0, .int .u8 0, .int .u8 0, .int .u8 0, .int .u8 0, .int .u8 0]) 9 hinfo rfl (by decide) (by omega) zero9 (ok := fun _ => True) (okp := fun _ => False) (kM_of (m := zero9) rfl) (fun _ h => h.elim) trivial h0 (by omega) (Below.refl _ _) (Nat.le_refl _) fun v1 w1 h1 h2 _ _ => h v1 w1 h1 h2
theorem store_mat {W w0 : World} {base : Nat} (hN : o.dst = none) (hgd : o.guard = none) (t : TypeId) (p x : Operand) (ho : o.op = .store t p x) {g n cap : Nat} (i : Nat) (xs : List (List Int)) (m : List Int) (hm : m.length = 9)
    (haddr : a.eval p = .pointer (some ⟨g, i * 9, none⟩)) (hx : a.eval x = .agg (mcells m)) (ht : (P.info? t).map (·.size) = some (mcells m).size)
    (HO : kM.R 138 W base (fun _ => True) (.slice (some ⟨g, 0, none⟩) n cap) xs) (hi : i < n) (HB : Below base w0 W)
    (h : ∀ w1, kM.R 138 w1 base (fun _ => True) (.slice (some ⟨g, 0, none⟩) n cap) (xs.set i m) → Below base w0 w1 → W.grownBy w1 (some g) → wpList P ops Q rest a w1) : wpList P ops Q (o :: rest) a W := by
  obtain ⟨c, hcl, _, hcc, _⟩ := Kd.R_elem HO [] (i : Int) (by omega) (by omega)
  have hl9 : (mcells m).toList.length = 9 := by simp [mcells_size, hm]
  have hk9 : kM.sz = 9 := rfl
  refine Kd.R_store kM base hN hgd t p x ho 138 (i : Int) 0 xs m (.agg (mcells m)) (mcells m).toList c (fun _ => True) (fun _ => False) haddr rfl hx rfl (by simpa using ht) ?_ HO (by omega) (by omega) hcl hcc (by rw [hl9, hk9]; omega) ?_ (fun _ h => h.elim) HB h
  · intro q hq
    have := mcells_one m
    rw [Array.all_eq_true_iff_forall_mem] at this
    exact this q (by simpa using hq)
  · rw [List.take_zero, List.nil_append, Nat.zero_add, List.drop_of_length_le (by rw [hcl, hl9]; exact Nat.le_refl _), List.append_nil]
    exact kM_of hm
end
theorem size33 {m : List Int} (h : m.length = 9) : (Tryz.prog.info? 137).map (·.size) = some (mcells m).size := by
  rw [mcells_size, h]
  kernel_rfl

set_option maxRecDepth 100000 in
set_option maxHeartbeats 1000000 in
theorem toMatrixS_calls (A : Option Addr) (n c : Nat) (l : List (List Int)) (w : World) (hr : kM.C w A n l) (hl : n ≤ 1048576) :
    Calls Tryz.prog 57 #[.slice A n c] w fun e w' => ∃ v, e = .returned v ∧ kM.R 138 w' w.heap.size (fun _ => True) v l ∧ Below w.heap.size w w' := by
  obtain rfl := Kd.C_len hr
  have HR := Aside0.mk hr
  clear hr
  by_cases h0 : l.length = 0
  · obtain rfl : l = [] := List.eq_nil_of_length_eq_zero h0
    go_enter Tryz.func57, Tryz.ntmps57
    go_wp2_with ((refine make_mat rfl rfl _ (.tmp 6) (.tmp 6) rfl 0 rfl rfl Tryz.underlying35 infoM (by omega) (by omega) ?_; intro v1 w1 ho1 hb1; have HO := Aside0.mk ho1; have HB := Aside0.mk hb1; clear ho1 hb1))
    go_loopw [4] (fun v wr => v = .int .i64 0 ∧ wr = w1) (fun _ _ => 0)
    case atStart => exact ⟨rfl, rfl⟩
    case round =>
      obtain ⟨rfl, rfl⟩ := hrel
      go_wp2
      go_ret
      exact ⟨_, rfl, HO.out, HB.out⟩
  · go_enter Tryz.func57, Tryz.ntmps57
    go_wp2_with ((refine make_mat rfl rfl _ (.tmp 6) (.tmp 6) rfl l.length rfl rfl Tryz.underlying35 infoM (by omega) (by omega) ?_; intro v1 w1 ho1 hb1; rw [Int.toNat_natCast, cpM_zero l] at ho1; obtain ⟨g, cap, hv1, hg1, hg2, cells, hcell⟩ := Kd.R_form ho1 (by rw [cpM_len _ _ (by omega)]; omega); rw [cpM_len _ _ (by omega)] at hv1; subst hv1; have HO := Aside0.mk ho1; have HB := Aside0.mk hb1; clear ho1 hb1 hcell))
    go_loopw [4] (fun v wr => ∃ j : Nat, v = .int .i64 j ∧ j ≤ l.length ∧ Aside0 (kM.R 138 wr w.heap.size (fun _ => True) (.slice (some ⟨g, 0, none⟩) l.length cap) (cpM l j)) ∧ Aside0 (Below w.heap.size w wr)) (fun v _ => l.length - (intOf v).toNat)
    case atStart => exact ⟨0, rfl, by omega, HO, HB⟩
    case round =>
      clear HO HB
      obtain ⟨j, rfl, hj, HO, HB⟩ := hrel
      by_cases hlt : j < l.length
      · obtain ⟨ad, m, hmm, rfl, hm9, hc⟩ := mat_at HR.out j hlt
        have HC := Aside0.mk (hc.below HB.out)
        have HS := Aside0.mk (show (cpM l j).set j m = cpM l (j + 1) from hmm ▸ cpM_set l j hlt)
        have HK := Aside0.mk (fun W => toMatrix_calls m W hm9)
        clear hmm hc
        go_wp2_with (first
          | (refine load_agg rfl _ 18 rfl (ad.add (j * 9)) HC.out rfl _ Tryz.underlying137 rfl (size33 hm9) ?_)
          | (go_at_call 127; refine (HK.out _).mono ?_; rintro e w2 ⟨rfl, hb⟩; replace HO := Aside0.mk (Kd.R_below HO.out hb); replace HB := Aside0.mk (below_step HB.out hb); clear hb)
          | (refine store_mat (base := w.heap.size) (w0 := w) rfl rfl _ (.tmp 21) (.tmp 20) rfl (g := g) (n := l.length) (cap := cap) j (cpM l j) m hm9 rfl rfl (sizeM_of hm9) HO.out hlt HB.out ?_; intro w3 ho hb hg; replace HO := Aside0.mk ho; replace HB := Aside0.mk hb; clear ho hb hg))
        go_roundw
        case rel => exact ⟨j + 1, by go_num, by omega, ⟨by rw [← HS.out]; exact HO.out⟩, HB⟩
        case measure => simp [intOf]; omega
      · have HE : Aside0 (cpM l j = l) := ⟨by rw [show j = l.length by omega]; exact cpM_done l⟩
        go_wp2
        go_ret
        exact ⟨_, rfl, by have h := HO.out; rw [HE.out] at h; exact h, HB.out⟩

/-- A function that hands back a group in a cell of its own. -/
theorem ret_grp {fn : Func} {p : Tmp} (h : fn.results = #[.cell p 37]) {R : Ending → World → Prop} {a : Act} {w : World} {g t : Nat} {cs : Array Value} (H : Blk w g t cs) (hm : cs.size = 3) (hp : a.tmps.getD p undef = .pointer (some ⟨g, 0, none⟩)) (hd : a.defers = [])
    (hR : R (.returned (.agg cs)) w) : bodyPost Tryz.prog fn R .ret a w :=
  ⟨hd, _, results_cell_row h a.tmps w g t cs (0, 0) _ hp H Tryz.underlying37 rfl (by rw [hm]; exact sizeG), hR⟩
set_option maxRecDepth 100000 in
set_option maxHeartbeats 1000000 in
theorem toGroup_calls (p n : Int) (A : Option Addr) (q c : Nat) (l : List (List Int)) (w : World) (hr : kM.C w A q l) (hl : q ≤ 1048576) :
    Calls Tryz.prog 18 #[.agg #[.int .i64 p, .int .i64 n, .slice A q c]] w fun e w' => ∃ A' c', e = .returned (.agg #[.int .i64 p, .int .i64 n, .slice A' l.length c']) ∧ kM.C w' A' l.length l ∧ Below w.heap.size w w' := by
  obtain rfl := Kd.C_len hr
  have hb3 := below_alloc (below_alloc (below_alloc (Below.refl w.heap.size w) (.cells #[.int .i64 p, .int .i64 n, .slice A l.length c] 32)) (.cells #[.int .i64 0, .int .i64 0, .slice none 0 0] 37)) (.cells #[.int .i64 p, .int .i64 n, .slice none 0 0] 37)
  have HB3 := Aside0.mk hb3
  have HK := Aside0.mk (toMatrixS_calls A l.length c l _ (Kd.C_below hr hb3) hl)
  have H1 := Blk.new1 w (.cells #[.int .i64 p, .int .i64 n, .slice A l.length c] 32) #[.int .i64 0, .int .i64 0, .slice none 0 0] 37
  have H2 := Blk.new2 w (.cells #[.int .i64 p, .int .i64 n, .slice A l.length c] 32) (.cells #[.int .i64 0, .int .i64 0, .slice none 0 0] 37) #[.int .i64 p, .int .i64 n, .slice none 0 0] 37
  clear hr hb3
  replace H1 := Aside0.mk (H1.alloc (.cells #[.int .i64 p, .int .i64 n, .slice none 0 0] 37))
  replace H2 := Aside0.mk H2
  go_enter Tryz.func18, Tryz.ntmps18
  go_wp2_with (first
    | (go_at_call 57; refine HK.out.mono ?_; rintro e w1 ⟨v, rfl, ho, hb⟩; obtain ⟨A1, c1, rfl⟩ := Kd.R_slice ho; have G1 := H1.out.keep hb; have G2 := H2.out.keep hb; have k2 := G2.cell 2 rfl; have f2 := G2.frozen 2; have HO := Aside0.mk ho; have HB := Aside0.mk (below_step HB3.out hb); replace G1 := Aside0.mk G1; replace G2 := Aside0.mk G2; clear ho hb)
    | (refine load_blk rfl _ 3 rfl (G2.out.set 2 _) rfl _ Tryz.underlying37 rfl sizeG ?_)
    | (refine gate_ (.store 37 (.tmp 2) (.tmp 14)) rfl ?_; go_must (refine store_blk (cs := #[.int .i64 p, .int .i64 n, .slice A1 l.length c1]) rfl _ 2 _ rfl (G1.out.far (p := ⟨w.heap.size + 1 + 1, 2, none⟩) (by dsimp only; omega) _) rfl rfl sizeG rfl (by simp [Value.oneCell']) ?_)))
  refine ret_grp (p := 2) rfl ((G1.out.far (p := ⟨w.heap.size + 1 + 1, 2, none⟩) (by dsimp only; omega) _).setRow _) rfl rfl rfl ?_
  have hsz : (((w.alloc (.cells #[.int .i64 p, .int .i64 n, .slice A l.length c] 32)).alloc (.cells #[.int .i64 0, .int .i64 0, .slice none 0 0] 37)).alloc (.cells #[.int .i64 p, .int .i64 n, .slice none 0 0] 37)).heap.size = w.heap.size + 3 := by simp
  refine ⟨A1, c1, rfl, ?_, below_setRow (HB.out.setCell (by dsimp only; omega) _) (by omega) _⟩
  have h := Kd.R_bound HO.out
  rw [hsz] at h
  have h2 := Kd.R_step (w1 := w1.setCell ⟨w.heap.size + 1 + 1, 2, none⟩ (.slice A1 l.length c1)) h (fun k hk _ => Below.heap_setCell w1 ⟨w.heap.size + 1 + 1, 2, none⟩ _ k (by have := hk.2.1; dsimp only; omega))
  have h3 := Kd.R_step (w1 := (w1.setCell ⟨w.heap.size + 1 + 1, 2, none⟩ (.slice A1 l.length c1)).setRow (w.heap.size + 1) #[.int .i64 p, .int .i64 n, .slice A1 l.length c1]) h2 (fun k hk _ => setRow_other _ _ k _ (by have := hk.2.1; omega))
  exact (Kd.R_reads' h3).2.2
end Go.Proofs.YtbenhcognapdpaaGreat
/- Walks: the laws' copies of terms and of lists of terms. -/
set_option linter.unusedVariables false
set_option linter.unusedSimpArgs false
namespace Go.Proofs.YtbenhcognapdpaaGreat
open Go.RowKit Go.Proofs.YtbenhcognapdpaaGreatW.PrintWords Go.Proofs.YtbenhcognapdpaaGreatW.PrintLast Lin

theorem ret_e3 {fn : Func} {p : Tmp} (h : fn.results = #[.cell p 83]) {R : Ending → World → Prop} {a : Act} {w : World} {g t : Nat} {m : List Int} (H : Blk w g t (mcells m)) (hm : m.length = 3) (hp : a.tmps.getD p undef = .pointer (some ⟨g, 0, none⟩)) (hd : a.defers = [])
    (hs : (Tryz.prog.info? 83).map (·.size) = some (mcells m).size) (hR : R (.returned (.agg (mcells m))) w) : bodyPost Tryz.prog fn R .ret a w :=
  ⟨hd, _, results_cell_row h a.tmps w g t (mcells m) (0, 0) _ hp H Tryz.underlying83 rfl hs, hR⟩
set_option maxRecDepth 100000 in
set_option maxHeartbeats 400000 in
theorem toExps_calls (a : List Int) (w : World) (ha : a.length = 3) :
    Calls Tryz.prog 236 #[.agg (mcells a)] w fun e w' => e = .returned (.agg (mcells a)) ∧ Below w.heap.size w w' := by
  go_enter Tryz.func236, Tryz.ntmps236
  go_wp2
  go_loopw [4] (fun v wr => ∃ (k : Nat) (o : List Int), v = .int .i64 k ∧ k ≤ 3 ∧ o.length = 3 ∧ Aside0 (∀ j < k, nt o j = nt a j) ∧ Blk wr w.heap.size 82 (mcells a) ∧ Blk wr (w.heap.size + 1) 83 (mcells [0, 0, 0]) ∧ Blk wr (w.heap.size + 1 + 1) 83 (mcells o) ∧ Aside0 (Below w.heap.size w wr)) (fun v _ => 3 - (intOf v).toNat)
  case atStart => exact ⟨0, [0, 0, 0], rfl, by omega, rfl, ⟨fun j hj => by omega⟩, ((Blk.new _ _ _).alloc _).alloc _, (Blk.new1 _ _ _ _).alloc _, Blk.new2 _ _ _ _ _, ⟨below_alloc (below_alloc (below_alloc (Below.refl _ _) _) _) _⟩⟩
  case round =>
    obtain ⟨k, o, rfl, hk, ho, HZ, H1, H2, H3, HB⟩ := hrel
    by_cases hlt : k < 3
    · have c1 := H1.cell k (mcells_get a k (by omega))
      have c3 := H3.cell k (mcells_get o k (by omega))
      have f3 := H3.frozen k
      have hd3 : decide ((k : Int) < 3) = true := decide_eq_true (by omega)
      have hk3 : (k : Int) < 3 := by omega
      go_wp2
      go_roundw
      case rel => exact ⟨k + 1, o.set k (nt a k), by go_num, by omega, by simp [ho], ⟨set_upto (by omega) HZ.out⟩, H1.far (by dsimp only; omega) _, H2.far (by dsimp only; omega) _, by rw [← mcells_set]; exact H3.set _ _, ⟨HB.out.setCell (by dsimp only; omega) _⟩⟩
      case measure => simp [intOf]; omega
    · obtain rfl : o = a := a3_done ha ho (fun j hj => HZ.out j (by omega))
      go_wp2_with (first
        | (refine load_blk rfl _ 3 rfl H3 rfl _ Tryz.underlying83 rfl (sizeE_of ho) ?_)
        | (refine store_blk rfl _ 2 _ rfl H2 rfl rfl (sizeE_of ho) (by rw [mcells_size, mcells_size, ho]; rfl) (mcells_one _) ?_))
      refine ret_e3 (p := 2) rfl (H2.setRow _) ho rfl rfl (sizeE_of ho) ⟨rfl, below_setRow HB.out (by omega) _⟩

theorem sizeTL : (Tryz.prog.info? 191).map (·.size) = some 4 := by kernel_rfl
theorem sizeTL_of {t : List Int × Int} (h : t.1.length = 3) : (Tryz.prog.info? 191).map (·.size) = some (tcells t).size := by rw [tcells_size h]; exact sizeTL
theorem exps_lit {l : List Int} (h : l.length = 3) : ∃ a b c, l = [a, b, c] := by
  match l, h with
  | [a, b, c], _ => exact ⟨a, b, c, rfl⟩
theorem Blk.there4 {w : World} {g t : Nat} {a b c v : Int} (H : Blk w g t #[.int .u8 a, .int .u8 b, .int .u8 c, .int .i64 v]) : w.there g 0 3 := fun j hj => ⟨by
  obtain rfl | rfl | rfl : j = 0 ∨ j = 1 ∨ j = 2 := by omega
  · rw [H.cell 0 rfl]; rfl
  · rw [H.cell 1 rfl]; rfl
  · rw [H.cell 2 rfl]; rfl, H.frozen _⟩
theorem ret_tm {fn : Func} {p : Tmp} (h : fn.results = #[.cell p 151]) {R : Ending → World → Prop} {a : Act} {w : World} {g t : Nat} {cs : Array Value} (H : Blk w g t cs) (hm : cs.size = 4) (hp : a.tmps.getD p undef = .pointer (some ⟨g, 0, none⟩)) (hd : a.defers = [])
    (hR : R (.returned (.agg cs)) w) : bodyPost Tryz.prog fn R .ret a w :=
  ⟨hd, _, results_cell_row h a.tmps w g t cs (0, 0) _ hp H Tryz.underlying151 rfl (by rw [hm]; exact sizeT), hR⟩
set_option maxRecDepth 100000 in
set_option maxHeartbeats 4000000 in
theorem toTerm_lit (a b c v : Int) (w : World) :
    Calls Tryz.prog 191 #[.agg #[.int .u8 a, .int .u8 b, .int .u8 c, .int .i64 v]] w fun e w' => e = .returned (.agg #[.int .u8 a, .int .u8 b, .int .u8 c, .int .i64 v]) ∧ Below w.heap.size w w' := by
  have HB := Aside0.mk (below_alloc (below_alloc (below_alloc (Below.refl w.heap.size w) (.cells #[.int .u8 a, .int .u8 b, .int .u8 c, .int .i64 v] 191)) (.cells #[.int .u8 0, .int .u8 0, .int .u8 0, .int .i64 0] 151)) (.cells #[.int .u8 0, .int .u8 0, .int .u8 0, .int .i64 0] 151))
  have HK := Aside0.mk (fun W => toExps_calls [a, b, c] W rfl)
  have H0 := ((Blk.new w #[.int .u8 a, .int .u8 b, .int .u8 c, .int .i64 v] 191).alloc (.cells #[.int .u8 0, .int .u8 0, .int .u8 0, .int .i64 0] 151)).alloc (.cells #[.int .u8 0, .int .u8 0, .int .u8 0, .int .i64 0] 151)
  have H1 := (Blk.new1 w (.cells #[.int .u8 a, .int .u8 b, .int .u8 c, .int .i64 v] 191) #[.int .u8 0, .int .u8 0, .int .u8 0, .int .i64 0] 151).alloc (.cells #[.int .u8 0, .int .u8 0, .int .u8 0, .int .i64 0] 151)
  have H2 := Blk.new2 w (.cells #[.int .u8 a, .int .u8 b, .int .u8 c, .int .i64 v] 191) (.cells #[.int .u8 0, .int .u8 0, .int .u8 0, .int .i64 0] 151) #[.int .u8 0, .int .u8 0, .int .u8 0, .int .i64 0] 151
  have HA := Aside0.mk (H0.at.exps (t := ([a, b, c], v)) rfl)
  go_enter Tryz.func191, Tryz.ntmps191
  go_wp2_with (refine load_agg rfl _ 4 rfl ⟨w.heap.size, 0, none⟩ HA.out rfl _ Tryz.underlying82 rfl (size73_of (a := [a, b, c]) rfl) ?_)
  go_at_call 236
  refine (HK.out _).mono ?_
  rintro e w2 ⟨rfl, hb⟩
  replace H0 := H0.keep hb
  replace H1 := H1.keep hb
  replace H2 := H2.keep hb
  replace HB := Aside0.mk (below_step HB.out hb)
  clear hb HA
  have HT := Aside0.mk H2.there4
  have c3 := (H0.far3 (b := w.heap.size + 1 + 1) (by omega) 0 a b c).cell 3 rfl
  have G1 := (H1.far3 (b := w.heap.size + 1 + 1) (by omega) 0 a b c).far (p := ⟨w.heap.size + 1 + 1, 3, none⟩) (by dsimp only; omega) (.int .i64 v)
  have G2 : Blk (w2.setCells (w.heap.size + 1 + 1) 0 (mcells [a, b, c]).toList) (w.heap.size + 1 + 1) 151 #[.int .u8 a, .int .u8 b, .int .u8 c, .int .i64 0] := ((H2.set 0 (.int .u8 a)).set 1 (.int .u8 b)).set 2 (.int .u8 c)
  have k3 := G2.cell 3 rfl
  have f3 := G2.frozen 3
  have G3 : Blk ((w2.setCells (w.heap.size + 1 + 1) 0 (mcells [a, b, c]).toList).setCell ⟨w.heap.size + 1 + 1, 3, none⟩ (.int .i64 v)) (w.heap.size + 1 + 1) 151 #[.int .u8 a, .int .u8 b, .int .u8 c, .int .i64 v] := G2.set 3 (.int .i64 v)
  have HBF := Aside0.mk (below_setRow ((below_set3 HB.out (b := w.heap.size + 1 + 1) (by omega) 0 a b c).setCell (p := ⟨w.heap.size + 1 + 1, 3, none⟩) (by dsimp only; omega) (.int .i64 v)) (g := w.heap.size + 1) (by omega) #[.int .u8 a, .int .u8 b, .int .u8 c, .int .i64 v])
  clear H0 H1 H2
  go_wp2_with (first
    | (refine load_blk rfl _ 3 rfl G3 rfl _ Tryz.underlying151 rfl sizeT ?_)
    | (refine gate_ (.store 83 (.tmp 7) (.tmp 6)) rfl ?_; go_must (refine wpList_store_mid rfl _ (.tmp 7) (.tmp 6) rfl (w.heap.size + 1 + 1) 0 (mcells [a, b, c]) rfl rfl HT.out (sizeE_of (e := [a, b, c]) rfl) (mcells_one _) ?_; (generalize w2.setCells (w.heap.size + 1 + 1) 0 (mcells [a, b, c]).toList = w3 at c3 G1 G2 k3 f3 G3 HBF ⊢)))
    | (refine gate_ (.store 151 (.tmp 2) (.tmp 11)) rfl ?_; go_must (refine store_blk (cs := #[.int .u8 a, .int .u8 b, .int .u8 c, .int .i64 v]) rfl _ 2 _ rfl G1 rfl rfl sizeT rfl (by simp [Value.oneCell']) ?_)))
  refine ret_tm (p := 2) rfl (G1.setRow _) rfl rfl rfl ?_
  exact ⟨rfl, HBF.out⟩
theorem toTerm_calls (t : List Int × Int) (w : World) (h : t.1.length = 3) :
    Calls Tryz.prog 191 #[.agg (tcells t)] w fun e w' => e = .returned (.agg (tcells t)) ∧ Below w.heap.size w w' := by
  obtain ⟨l, v⟩ := t
  obtain ⟨a, b, c, rfl⟩ := exps_lit h
  exact toTerm_lit a b c v w

def zeroT : List Int × Int := ([0, 0, 0], 0)
def cpT (l : List (List Int × Int)) (j : Nat) : List (List Int × Int) := l.take j ++ List.replicate (l.length - j) zeroT
theorem cpT_len (l : List (List Int × Int)) (j : Nat) (h : j ≤ l.length) : (cpT l j).length = l.length := by simp [cpT]; omega
theorem cpT_zero (l : List (List Int × Int)) : List.replicate l.length zeroT = cpT l 0 := by simp [cpT]
theorem cpT_set (l : List (List Int × Int)) (j : Nat) (hj : j < l.length) : (cpT l j).set j (tmR l j) = cpT l (j + 1) := by
  unfold cpT
  rw [take_succ_tmR l j hj, List.set_append]
  rw [if_neg (by simp; omega), show l.length - j = (l.length - (j + 1)) + 1 by omega, List.replicate_succ]
  have : j - (l.take j).length = 0 := by rw [List.length_take]; omega
  rw [this, List.set_cons_zero, List.append_assoc]
  rfl
theorem cpT_done (l : List (List Int × Int)) : cpT l l.length = l := by simp [cpT]
theorem infoT : (Tryz.prog.info? 151).map (fun i => (i.zero, i.size, i.bytes)) = some (some (.agg #[.int .u8 0, .int .u8 0, .int .u8 0, .int .i64 0]), 4, 16) := by kernel_rfl
theorem kT_of {w : World} {base : Nat} {ok : Nat → Prop} {t : List Int × Int} (h : t.1.length = 3) : kT.M w base ok t (tcells t).toList := by
  refine ⟨encs (Value.int .u8) t.1, [Value.int .i64 t.2], by simp [tcells], ?_, rfl⟩
  exact Kd.arr_of_cells (n := 3) (enc := Value.int .u8) (h1 := fun _ => rfl) (hs := by decide) (w := w) (base := base) (ok := ok) h
section
variable {P : Program} {ops : Array Oper} {rest : List Oper} {o : Oper} {a : Act} {Q : Exit → Act → World → Prop}
theorem make_tm {W : World} (hgd : o.guard = none) {N : Tmp} (hd : o.dst = some N) (t : TypeId) (x y : Operand) (ho : o.op = .makeSlice t x y) (n : Int) (hx : a.eval x = .int .i64 n) (hy : a.eval y = .int .i64 n)
    (ht : P.underlying t = some (.slice 151)) (hinfo : (P.info? 151).map (fun i => (i.zero, i.size, i.bytes)) = some (some (.agg #[.int .u8 0, .int .u8 0, .int .u8 0, .int .i64 0]), 4, 16)) (h0 : 0 ≤ n) (hl : n ≤ 1000000000)
    (h : ∀ v1 w1, kT.R 151 w1 W.heap.size (fun _ => True) v1 (List.replicate n.toNat zeroT) → Below W.heap.size W w1 → wpList P ops Q rest (a.put o.dst v1) w1) : wpList P ops Q (o :: rest) a W :=
  Kd.R_make kT (w0 := W) W.heap.size 151 hgd hd t x y ho n hx hy ht (.agg #[.int .u8 0, .int .u8 0, .int .u8 0, .int .i64 0]) 16 hinfo rfl (by decide) (by omega) zeroT (ok := fun _ => True) (okp := fun _ => False) (kT_of (t := zeroT) rfl) (fun _ h => h.elim) trivial h0 (by omega) (Below.refl _ _) (Nat.le_refl _) fun v1 w1 h1 h2 _ _ => h v1 w1 h1 h2
theorem store_tm {W w0 : World} {base : Nat} (hN : o.dst = none) (hgd : o.guard = none) (t : TypeId) (p x : Operand) (ho : o.op = .store t p x) {g n cap : Nat} (i : Nat) (xs : List (List Int × Int)) (m : List Int × Int) (hm : m.1.length = 3)
    (haddr : a.eval p = .pointer (some ⟨g, i * 4, none⟩)) (hx : a.eval x = .agg (tcells m)) (ht : (P.info? t).map (·.size) = some (tcells m).size)
    (HO : kT.R 151 W base (fun _ => True) (.slice (some ⟨g, 0, none⟩) n cap) xs) (hi : i < n) (HB : Below base w0 W)
    (h : ∀ w1, kT.R 151 w1 base (fun _ => True) (.slice (some ⟨g, 0, none⟩) n cap) (xs.set i m) → Below base w0 w1 → W.grownBy w1 (some g) → wpList P ops Q rest a w1) : wpList P ops Q (o :: rest) a W := by
  obtain ⟨c, hcl, _, hcc, _⟩ := Kd.R_elem HO ([], 0) (i : Int) (by omega) (by omega)
  have hl9 : (tcells m).toList.length = 4 := by simpa using tcells_size hm
  have hk9 : kT.sz = 4 := rfl
  refine Kd.R_store kT base hN hgd t p x ho 151 (i : Int) 0 xs m (.agg (tcells m)) (tcells m).toList c (fun _ => True) (fun _ => False) haddr rfl hx rfl (by simpa using ht) ?_ HO (by omega) (by omega) hcl hcc (by rw [hl9, hk9]; omega) ?_ (fun _ h => h.elim) HB h
  · intro q hq
    have := tcells_one m
    rw [Array.all_eq_true_iff_forall_mem] at this
    exact this q (by simpa using hq)
  · rw [List.take_zero, List.nil_append, Nat.zero_add, List.drop_of_length_le (by rw [hcl, hl9]; exact Nat.le_refl _), List.append_nil]
    exact kT_of hm
end
set_option maxRecDepth 100000 in
set_option maxHeartbeats 1000000 in
theorem toTermS_calls (A : Option Addr) (n c : Nat) (l : List (List Int × Int)) (w : World) (hr : kT.C w A n l) (hl : n ≤ 1048576) :
    Calls Tryz.prog 110 #[.slice A n c] w fun e w' => ∃ v, e = .returned v ∧ kT.R 151 w' w.heap.size (fun _ => True) v l ∧ Below w.heap.size w w' := by
  obtain rfl := Kd.C_len hr
  have HR := Aside0.mk hr
  clear hr
  by_cases h0 : l.length = 0
  · obtain rfl : l = [] := List.eq_nil_of_length_eq_zero h0
    go_enter Tryz.func110, Tryz.ntmps110
    go_wp2_with ((refine make_tm rfl rfl _ (.tmp 6) (.tmp 6) rfl 0 rfl rfl Tryz.underlying56 infoT (by omega) (by omega) ?_; intro v1 w1 ho1 hb1; have HO := Aside0.mk ho1; have HB := Aside0.mk hb1; clear ho1 hb1))
    go_loopw [4] (fun v wr => v = .int .i64 0 ∧ wr = w1) (fun _ _ => 0)
    case atStart => exact ⟨rfl, rfl⟩
    case round =>
      obtain ⟨rfl, rfl⟩ := hrel
      go_wp2
      go_ret
      exact ⟨_, rfl, HO.out, HB.out⟩
  · go_enter Tryz.func110, Tryz.ntmps110
    go_wp2_with ((refine make_tm rfl rfl _ (.tmp 6) (.tmp 6) rfl l.length rfl rfl Tryz.underlying56 infoT (by omega) (by omega) ?_; intro v1 w1 ho1 hb1; rw [Int.toNat_natCast, cpT_zero l] at ho1; obtain ⟨g, cap, hv1, hg1, hg2, cells, hcell⟩ := Kd.R_form ho1 (by rw [cpT_len _ _ (by omega)]; omega); rw [cpT_len _ _ (by omega)] at hv1; subst hv1; have HO := Aside0.mk ho1; have HB := Aside0.mk hb1; clear ho1 hb1 hcell))
    go_loopw [4] (fun v wr => ∃ j : Nat, v = .int .i64 j ∧ j ≤ l.length ∧ Aside0 (kT.R 151 wr w.heap.size (fun _ => True) (.slice (some ⟨g, 0, none⟩) l.length cap) (cpT l j)) ∧ Aside0 (Below w.heap.size w wr)) (fun v _ => l.length - (intOf v).toNat)
    case atStart => exact ⟨0, rfl, by omega, HO, HB⟩
    case round =>
      clear HO HB
      obtain ⟨j, rfl, hj, HO, HB⟩ := hrel
      by_cases hlt : j < l.length
      · obtain ⟨ad, m, hmm, rfl, hm9, hc⟩ := term_at HR.out j hlt
        have HC := Aside0.mk (hc.below HB.out)
        have HS := Aside0.mk (show (cpT l j).set j m = cpT l (j + 1) from hmm ▸ cpT_set l j hlt)
        have HK := Aside0.mk (fun W => toTerm_calls m W hm9)
        clear hmm hc
        go_wp2_with (first
          | (refine load_agg rfl _ 18 rfl (ad.add (j * 4)) HC.out rfl _ Tryz.underlying191 rfl (sizeTL_of hm9) ?_)
          | (go_at_call 191; refine (HK.out _).mono ?_; rintro e w2 ⟨rfl, hb⟩; replace HO := Aside0.mk (Kd.R_below HO.out hb); replace HB := Aside0.mk (below_step HB.out hb); clear hb)
          | (refine store_tm (base := w.heap.size) (w0 := w) rfl rfl _ (.tmp 21) (.tmp 20) rfl (g := g) (n := l.length) (cap := cap) j (cpT l j) m hm9 rfl rfl (sizeT_of hm9) HO.out hlt HB.out ?_; intro w3 ho hb hg; replace HO := Aside0.mk ho; replace HB := Aside0.mk hb; clear ho hb hg))
        go_roundw
        case rel => exact ⟨j + 1, by go_num, by omega, ⟨by rw [← HS.out]; exact HO.out⟩, HB⟩
        case measure => simp [intOf]; omega
      · have HE : Aside0 (cpT l j = l) := ⟨by rw [show j = l.length by omega]; exact cpT_done l⟩
        go_wp2
        go_ret
        exact ⟨_, rfl, by have h := HO.out; rw [HE.out] at h; exact h, HB.out⟩
end Go.Proofs.YtbenhcognapdpaaGreat
/- Walks: the laws' copies of polynomials and of lists of polynomials. -/
set_option linter.unusedVariables false
set_option linter.unusedSimpArgs false
namespace Go.Proofs.YtbenhcognapdpaaGreat
open Go.RowKit Go.Proofs.YtbenhcognapdpaaGreatW.PrintWords Go.Proofs.YtbenhcognapdpaaGreatW.PrintLast Lin

theorem ret_pol {fn : Func} {p : Tmp} (h : fn.results = #[.cell p 58]) {R : Ending → World → Prop} {a : Act} {w : World} {g t : Nat} {cs : Array Value} (H : Blk w g t cs) (hm : cs.size = 3) (hp : a.tmps.getD p undef = .pointer (some ⟨g, 0, none⟩)) (hd : a.defers = [])
    (hR : R (.returned (.agg cs)) w) : bodyPost Tryz.prog fn R .ret a w :=
  ⟨hd, _, results_cell_row h a.tmps w g t cs (0, 0) _ hp H Tryz.underlying58 rfl (by rw [hm]; exact sizeP), hR⟩
set_option maxRecDepth 100000 in
set_option maxHeartbeats 1000000 in
theorem toPoly_calls (p n : Int) (A : Option Addr) (q c : Nat) (l : List (List Int × Int)) (w : World) (hr : kT.C w A q l) (hl : q ≤ 1048576) :
    Calls Tryz.prog 45 #[.agg #[.int .i64 p, .int .i64 n, .slice A q c]] w fun e w' => ∃ A' c', e = .returned (.agg (pcells (p, n, l) A' c')) ∧ kT.R 151 w' w.heap.size (fun _ => True) (.slice A' l.length c') l ∧ Below w.heap.size w w' := by
  obtain rfl := Kd.C_len hr
  have hb3 := below_alloc (below_alloc (below_alloc (Below.refl w.heap.size w) (.cells #[.int .i64 p, .int .i64 n, .slice A l.length c] 49)) (.cells #[.int .i64 0, .int .i64 0, .slice none 0 0] 58)) (.cells #[.int .i64 p, .int .i64 n, .slice none 0 0] 58)
  have HB3 := Aside0.mk hb3
  have HK := Aside0.mk (toTermS_calls A l.length c l _ (Kd.C_below hr hb3) hl)
  have H1 := Blk.new1 w (.cells #[.int .i64 p, .int .i64 n, .slice A l.length c] 49) #[.int .i64 0, .int .i64 0, .slice none 0 0] 58
  have H2 := Blk.new2 w (.cells #[.int .i64 p, .int .i64 n, .slice A l.length c] 49) (.cells #[.int .i64 0, .int .i64 0, .slice none 0 0] 58) #[.int .i64 p, .int .i64 n, .slice none 0 0] 58
  clear hr hb3
  replace H1 := Aside0.mk (H1.alloc (.cells #[.int .i64 p, .int .i64 n, .slice none 0 0] 58))
  replace H2 := Aside0.mk H2
  go_enter Tryz.func45, Tryz.ntmps45
  go_wp2_with (first
    | (go_at_call 110; refine HK.out.mono ?_; rintro e w1 ⟨v, rfl, ho, hb⟩; obtain ⟨A1, c1, rfl⟩ := Kd.R_slice ho; have G1 := H1.out.keep hb; have G2 := H2.out.keep hb; have k2 := G2.cell 2 rfl; have f2 := G2.frozen 2; have HO := Aside0.mk ho; have HB := Aside0.mk (below_step HB3.out hb); replace G1 := Aside0.mk G1; replace G2 := Aside0.mk G2; clear ho hb)
    | (refine load_blk rfl _ 3 rfl (G2.out.set 2 _) rfl _ Tryz.underlying58 rfl sizeP ?_)
    | (refine gate_ (.store 58 (.tmp 2) (.tmp 14)) rfl ?_; go_must (refine store_blk (cs := #[.int .i64 p, .int .i64 n, .slice A1 l.length c1]) rfl _ 2 _ rfl (G1.out.far (p := ⟨w.heap.size + 1 + 1, 2, none⟩) (by dsimp only; omega) _) rfl rfl sizeP rfl (by simp [Value.oneCell']) ?_)))
  refine ret_pol (p := 2) rfl ((G1.out.far (p := ⟨w.heap.size + 1 + 1, 2, none⟩) (by dsimp only; omega) _).setRow _) rfl rfl rfl ?_
  have hsz : (((w.alloc (.cells #[.int .i64 p, .int .i64 n, .slice A l.length c] 49)).alloc (.cells #[.int .i64 0, .int .i64 0, .slice none 0 0] 58)).alloc (.cells #[.int .i64 p, .int .i64 n, .slice none 0 0] 58)).heap.size = w.heap.size + 3 := by simp
  refine ⟨A1, c1, rfl, ?_, below_setRow (HB.out.setCell (by dsimp only; omega) _) (by omega) _⟩
  have h := Kd.R_bound HO.out
  rw [hsz] at h
  have h2 := Kd.R_step (w1 := w1.setCell ⟨w.heap.size + 1 + 1, 2, none⟩ (.slice A1 l.length c1)) h (fun k hk _ => Below.heap_setCell w1 ⟨w.heap.size + 1 + 1, 2, none⟩ _ k (by have := hk.2.1; dsimp only; omega))
  have h3 := Kd.R_step (w1 := (w1.setCell ⟨w.heap.size + 1 + 1, 2, none⟩ (.slice A1 l.length c1)).setRow (w.heap.size + 1) #[.int .i64 p, .int .i64 n, .slice A1 l.length c1]) h2 (fun k hk _ => setRow_other _ _ k _ (by have := hk.2.1; omega))
  exact Kd.R_lower (Kd.R_mono h3 (fun _ _ => trivial)) (by omega)

def zeroP : Pv := (0, 0, [])
def cpP (l : List Pv) (j : Nat) : List Pv := l.take j ++ List.replicate (l.length - j) zeroP
theorem cpP_len (l : List Pv) (j : Nat) (h : j ≤ l.length) : (cpP l j).length = l.length := by simp [cpP]; omega
theorem cpP_zero (l : List Pv) : List.replicate l.length zeroP = cpP l 0 := by simp [cpP]
theorem take_succ_pvR (l : List Pv) (j : Nat) (hj : j < l.length) : l.take (j + 1) = l.take j ++ [pvR l j] := by
  rw [List.take_succ_eq_append_getElem hj]
  simp [pvR, List.getD_eq_getElem?_getD, List.getElem?_eq_getElem hj]
theorem cpP_set (l : List Pv) (j : Nat) (hj : j < l.length) : (cpP l j).set j (pvR l j) = cpP l (j + 1) := by
  unfold cpP
  rw [take_succ_pvR l j hj, List.set_append]
  rw [if_neg (by simp; omega), show l.length - j = (l.length - (j + 1)) + 1 by omega, List.replicate_succ]
  have : j - (l.take j).length = 0 := by rw [List.length_take]; omega
  rw [this, List.set_cons_zero, List.append_assoc]
  rfl
theorem cpP_done (l : List Pv) : cpP l l.length = l := by simp [cpP]
theorem infoP : (Tryz.prog.info? 58).map (fun i => (i.zero, i.size, i.bytes)) = some (some (.agg #[.int .i64 0, .int .i64 0, .slice none 0 0]), 3, 40) := by kernel_rfl
theorem kP_of {w : World} {base : Nat} {ok : Nat → Prop} {P : Pv} {A : Option Addr} {c : Nat} (h : kT.R 151 w base ok (.slice A P.2.2.length c) P.2.2) : kP.M w base ok P (pcells P A c).toList :=
  ⟨[.int .i64 P.1], [.int .i64 P.2.1, .slice A P.2.2.length c], rfl, rfl, [.int .i64 P.2.1], [.slice A P.2.2.length c], rfl, rfl, Kd.M_row h⟩
section
variable {P : Program} {ops : Array Oper} {rest : List Oper} {o : Oper} {a : Act} {Q : Exit → Act → World → Prop}
theorem make_pol {W : World} (hgd : o.guard = none) {N : Tmp} (hd : o.dst = some N) (t : TypeId) (x y : Operand) (ho : o.op = .makeSlice t x y) (n : Int) (hx : a.eval x = .int .i64 n) (hy : a.eval y = .int .i64 n)
    (ht : P.underlying t = some (.slice 58)) (hinfo : (P.info? 58).map (fun i => (i.zero, i.size, i.bytes)) = some (some (.agg #[.int .i64 0, .int .i64 0, .slice none 0 0]), 3, 40)) (h0 : 0 ≤ n) (hl : n ≤ 1000000000)
    (h : ∀ v1 w1, kP.R 58 w1 W.heap.size (fun _ => True) v1 (List.replicate n.toNat zeroP) → Below W.heap.size W w1 → wpList P ops Q rest (a.put o.dst v1) w1) : wpList P ops Q (o :: rest) a W :=
  Kd.R_make kP (w0 := W) W.heap.size 58 hgd hd t x y ho n hx hy ht (.agg #[.int .i64 0, .int .i64 0, .slice none 0 0]) 40 hinfo rfl (by decide) (by omega) zeroP (ok := fun _ => True) (okp := fun _ => True) (kP_of (P := zeroP) (A := none) (c := 0) (Kd.R_nil kT _ _ _ _)) (fun _ h => h) trivial h0 (by omega) (Below.refl _ _) (Nat.le_refl _) fun v1 w1 h1 h2 _ _ => h v1 w1 h1 h2
theorem store_pol {W w0 : World} {base : Nat} (hN : o.dst = none) (hgd : o.guard = none) (t : TypeId) (p x : Operand) (ho : o.op = .store t p x) {g n cap : Nat} (i : Nat) (xs : List Pv) (m : Pv) {A : Option Addr} {c' : Nat}
    (haddr : a.eval p = .pointer (some ⟨g, i * 3, none⟩)) (hx : a.eval x = .agg (pcells m A c')) (ht : (P.info? t).map (·.size) = some 3)
    (HM : kT.R 151 W base (fun k => k ≠ g) (.slice A m.2.2.length c') m.2.2)
    (HO : kP.R 58 W base (fun _ => True) (.slice (some ⟨g, 0, none⟩) n cap) xs) (hi : i < n) (HB : Below base w0 W)
    (h : ∀ w1, kP.R 58 w1 base (fun _ => True) (.slice (some ⟨g, 0, none⟩) n cap) (xs.set i m) → Below base w0 w1 → W.grownBy w1 (some g) → wpList P ops Q rest a w1) : wpList P ops Q (o :: rest) a W := by
  obtain ⟨c, hcl, _, hcc, _⟩ := Kd.R_elem HO zeroP (i : Int) (by omega) (by omega)
  have hk9 : kP.sz = 3 := rfl
  refine Kd.R_store kP base hN hgd t p x ho 58 (i : Int) 0 xs m (.agg (pcells m A c')) (pcells m A c').toList c (fun _ => True) (fun k => k ≠ g) haddr rfl hx rfl (by simpa [pcells] using ht) ?_ HO (by omega) (by omega) hcl hcc (by rw [hk9]; exact Nat.le_refl _) ?_ (fun _ h => ⟨trivial, h⟩) HB h
  · intro q hq
    have := pcells_one m A c'
    rw [Array.all_eq_true_iff_forall_mem] at this
    exact this q (by simpa using hq)
  · rw [List.take_zero, List.nil_append, Nat.zero_add, List.drop_of_length_le (by rw [hcl]; exact Nat.le_refl _), List.append_nil]
    exact kP_of HM
end
theorem sizePL : (Tryz.prog.info? 49).map (·.size) = some 3 := by kernel_rfl
set_option maxRecDepth 100000 in
set_option maxHeartbeats 1000000 in
theorem toPolyS_calls (A : Option Addr) (n c : Nat) (l : List Pv) (w : World) (hr : kP.C w A n l) (hl : n ≤ 1048576) (hs : ∀ P ∈ l, P.2.2.length ≤ 1048576) :
    Calls Tryz.prog 13 #[.slice A n c] w fun e w' => ∃ v, e = .returned v ∧ kP.R 58 w' w.heap.size (fun _ => True) v l ∧ Below w.heap.size w w' := by
  obtain rfl := Kd.C_len hr
  have HR := Aside0.mk hr
  have HSZ := Aside0.mk hs
  clear hr hs
  by_cases h0 : l.length = 0
  · obtain rfl : l = [] := List.eq_nil_of_length_eq_zero h0
    go_enter Tryz.func13, Tryz.ntmps13
    go_wp2_with ((refine make_pol rfl rfl _ (.tmp 6) (.tmp 6) rfl 0 rfl rfl Tryz.underlying26 infoP (by omega) (by omega) ?_; intro v1 w1 ho1 hb1; have HO := Aside0.mk ho1; have HB := Aside0.mk hb1; clear ho1 hb1))
    go_loopw [4] (fun v wr => v = .int .i64 0 ∧ wr = w1) (fun _ _ => 0)
    case atStart => exact ⟨rfl, rfl⟩
    case round =>
      obtain ⟨rfl, rfl⟩ := hrel
      go_wp2
      go_ret
      exact ⟨_, rfl, HO.out, HB.out⟩
  · go_enter Tryz.func13, Tryz.ntmps13
    go_wp2_with ((refine make_pol rfl rfl _ (.tmp 6) (.tmp 6) rfl l.length rfl rfl Tryz.underlying26 infoP (by omega) (by omega) ?_; intro v1 w1 ho1 hb1; rw [Int.toNat_natCast, cpP_zero l] at ho1; obtain ⟨g, cap, hv1, hg1, hg2, cells, hcell⟩ := Kd.R_form ho1 (by rw [cpP_len _ _ (by omega)]; omega); rw [cpP_len _ _ (by omega)] at hv1; subst hv1; have HO := Aside0.mk ho1; have HB := Aside0.mk hb1; have HG1 := Aside0.mk hg1; have HG2 := Aside0.mk (show g < w1.heap.size ∧ w1.heap.size ≤ w1.heap.size from ⟨hg2, Nat.le_refl _⟩); clear ho1 hb1 hcell hg1 hg2))
    go_loopw [4] (fun v wr => ∃ j : Nat, v = .int .i64 j ∧ j ≤ l.length ∧ Aside0 (g < wr.heap.size) ∧ Aside0 (kP.R 58 wr w.heap.size (fun _ => True) (.slice (some ⟨g, 0, none⟩) l.length cap) (cpP l j)) ∧ Aside0 (Below w.heap.size w wr)) (fun v _ => l.length - (intOf v).toNat)
    case atStart => exact ⟨0, rfl, by omega, ⟨HG2.out.1⟩, HO, HB⟩
    case round =>
      clear HO HB HG1 HG2
      obtain ⟨j, rfl, hj, HG, HO, HB⟩ := hrel
      by_cases hlt : j < l.length
      · obtain ⟨ad, m, A', c', hmm, rfl, hc', hC', hc⟩ := poly_at (Kd.C_below HR.out HB.out) j hlt
        have HC := Aside0.mk hc
        have HS := Aside0.mk (show (cpP l j).set j m = cpP l (j + 1) from hmm ▸ cpP_set l j hlt)
        have HK := Aside0.mk (toPoly_calls m.1 m.2.1 A' m.2.2.length c' m.2.2 wr hC' (HSZ.out m (hmm ▸ pvR_mem l j hlt)))
        clear hmm hc hC'
        go_wp2_with (first
          | (refine load_agg rfl _ 18 rfl (ad.add (j * 3)) HC.out rfl _ Tryz.underlying49 rfl sizePL ?_)
          | (go_at_call 45; refine HK.out.mono ?_; rintro e w2 ⟨A2, c2, rfl, ho, hb⟩; have HM := Aside0.mk (Kd.R_lower (Kd.R_mono (Kd.R_bound ho) (fun k (hk : _ ∧ _) => show k ≠ g by have h1 := hk.2.1; have h2 := HG.out; omega)) HB.out.size); replace HO := Aside0.mk (Kd.R_below HO.out hb); replace HB := Aside0.mk (below_step HB.out hb); replace HG := Aside0.mk (Nat.lt_of_lt_of_le HG.out hb.size); clear hb ho)
          | (refine store_pol (base := w.heap.size) (w0 := w) rfl rfl _ (.tmp 21) (.tmp 20) rfl (g := g) (n := l.length) (cap := cap) j (cpP l j) m (A := A2) (c' := c2) rfl rfl sizeP HM.out HO.out hlt HB.out ?_; intro w3 ho hb hg; replace HO := Aside0.mk ho; replace HB := Aside0.mk hb; replace HG := Aside0.mk (Nat.lt_of_lt_of_le HG.out hg.size); clear ho hb hg))
        go_roundw
        case rel => exact ⟨j + 1, by go_num, by omega, HG, ⟨by rw [← HS.out]; exact HO.out⟩, HB⟩
        case measure => simp [intOf]; omega
      · have HE : Aside0 (cpP l j = l) := ⟨by rw [show j = l.length by omega]; exact cpP_done l⟩
        go_wp2
        go_ret
        exact ⟨_, rfl, by have h := HO.out; rw [HE.out] at h; exact h, HB.out⟩
end Go.Proofs.YtbenhcognapdpaaGreat
