/- Walks: rests and reduced lists of the specification. -/
import Derived.Test.YtbenhcognapdpaaLinW1
set_option linter.unusedVariables false
set_option linter.unusedSimpArgs false
namespace Go.Proofs.Ytbenhcognapdpaa
open Go.RowKit Go.Proofs.YtbenhcognapdpaaW.PrintWords Go.Proofs.YtbenhcognapdpaaW.PrintLast Lin

set_option maxHeartbeats 400000 in
theorem l01Own_calls (A : Option Addr) (c : Nat) (l : List Int) (w : World) (hr : kI.C w A l.length l) (hl : l.length < 17592186044416) :
    Calls Try.prog 94 #[.slice A l.length c] w fun e w' => ∃ v, e = .returned v ∧ kI.R 2 w' w.heap.size (fun _ => True) v l ∧ Below w.heap.size w w' := by
  have HR := Aside0.mk hr
  clear hr
  go_enter Try.func94, Try.ntmps94
  go_wp2_with ((at_builtin; refine app_ints (w0 := w) rfl _ _ _ rfl Try.underlying38 infoI _ [] l A c rfl rfl (R_lit0 kI _ _ _ (Nat.le_refl _)) (Kd.C_alloc HR.out _) (below_alloc (Below.refl _ _) _) (by simpa using hl) ?_; intro v1 w1 HO HB _ _; rw [List.nil_append] at HO; have HO := Aside0.mk HO; have HB := Aside0.mk HB))
  go_ret
  exact ⟨_, rfl, HO.out, HB.out⟩

set_option maxRecDepth 100000 in
set_option maxHeartbeats 400000 in
theorem l01Less_calls (p : Int) (A : Option Addr) (c : Nat) (r : List Int) (A' : Option Addr) (c' : Nat) (o : List Int) (k : Int) (w : World) (hr : kI.C w A r.length r) (hr' : kI.C w A' o.length o) (ho : o.length = r.length)
    (hp : 0 < p) (hp2 : p ≤ 1000) (hR : InR p r) (hO : InR p o) (hk : 0 ≤ k ∧ k < p) (hl : r.length < 1000000) :
    Calls Try.prog 169 #[.int .i64 p, .slice A r.length c, .slice A' o.length c', .int .i64 k] w fun e w' => ∃ v, e = .returned v ∧ kI.R 2 w' w.heap.size (fun _ => True) v (lessOf p r o k) ∧ Below w.heap.size w w' := by
  have HR := Aside0.mk hr
  have HR' := Aside0.mk hr'
  have HL := Aside0.mk ho
  have HI := Aside0.mk (And.intro hR hO)
  clear hr hr' ho hR hO
  go_enter Try.func169, Try.ntmps169
  go_wp2
  go_loopw [9, 10] (fun v9 v10 wr => ∃ j : Nat, v10 = .int .i64 j ∧ j ≤ r.length ∧ Aside0 (kI.R 2 wr w.heap.size (fun _ => True) v9 ((lessOf p r o k).take j)) ∧ Aside0 (Below w.heap.size w wr)) (fun _ v10 _ => r.length - (intOf v10).toNat)
  case atStart => exact ⟨0, rfl, by omega, ⟨R_lit0 kI _ _ _ (Nat.le_refl _)⟩, ⟨below_alloc (Below.refl _ _) _⟩⟩
  case round =>
    obtain ⟨j, rfl, hj, HO, HB⟩ := hrel
    by_cases hlt : j < r.length
    · obtain ⟨ad, rfl, hc⟩ := at_nt HR.out j hlt
      obtain ⟨ad', rfl, hc'⟩ := at_nt HR'.out j (by rw [HL.out]; exact hlt)
      have hlt' : j < o.length := by rw [HL.out]; exact hlt
      have hk1 := HI.out.1.nt hp j
      have hk2 := HI.out.2.nt hp j
      have hkb1 : 0 ≤ k * nt o j := Int.mul_nonneg hk.1 hk2.1
      have hkb2 : k * nt o j ≤ 1000 * 1000 := Int.mul_le_mul (by omega) (by omega) (by omega) (by omega)
      have hw := ((HB.out.cell (World.block_lt_of_cell? _ _ hc)).trans hc)
      have hw' := ((HB.out.cell (World.block_lt_of_cell? _ _ hc')).trans hc')
      have HM : Aside0 (∀ W, Calls Try.prog 106 #[.int .i64 p, .int .i64 (wrap64 (nt r j - wrap64 (k * nt o j)))] W fun e w' => e = .returned (.int .i64 ((nt r j - k * nt o j) % p)) ∧ W = w') := ⟨fun W => by
        rw [IntWalk.wrap64_in (k * nt o j) ⟨by omega, by omega⟩, IntWalk.wrap64_in (nt r j - k * nt o j) ⟨by omega, by omega⟩]
        exact l01Mod_calls p _ _ hp (by omega)⟩
      go_wp2
      replace HO := Aside0.mk (Kd.R_drew HO.out)
      replace HB := Aside0.mk (below_drew1 HB.out)
      refine start_ (n := 17) (S := fun w' => w'.cell? (ad.add j) = some (.int .i64 (nt r j)) ∧ w'.cell? (ad'.add j) = some (.int .i64 (nt o j))) (ds := []) #[false, false, false, false, false, false, false, false, false, false, false, false, false, false, false, false, false] (by kernel_rfl) rfl rfl ⟨((HB.out.cell (World.block_lt_of_cell? _ _ hc)).trans hc), ((HB.out.cell (World.block_lt_of_cell? _ _ hc')).trans hc')⟩ (fun hHeld => ?_)
      refine pure_ (i := 0) (N := some 18) (v := ?_) (a' := ?_) #[true, false, false, false, false, false, false, false, false, false, false, false, false, false, false, false, false] rfl rfl (by kernel_rfl) (fun _ _ _ h => h) (Or.inl ⟨by rfl, ?_⟩) ?_ ?_
      rotate_left
      · intro w'
        go_simp
        with_reducible rfl
      rotate_left
      · simp only [Act.put, List.setIfInBounds_toArray, List.set_cons_zero, List.set_cons_succ, i64_w, i32_w]
        rfl
      refine pure_ (i := 1) (N := some 19) (v := ?_) (a' := ?_) #[true, true, false, false, false, false, false, false, false, false, false, false, false, false, false, false, false] rfl rfl (by kernel_rfl) (fun _ _ _ h => h) (Or.inl ⟨by rfl, ?_⟩) ?_ ?_
      rotate_left
      · intro w'
        go_simp
        with_reducible rfl
      rotate_left
      · simp only [Act.put, List.setIfInBounds_toArray, List.set_cons_zero, List.set_cons_succ, i64_w, i32_w]
        rfl
      refine pure_ (i := 2) (N := some 20) (v := ?_) (a' := ?_) #[true, true, true, false, false, false, false, false, false, false, false, false, false, false, false, false, false] rfl rfl (by kernel_rfl) (fun _ _ _ h => h) (Or.inl ⟨by rfl, ?_⟩) ?_ ?_
      rotate_left
      · intro w'
        go_simp
        with_reducible rfl
      rotate_left
      · simp only [Act.put, List.setIfInBounds_toArray, List.set_cons_zero, List.set_cons_succ, i64_w, i32_w]
        rfl
      refine pure_ (i := 3) (N := some 21) (v := ?_) (a' := ?_) #[true, true, true, true, false, false, false, false, false, false, false, false, false, false, false, false, false] rfl rfl (by kernel_rfl) (fun _ _ _ h => h) (Or.inl ⟨by rfl, ?_⟩) ?_ ?_
      rotate_left
      · intro w'
        go_simp
        with_reducible rfl
      rotate_left
      · simp only [Act.put, List.setIfInBounds_toArray, List.set_cons_zero, List.set_cons_succ, i64_w, i32_w]
        rfl
      refine pure_ (i := 4) (N := some 22) (v := ?_) (a' := ?_) #[true, true, true, true, true, false, false, false, false, false, false, false, false, false, false, false, false] rfl rfl (by kernel_rfl) (fun _ _ _ h => h) (Or.inl ⟨by rfl, ?_⟩) ?_ ?_
      rotate_left
      · intro w'
        go_simp
        with_reducible rfl
      rotate_left
      · simp only [Act.put, List.setIfInBounds_toArray, List.set_cons_zero, List.set_cons_succ, i64_w, i32_w]
        rfl
      refine pure_ (i := 6) (N := some 24) (v := ?_) (a' := ?_) #[true, true, true, true, true, false, true, false, false, false, false, false, false, false, false, false, false] rfl rfl (by kernel_rfl) (fun _ _ _ h => h) (Or.inl ⟨by rfl, ?_⟩) ?_ ?_
      rotate_left
      · intro w'
        go_simp
        with_reducible rfl
      rotate_left
      · simp only [Act.put, List.setIfInBounds_toArray, List.set_cons_zero, List.set_cons_succ, i64_w, i32_w]
        rfl
      refine pure_ (i := 7) (N := some 25) (v := ?_) (a' := ?_) #[true, true, true, true, true, false, true, true, false, false, false, false, false, false, false, false, false] rfl rfl (by kernel_rfl) (fun _ _ _ h => h) (Or.inl ⟨by rfl, ?_⟩) ?_ ?_
      rotate_left
      · intro w'
        go_simp
        with_reducible rfl
      rotate_left
      · simp only [Act.put, List.setIfInBounds_toArray, List.set_cons_zero, List.set_cons_succ, i64_w, i32_w]
        rfl
      refine pure_ (i := 8) (N := some 26) (v := ?_) (a' := ?_) #[true, true, true, true, true, false, true, true, true, false, false, false, false, false, false, false, false] rfl rfl (by kernel_rfl) (fun _ _ _ h => h) (Or.inl ⟨by rfl, ?_⟩) ?_ ?_
      rotate_left
      · intro w'
        go_simp
        with_reducible rfl
      rotate_left
      · simp only [Act.put, List.setIfInBounds_toArray, List.set_cons_zero, List.set_cons_succ, i64_w, i32_w]
        rfl
      refine pure_ (i := 9) (N := some 27) (v := ?_) (a' := ?_) #[true, true, true, true, true, false, true, true, true, true, false, false, false, false, false, false, false] rfl rfl (by kernel_rfl) (fun _ _ _ h => h) (Or.inl ⟨by rfl, ?_⟩) ?_ ?_
      rotate_left
      · intro w'
        go_simp
        with_reducible rfl
      rotate_left
      · simp only [Act.put, List.setIfInBounds_toArray, List.set_cons_zero, List.set_cons_succ, i64_w, i32_w]
        rfl
      refine take_ (i := 5) (N := some 23) (v := ?_) (a' := ?_) #[true, true, true, true, true, true, true, true, true, true, false, false, false, false, false, false, false] rfl rfl (by kernel_rfl) (fun _ _ _ h => h) (Or.inl ⟨by rfl, ?_⟩) hHeld ?_ ?_
      rotate_left
      · rintro w' ⟨s0, s1⟩
        go_simp
        with_reducible rfl
      rotate_left
      · simp only [Act.put, List.setIfInBounds_toArray, List.set_cons_zero, List.set_cons_succ, i64_w, i32_w]
        rfl
      refine take_ (i := 10) (N := some 28) (v := ?_) (a' := ?_) #[true, true, true, true, true, true, true, true, true, true, true, false, false, false, false, false, false] rfl rfl (by kernel_rfl) (fun _ _ _ h => h) (Or.inl ⟨by rfl, ?_⟩) hHeld ?_ ?_
      rotate_left
      · rintro w' ⟨s0, s1⟩
        go_simp
        with_reducible rfl
      rotate_left
      · simp only [Act.put, List.setIfInBounds_toArray, List.set_cons_zero, List.set_cons_succ, i64_w, i32_w]
        rfl
      refine pure_ (i := 11) (N := some 29) (v := ?_) (a' := ?_) #[true, true, true, true, true, true, true, true, true, true, true, true, false, false, false, false, false] rfl rfl (by kernel_rfl) (fun _ _ _ h => h) (Or.inl ⟨by rfl, ?_⟩) ?_ ?_
      rotate_left
      · intro w'
        go_simp
        with_reducible rfl
      rotate_left
      · simp only [Act.put, List.setIfInBounds_toArray, List.set_cons_zero, List.set_cons_succ, i64_w, i32_w]
        rfl
      refine pure_ (i := 12) (N := some 30) (v := ?_) (a' := ?_) #[true, true, true, true, true, true, true, true, true, true, true, true, true, false, false, false, false] rfl rfl (by kernel_rfl) (fun _ _ _ h => h) (Or.inl ⟨by rfl, ?_⟩) ?_ ?_
      rotate_left
      · intro w'
        go_simp
        with_reducible rfl
      rotate_left
      · simp only [Act.put, List.setIfInBounds_toArray, List.set_cons_zero, List.set_cons_succ, i64_w, i32_w]
        rfl
      refine one_ (i := 13) (N := some 31) #[true, true, true, true, true, true, true, true, true, true, true, true, true, true, false, false, false] rfl rfl (by kernel_rfl) (by decide) (fun K hK => ?_)
      refine goes_ Try.func106 (by kernel_rfl) rfl #[.int .i64 p, .int .i64 (wrap64 (nt r j - wrap64 (k * nt o j)))] (by rfl) rfl rfl (by simp only [List.map_toArray, List.map_cons, List.map_nil]; rfl) ?_
      with_reducible refine (HM.out _).mono ?_
      rintro e w' ⟨rfl, rfl⟩
      refine ⟨_, rfl, ?_⟩
      refine hK.out _ _ ⟨((HB.out.cell (World.block_lt_of_cell? _ _ hc)).trans hc), ((HB.out.cell (World.block_lt_of_cell? _ _ hc')).trans hc')⟩ (fun hHeld => ?_)
      clear hK K
      refine norm_ (a' := ?_) ?_ ?_
      rotate_left
      · show Act.put _ (some 31) _ = _
        simp only [Act.put, List.setIfInBounds_toArray, List.set_cons_zero, List.set_cons_succ, i64_w, i32_w]
        rfl
      refine one_ (i := 14) (N := some 32) #[true, true, true, true, true, true, true, true, true, true, true, true, true, true, true, false, false] rfl rfl (by kernel_rfl) (by decide) (fun K hK => ?_)
      refine value_ (w1 := ?_) (v := ?_) (by rfl) rfl ?_ ?_
      rotate_left 2
      · go_simp
        constructor
        · rfl
        · rfl
      refine hK.out _ _ ⟨(((below_alloc HB.out _).cell (World.block_lt_of_cell? _ _ hc)).trans hc), (((below_alloc HB.out _).cell (World.block_lt_of_cell? _ _ hc')).trans hc')⟩ (fun hHeld => ?_)
      clear hK K
      refine norm_ (a' := ?_) ?_ ?_
      rotate_left
      · show Act.put _ (some 32) _ = _
        simp only [Act.put, List.setIfInBounds_toArray, List.set_cons_zero, List.set_cons_succ, i64_w, i32_w]
        rfl
      refine one_ (i := 15) (N := some 33) #[true, true, true, true, true, true, true, true, true, true, true, true, true, true, true, true, false] rfl rfl (by kernel_rfl) (by decide) (fun K hK => ?_)
      refine Kd.R_append_step kI (w0 := w) w.heap.size (by rfl) (.tmp 18) (.tmp 32) _ _ (.int .i64 0) 8 rfl Try.underlying38 infoI rfl (by decide) (by omega) _ ((lessOf p r o k).take j) ((nt r j - k * nt o j) % p) [.int .i64 _] (fun _ => True) (fun _ => False) rfl rfl rfl (fun _ hk => hk.elim) (fun _ _ => trivial) HO.out HB.out HB.out.size (by rw [List.length_take]; omega) ?_
      intro v1 w1 HO1 HB1 _ _
      replace HO1 := Aside0.mk HO1
      replace HB1 := Aside0.mk HB1
      refine hK.out _ _ ⟨((HB1.out.cell (World.block_lt_of_cell? _ _ hc)).trans hc), ((HB1.out.cell (World.block_lt_of_cell? _ _ hc')).trans hc')⟩ (fun hHeld => ?_)
      clear hK K
      refine norm_ (a' := ?_) ?_ ?_
      rotate_left
      · show Act.put _ (some 33) _ = _
        simp only [Act.put, List.setIfInBounds_toArray, List.set_cons_zero, List.set_cons_succ, i64_w, i32_w]
        rfl
      refine pure_ (i := 16) (N := some 9) (v := ?_) (a' := ?_) #[true, true, true, true, true, true, true, true, true, true, true, true, true, true, true, true, true] rfl rfl (by kernel_rfl) (fun _ _ _ h => h) (Or.inl ⟨by rfl, ?_⟩) ?_ ?_
      rotate_left
      · intro w'
        go_simp
        with_reducible rfl
      rotate_left
      · simp only [Act.put, List.setIfInBounds_toArray, List.set_cons_zero, List.set_cons_succ, i64_w, i32_w]
        rfl
      refine done_ (by kernel_rfl) ?_
      go_wp2
      go_roundw
      case rel => exact ⟨j + 1, by go_num, by omega, ⟨by rw [show (lessOf p r o k).take (j + 1) = (lessOf p r o k).take j ++ [(nt r j - k * nt o j) % p] from lessOf_take p r o k HL.out j hlt]; exact HO1.out⟩, HB1⟩
      case measure => simp [intOf]; omega
    · go_wp2
      go_ret
      exact ⟨_, rfl, by rw [show lessOf p r o k = (lessOf p r o k).take j from (List.take_of_length_le (by rw [lessOf_length _ _ _ _ HL.out]; omega)).symm]; exact HO.out, HB.out⟩

set_option maxRecDepth 100000 in
set_option maxHeartbeats 800000 in
theorem l01Rest_calls (p : Int) (n : Nat) (A : Option Addr) (c : Nat) (list : List (List Int)) (A' : Option Addr) (c' : Nat) (row : List Int) (w : World) (hr : kR.C w A list.length list) (hr' : kI.C w A' row.length row)
    (hp : 0 < p) (hp2 : p ≤ 1000) (hg : GoodRows p n list) (hn : row.length = n) (hR : InR p row) (hl : n < 1000000) (hll : list.length < 1000000) :
    Calls Try.prog 167 #[.int .i64 p, .slice A list.length c, .slice A' row.length c'] w fun e w' => ∃ v, e = .returned v ∧ kI.R 2 w' w.heap.size (fun _ => True) v (restOf p list row) ∧ Below w.heap.size w w' := by
  have HR := Aside0.mk hr
  have HR' := Aside0.mk hr'
  have HG := Aside0.mk hg
  have HN := Aside0.mk (And.intro hn hR)
  have hrl : row.length < 1000000 := by omega
  clear hr hr' hg hn hR
  go_enter Try.func167, Try.ntmps167
  go_wp2_with ((go_at_call 94; refine (l01Own_calls _ _ _ _ HR'.out (by omega)).mono ?_; rintro e w1 ⟨v1, rfl, HO, HB⟩; have HO := Aside0.mk HO; have HB := Aside0.mk HB))
  go_loopw [7, 8] (fun v7 v8 wr => ∃ i : Nat, v8 = .int .i64 i ∧ i ≤ list.length ∧ Aside0 (kI.R 2 wr w.heap.size (fun _ => True) v7 (restOf p (list.take i) row)) ∧ Aside0 (Below w.heap.size w wr)) (fun _ v8 _ => list.length - (intOf v8).toNat)
  case atStart => exact ⟨0, rfl, by omega, HO, HB⟩
  case round =>
    clear HO HB
    obtain ⟨i, rfl, hi, HO, HB⟩ := hrel
    have hgi : GoodRows p n (list.take i) := fun x hx => HG.out x (List.mem_of_mem_take hx)
    obtain ⟨ho1, ho2⟩ := restOf_good hp (list.take i) row hgi HN.out.1 HN.out.2
    obtain ⟨own, hown⟩ : ∃ own, own = restOf p (list.take i) row := ⟨_, rfl⟩
    rw [← hown] at HO ho1 ho2
    have HW := Aside0.mk hown
    clear hown hgi
    by_cases hlt : i < list.length
    · obtain ⟨ad, A0, c0, r, hrr, rfl, hc, hrc, hC⟩ := at_row HR.out i hlt
      have hgr := HG.out _ (ntR_mem list i hlt)
      rw [← hrr] at hgr
      obtain ⟨hl1, hl2, hl3, hl4⟩ := lead_lt r hgr.2.2
      obtain ⟨q, hq⟩ : ∃ q, q = (lead r).toNat := ⟨_, rfl⟩
      rw [← hq] at hl1 hl2 hl4
      have hq2 : q < own.length := by omega
      have hw := ((HB.out.cell (World.block_lt_of_cell? _ _ hc)).trans hc)
      have hCw := Kd.C_below hC HB.out
      obtain ⟨A7, c7, rfl, hc7, hC7⟩ := Kd.R_reads HO.out
      obtain ⟨ad7, rfl, hc7q⟩ := at_nt hC7 q hq2
      have hf := ho2.nt hp q
      have HX := Aside0.mk (And.intro hrr (And.intro hgr (And.intro hl2 (And.intro hCw (And.intro hC7 (And.intro ho1 (And.intro ho2 hq)))))))
      have hol : own.length < 1000000 := by omega
      clear hrr hgr hl2 hCw hC7 ho1 ho2 hq hC hl3 hl4
      by_cases h0 : nt own q = 0
      · have hb : (nt own q != 0) = false := by simp [h0]
        have H0 := Aside0.mk h0
        clear h0
        go_wp2_with ((go_at_call 141; refine (l01Lead_calls _ _ _ _ HX.out.2.2.2.1).mono ?_; rintro e w' ⟨rfl, ⟨nd, rfl⟩⟩; rw [HX.out.2.2.1]))
        go_roundw
        case rel => exact ⟨i + 1, by go_num, by omega, ⟨by rw [take_succ_ntR list i hlt, restOf_snoc, ← HX.out.1, ← HW.out, ← HX.out.2.2.2.2.2.2.2, if_pos H0.out]; exact Kd.R_drewN HO.out nd⟩, ⟨pw_below_drewN HB.out nd⟩⟩
        case measure => simp [intOf]; omega
      · have hb : (nt own q != 0) = true := by simpa using h0
        have H0 := Aside0.mk h0
        clear h0
        go_wp2_with (first
          | (go_at_call 141; refine (l01Lead_calls _ _ _ _ HX.out.2.2.2.1).mono ?_; rintro e w' ⟨rfl, ⟨nd, rfl⟩⟩; rw [HX.out.2.2.1])
          | (go_at_call 169; refine (l01Less_calls _ _ _ own _ _ r _ _ (Kd.C_drewN HX.out.2.2.2.2.1 _) (Kd.C_drewN HX.out.2.2.2.1 _) (by have h1 := HX.out.2.1.1; have h2 := HX.out.2.2.2.2.2.1; omega) hp hp2 HX.out.2.2.2.2.2.2.1 HX.out.2.1.2.1 hf hol).mono ?_; rintro e w' ⟨v2, rfl, HO2, HB2⟩; have HO2 := Aside0.mk HO2; have HB2 := Aside0.mk HB2))
        go_roundw
        case rel => exact ⟨i + 1, by go_num, by omega, ⟨by rw [take_succ_ntR list i hlt, restOf_snoc, ← HX.out.1, ← HW.out, ← HX.out.2.2.2.2.2.2.2, if_neg H0.out]; exact Kd.R_lower HO2.out HB.out.size⟩, ⟨below_step (pw_below_drewN HB.out _) HB2.out⟩⟩
        case measure => simp [intOf]; omega
    · go_wp2
      go_ret
      exact ⟨_, rfl, by rw [show restOf p list row = own by rw [HW.out, List.take_of_length_le (by omega)]]; exact HO.out, HB.out⟩
end Go.Proofs.Ytbenhcognapdpaa
