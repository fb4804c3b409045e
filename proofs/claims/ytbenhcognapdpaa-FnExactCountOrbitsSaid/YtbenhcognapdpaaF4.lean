/- Walk: the law FnExactAreSameOrbits answers true. -/
import Derived.Test.YtbenhcognapdpaaSameI2
import Derived.Test.YtbenhcognapdpaaLaw6
import Derived.Deep.WholeRow
set_option linter.unusedVariables false
set_option linter.unusedSimpArgs false
namespace Go.Proofs.Ytbenhcognapdpaa
open Go.RowKit Go.Proofs.YtbenhcognapdpaaW.PrintWords Go.Proofs.YtbenhcognapdpaaW.PrintLast Lin

theorem sizeGL : (Try.prog.info? 37).map (·.size) = some 3 := by kernel_rfl
theorem sameB_self (a : List Int) : sameB a a = true := decide_eq_true rfl

set_option maxRecDepth 100000 in
set_option maxHeartbeats 2000000 in
theorem fnSame_calls (p n : Int) (A : Option Addr) (q c : Nat) (l : List (List Int)) (A1 : Option Addr) (q1 c1 : Nat) (x : List Int) (A2 : Option Addr) (q2 c2 : Nat) (y : List Int) (w : World) (hr : kM.C w A q l) (hl : ∀ m ∈ l, IsM m) (hr1 : kI.C w A1 q1 x) (hr2 : kI.C w A2 q2 y) :
    Calls Try.prog 4 #[.agg #[.int .i64 p, .int .i64 n, .slice A q c], .slice A1 q1 c1, .slice A2 q2 c2] w fun e w' => e = .returned (.bool true) ∧ Below w.heap.size w w' := by
  obtain rfl := Kd.C_len hr
  obtain rfl := Kd.C_len hr1
  obtain rfl := Kd.C_len hr2
  have hm0 := Kd.C_max hr
  have hm1 := Kd.C_max hr1
  have hm2 := Kd.C_max hr2
  have HB0 := Aside0.mk (below_alloc (Below.refl w.heap.size w) (.cells #[.int .i64 p, .int .i64 n, .slice A l.length c] 37))
  by_cases hx : x.length ≤ 1048576
  rotate_left
  · have hb : decide ((1048576 : Int) < x.length) = true := decide_eq_true (by omega)
    go_enter Try.func4, Try.ntmps4
    go_wp2
    go_ret
    exact ⟨rfl, HB0.out⟩
  have hbx : decide ((1048576 : Int) < x.length) = false := decide_eq_false (by omega)
  by_cases hy : y.length ≤ 1048576
  rotate_left
  · have hb : decide ((1048576 : Int) < y.length) = true := decide_eq_true (by omega)
    go_enter Try.func4, Try.ntmps4
    go_wp2
    go_ret
    exact ⟨rfl, HB0.out⟩
  have hby : decide ((1048576 : Int) < y.length) = false := decide_eq_false (by omega)
  have H1 := Blk.new w #[.int .i64 p, .int .i64 n, .slice A l.length c] 37
  by_cases hll : l.length ≤ 1048576
  rotate_left
  · have HN : Aside0 (szL l.length 1048576 = -1) := ⟨by unfold szL; rw [if_pos (by omega)]⟩
    go_enter Try.func4, Try.ntmps4
    go_wp2_with (refine load_blk rfl _ 3 rfl H1 rfl _ Try.underlying37 rfl sizeGL ?_)
    go_at_call 14
    refine (szGroup_calls p n A l.length c 1048576 _ (by omega) hm0).mono ?_
    rw [HN.out]
    rintro e w1 ⟨rfl, hb⟩
    have HB := Aside0.mk (below_step HB0.out hb)
    clear hb
    go_wp2
    go_ret
    exact ⟨rfl, HB.out⟩
  have HN : Aside0 (szL l.length 1048576 = 1048576 - l.length) := ⟨by unfold szL; rw [if_neg (by omega)]⟩
  have hbl : decide ((1048576 : Int) - l.length < 0) = false := decide_eq_false (by omega)
  obtain ⟨sb, sc, hs⟩ : ∃ sb sc, sameR p n l x y = (sb, sc) := ⟨_, _, rfl⟩
  have HS := Aside0.mk hs
  have HR := Aside0.mk hr
  have HR1 := Aside0.mk hr1
  have HR2 := Aside0.mk hr2
  have HL := Aside0.mk hl
  clear hs hr hr1 hr2 hl
  go_enter Try.func4, Try.ntmps4
  go_wp2_with (refine load_blk rfl _ 3 rfl H1 rfl _ Try.underlying37 rfl sizeGL ?_)
  go_at_call 14
  refine (szGroup_calls p n A l.length c 1048576 _ (by omega) hm0).mono ?_
  rw [HN.out]
  rintro e w1 ⟨rfl, hb⟩
  replace H1 := H1.keep hb
  have HB := Aside0.mk (below_step HB0.out hb)
  clear hb
  go_wp2_with (refine load_blk rfl _ 3 rfl H1 rfl _ Try.underlying37 rfl sizeGL ?_)
  go_at_call 16
  refine (toGroup_calls p n A l.length c l _ (Kd.C_below HR.out HB.out) hll).mono ?_
  rintro e w2 ⟨A3, c3, rfl, hC, hb⟩
  have HG3 := Aside0.mk hC
  replace H1 := H1.keep hb
  replace HB := Aside0.mk (below_step HB.out hb)
  clear hb hC
  go_wp2_with fail
  go_at_call 17
  refine (toInt64S_calls A1 x.length c1 x _ (Kd.C_below HR1.out HB.out) hx).mono ?_
  rintro e w3 ⟨v4, rfl, ho, hb⟩
  obtain ⟨A4, c4, rfl, hc4, hC4⟩ := Kd.R_reads ho
  have HX3 := Aside0.mk hC4
  replace HG3 := Aside0.mk (Kd.C_below HG3.out hb)
  replace H1 := H1.keep hb
  replace HB := Aside0.mk (below_step HB.out hb)
  clear hb ho hC4
  go_wp2_with fail
  go_at_call 17
  refine (toInt64S_calls A2 y.length c2 y _ (Kd.C_below HR2.out HB.out) hy).mono ?_
  rintro e w4 ⟨v5, rfl, ho, hb⟩
  obtain ⟨A5, c5, rfl, hc5, hC5⟩ := Kd.R_reads ho
  have HY3 := Aside0.mk hC5
  replace HG3 := Aside0.mk (Kd.C_below HG3.out hb)
  replace HX3 := Aside0.mk (Kd.C_below HX3.out hb)
  replace H1 := H1.keep hb
  replace HB := Aside0.mk (below_step HB.out hb)
  clear hb ho hC5
  go_wp2_with fail
  go_at_call 15
  refine (specSame_calls p n A3 l.length c3 l A4 x.length c4 x A5 y.length c5 y _ HG3.out HL.out HX3.out HY3.out).mono ?_
  rw [HS.out]
  rintro e w5 ⟨rfl, hb⟩
  replace H1 := H1.keep hb
  replace HB := Aside0.mk (below_step HB.out hb)
  clear hb HG3 HX3 HY3
  go_wp2_with (refine load_blk rfl _ 3 rfl H1 rfl _ Try.underlying37 rfl sizeGL ?_)
  go_at_call 16
  refine (toGroup_calls p n A l.length c l _ (Kd.C_below HR.out HB.out) hll).mono ?_
  rintro e w6 ⟨A6, c6, rfl, hC, hb⟩
  have hb6 := below_alloc (Below.refl w6.heap.size w6) (.cells #[.int .i64 p, .int .i64 n, .slice A6 l.length c6] 44)
  have HG := Aside0.mk (Kd.C_below hC hb6)
  have H10 := Blk.new w6 #[.int .i64 p, .int .i64 n, .slice A6 l.length c6] 44
  replace H1 := (H1.keep hb).keep hb6
  replace HB := Aside0.mk (below_step (below_step HB.out hb) hb6)
  clear hb hb6 hC
  go_wp2_with (refine gate_ (.store 44 (.tmp 10) (.tmp 37)) rfl ?_; go_must (refine store_blk (cs := #[.int .i64 p, .int .i64 n, .slice A6 l.length c6]) rfl _ 10 _ rfl (Blk.new w6 #[.int .i64 0, .int .i64 0, .slice none 0 0] 44) rfl rfl sizeG rfl (by simp [Value.oneCell']) ?_; rw [World.setRow_alloc_new]))
  go_at_call 17
  refine (toInt64S_calls A1 x.length c1 x _ (Kd.C_below HR1.out HB.out) hx).mono ?_
  rintro e w7 ⟨v7, rfl, ho, hb⟩
  obtain ⟨A7, c7, rfl, hc7, hC7⟩ := Kd.R_reads ho
  have HX := Aside0.mk hC7
  replace HG := Aside0.mk (Kd.C_below HG.out hb)
  replace H1 := H1.keep hb
  replace H10 := H10.keep hb
  replace HB := Aside0.mk (below_step HB.out hb)
  clear hb ho hC7
  go_wp2_with fail
  go_at_call 17
  refine (toInt64S_calls A2 y.length c2 y _ (Kd.C_below HR2.out HB.out) hy).mono ?_
  rintro e w8 ⟨v8, rfl, ho, hb⟩
  obtain ⟨A8, c8, rfl, hc8, hC8⟩ := Kd.R_reads ho
  have HY := Aside0.mk hC8
  replace HG := Aside0.mk (Kd.C_below HG.out hb)
  replace HX := Aside0.mk (Kd.C_below HX.out hb)
  replace H1 := H1.keep hb
  replace H10 := H10.keep hb
  replace HB := Aside0.mk (below_step HB.out hb)
  clear hb ho hC8
  go_wp2_with (refine load_blk rfl _ 10 rfl H10 rfl _ Try.underlying44 rfl sizeG ?_)
  go_at_call 18
  refine (implSame_calls p n A6 l.length c6 l A7 x.length c7 x A8 y.length c8 y _ HG.out HL.out HX.out hc7 HY.out hc8).mono ?_
  rw [HS.out]
  rintro e w9 ⟨rfl, hb⟩
  replace HG := Aside0.mk (Kd.C_below HG.out hb)
  replace HX := Aside0.mk (Kd.C_below HX.out hb)
  replace HY := Aside0.mk (Kd.C_below HY.out hb)
  replace H1 := H1.keep hb
  replace H10 := H10.keep hb
  replace HB := Aside0.mk (below_step HB.out hb)
  clear hb
  have hbb : (sb != sb) = false := by simp
  have hbc : (sc != sc) = false := by simp
  go_wp2_with fail
  have HKT := Aside0.mk (fun W (h : Below w.heap.size w W) => toGroup_calls p n A l.length c l W (Kd.C_below HR.out h) hll)
  refine start_ (n := 5) (S := fun w' => At w' ⟨w6.heap.size, 0, none⟩ #[.int .i64 p, .int .i64 n, .slice A6 l.length c6] ∧ At w' ⟨w.heap.size, 0, none⟩ #[.int .i64 p, .int .i64 n, .slice A l.length c]) (ds := []) #[false, false, false, false, false] (by kernel_rfl) rfl rfl ⟨H10.drew.at, H1.drew.at⟩ (fun hHeld => ?_)
  refine take_ (i := 0) (N := some 57) (v := ?_) (a' := ?_) #[true, false, false, false, false] rfl rfl (by kernel_rfl) (fun _ _ _ h => h) (Or.inl ⟨by rfl, ?_⟩) hHeld ?_ ?_
  rotate_left
  · rintro w' ⟨s0, s1⟩
    refine Eq.trans (run_op_load' s0 (by rfl) (by rfl) Try.underlying44 rfl sizeG) ?_
    with_reducible rfl
  rotate_left
  · simp only [Act.put, List.setIfInBounds_toArray, List.set_cons_zero, List.set_cons_succ, i64_w, i32_w]
    rfl
  refine take_ (i := 1) (N := some 58) (v := ?_) (a' := ?_) #[true, true, false, false, false] rfl rfl (by kernel_rfl) (fun _ _ _ h => h) (Or.inl ⟨by rfl, ?_⟩) hHeld ?_ ?_
  rotate_left
  · rintro w' ⟨s0, s1⟩
    refine Eq.trans (run_op_load' s1 (by rfl) (by rfl) Try.underlying37 rfl sizeGL) ?_
    with_reducible rfl
  rotate_left
  · simp only [Act.put, List.setIfInBounds_toArray, List.set_cons_zero, List.set_cons_succ, i64_w, i32_w]
    rfl
  refine one_ (i := 2) (N := some 59) #[true, true, true, false, false] rfl rfl (by kernel_rfl) (by decide) (fun K hK => ?_)
  refine goes_ Try.func16 (by kernel_rfl) rfl #[.agg #[.int .i64 p, .int .i64 n, .slice A l.length c]] (by rfl) rfl rfl (by simp only [List.map_toArray, List.map_cons, List.map_nil]; rfl) ?_
  with_reducible refine (HKT.out _ (below_drew1 HB.out)).mono ?_
  rintro e w10 ⟨A9, c9, rfl, hC, hb⟩
  refine ⟨_, rfl, ?_⟩
  have HG2 := Aside0.mk hC
  replace HG := Aside0.mk (Kd.C_below (Kd.C_drew HG.out) hb)
  replace HX := Aside0.mk (Kd.C_below (Kd.C_drew HX.out) hb)
  replace HY := Aside0.mk (Kd.C_below (Kd.C_drew HY.out) hb)
  replace H1 := H1.drew.keep hb
  replace H10 := H10.drew.keep hb
  replace HB := Aside0.mk (below_step (below_drew1 HB.out) hb)
  clear hb hC
  refine hK.out _ _ ⟨H10.at, H1.at⟩ (fun hHeld => ?_)
  clear hK K
  refine norm_ (a' := ?_) ?_ ?_
  rotate_left
  · show Act.put _ (some 59) _ = _
    simp only [Act.put, List.setIfInBounds_toArray, List.set_cons_zero, List.set_cons_succ, i64_w, i32_w]
    rfl
  refine one_ (i := 3) (N := some 60) #[true, true, true, true, false] rfl rfl (by kernel_rfl) (by decide) (fun K hK => ?_)
  refine goes_ Try.func19 (by kernel_rfl) rfl #[.agg #[.int .i64 p, .int .i64 n, .slice A6 l.length c6], .agg #[.int .i64 p, .int .i64 n, .slice A9 l.length c9]] (by rfl) rfl rfl (by simp only [List.map_toArray, List.map_cons, List.map_nil]; rfl) ?_
  with_reducible refine (eqGroup_same p n A6 l.length c6 A9 l.length c9 l _ HG.out HG2.out).mono ?_
  rintro e w11 ⟨rfl, hb⟩
  refine ⟨_, rfl, ?_⟩
  replace HX := Aside0.mk (Kd.C_below HX.out hb)
  replace HY := Aside0.mk (Kd.C_below HY.out hb)
  replace H1 := H1.keep hb
  replace H10 := H10.keep hb
  replace HB := Aside0.mk (below_step HB.out hb)
  clear hb
  refine hK.out _ _ ⟨H10.at, H1.at⟩ (fun hHeld => ?_)
  clear hK K
  refine norm_ (a' := ?_) ?_ ?_
  rotate_left
  · show Act.put _ (some 60) _ = _
    simp only [Act.put, List.setIfInBounds_toArray, List.set_cons_zero, List.set_cons_succ, i64_w, i32_w]
    rfl
  refine pure_ (i := 4) (N := some 61) (v := ?_) (a' := ?_) #[true, true, true, true, true] rfl rfl (by kernel_rfl) (fun _ _ _ h => h) (Or.inl ⟨by rfl, ?_⟩) ?_ ?_
  rotate_left
  · intro w'
    go_simp
    with_reducible rfl
  rotate_left
  · simp only [Act.put, List.setIfInBounds_toArray, List.set_cons_zero, List.set_cons_succ, i64_w, i32_w]
    rfl
  refine done_ (by kernel_rfl) ?_
  go_wp2_with fail
  go_at_call 17
  refine (toInt64S_calls A1 x.length c1 x _ (Kd.C_below HR1.out HB.out) hx).mono ?_
  rintro e w12 ⟨v12, rfl, ho, hb⟩
  obtain ⟨A12, c12, rfl, hc12, hC12⟩ := Kd.R_reads ho
  have HX2 := Aside0.mk hC12
  replace HX := Aside0.mk (Kd.C_below HX.out hb)
  replace HY := Aside0.mk (Kd.C_below HY.out hb)
  replace HB := Aside0.mk (below_step HB.out hb)
  clear hb ho hC12
  go_wp2_with fail
  go_at_call 20
  refine (eqInt64S_calls A7 x.length c7 x A12 x.length c12 x _ HX.out HX2.out).mono ?_
  rw [sameB_self]
  rintro e w13 ⟨rfl, hd⟩
  replace HY := Aside0.mk (Kd.C_below HY.out hd.below)
  replace HB := Aside0.mk (below_step HB.out hd.below)
  clear hd
  go_wp2_with fail
  go_at_call 17
  refine (toInt64S_calls A2 y.length c2 y _ (Kd.C_below HR2.out HB.out) hy).mono ?_
  rintro e w14 ⟨v14, rfl, ho, hb⟩
  obtain ⟨A14, c14, rfl, hc14, hC14⟩ := Kd.R_reads ho
  have HY2 := Aside0.mk hC14
  replace HY := Aside0.mk (Kd.C_below HY.out hb)
  replace HB := Aside0.mk (below_step HB.out hb)
  clear hb ho hC14
  go_wp2_with fail
  go_at_call 20
  refine (eqInt64S_calls A8 y.length c8 y A14 y.length c14 y _ HY.out HY2.out).mono ?_
  rw [sameB_self]
  rintro e w15 ⟨rfl, hd⟩
  replace HB := Aside0.mk (below_step HB.out hd.below)
  clear hd
  go_wp2
  go_ret
  exact ⟨rfl, HB.out⟩
end Go.Proofs.Ytbenhcognapdpaa
