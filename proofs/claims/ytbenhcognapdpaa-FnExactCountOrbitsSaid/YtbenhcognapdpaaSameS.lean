/- Walks: the specification's answer whether two points are in one orbit. -/
import Derived.Test.YtbenhcognapdpaaOrbW2
import Derived.Test.YtbenhcognapdpaaSmallW
set_option linter.unusedVariables false
set_option linter.unusedSimpArgs false
namespace Go.Proofs.Ytbenhcognapdpaa
open Go.RowKit Go.Proofs.YtbenhcognapdpaaW.PrintWords Go.Proofs.YtbenhcognapdpaaW.PrintLast Lin

theorem orbitS_ne {p : Int} {n : Nat} {l : List (List Int)} {x : List Int} (h : 1 ≤ l.length) : 0 < (orbitS p n l x).length := by
  have hm : ntR l 0 ∈ l := ntR_mem l 0 (by omega)
  exact List.length_pos_of_mem (orbitS_mem.2 ⟨_, hm, rfl⟩)
set_option maxRecDepth 100000 in
set_option maxHeartbeats 1000000 in
theorem l09Least_calls (p : Int) (n : Nat) (A : Option Addr) (q c : Nat) (l : List (List Int)) (A' : Option Addr) (q' c' : Nat) (x : List Int) (w : World) (hr : kM.C w A q l) (hl : ∀ m ∈ l, IsM m) (hr' : kI.C w A' q' x)
    (hp : 0 < p) (hp2 : p ≤ 1000) (hn : n ≤ 3) (hx : Pt p n x) (hl48 : l.length ≤ 48) (hl1 : 1 ≤ l.length) :
    Calls Try.prog 40 #[.agg #[.int .i64 p, .int .i64 n, .slice A q c], .slice A' q' c'] w fun e w' => ∃ A2 c2, e = .returned (.slice A2 (ntR' (orbitS p n l x)).length c2) ∧ kI.C w' A2 (ntR' (orbitS p n l x)).length (ntR' (orbitS p n l x)) ∧ Below w.heap.size w w' := by
  have hbox := below_alloc (Below.refl w.heap.size w) (.cells #[.int .i64 p, .int .i64 n, .slice A q c] 44)
  have HK := Aside0.mk (l02Orbit_calls p n A q c l A' q' c' x _ (Kd.C_below hr hbox) hl (Kd.C_below hr' hbox) hp hp2 hn hx hl48)
  have HBX := Aside0.mk hbox
  have HNE := Aside0.mk (orbitS_ne (p := p) (n := n) (x := x) hl1)
  clear hr hl hr' hx hbox
  have H1 := Blk.new w #[.int .i64 p, .int .i64 n, .slice A q c] 44
  go_enter Try.func40, Try.ntmps40
  go_wp2_with (first
    | (refine load_blk rfl _ 2 rfl H1 rfl _ Try.underlying44 rfl sizeG ?_)
    | (go_at_call 86; refine HK.out.mono ?_; rintro e w1 ⟨v, rfl, ho, hb⟩; obtain ⟨A5, c5, rfl, hc5, hC5⟩ := Kd.R_reads ho; obtain ⟨ad, A0, c0, row, hrr, rfl, hc, hrc, hC⟩ := at_row hC5 0 HNE.out; have hgt := HNE.out; have HC := Aside0.mk hC; have HRR := Aside0.mk hrr; have HB := Aside0.mk hb; rw [show ad.add 0 = ad by simp [Addr.add]] at hc; have hc0 : w1.cell? (ad.add 0) = some (.slice A0 row.length c0) := (by rw [show ad.add 0 = ad by simp [Addr.add]]; exact hc); clear ho hC5 hC hrr hb))
  go_ret
  have e : ntR' (orbitS p n l x) = row := HRR.out.symm
  rw [e]
  exact ⟨A0, c0, rfl, HC.out, below_step HBX.out HB.out⟩

/-- What both programs answer. -/
noncomputable def sameR (p n : Int) (l : List (List Int)) (x y : List Int) : Bool × Int :=
  if grpB p n l = true then if (pointB p n x && pointB p n y) = true then (decide (ntR' (orbitS p n.toNat l x) = ntR' (orbitS p n.toNat l y)), 0) else (false, 2) else (false, 1)
theorem pointB_pt {p : Int} {n : Nat} {x : List Int} : pointB p n x = true ↔ Pt p n x := by
  unfold pointB Pt
  rw [decide_eq_true_iff]
  constructor
  · rintro ⟨h1, h2⟩; exact ⟨by omega, h2⟩
  · rintro ⟨h1, h2⟩; exact ⟨by omega, h2⟩
set_option maxRecDepth 100000 in
set_option maxHeartbeats 2000000 in
theorem specSame_calls (p n : Int) (A : Option Addr) (q c : Nat) (l : List (List Int)) (A1 : Option Addr) (q1 c1 : Nat) (x : List Int) (A2 : Option Addr) (q2 c2 : Nat) (y : List Int) (w : World) (hr : kM.C w A q l) (hl : ∀ m ∈ l, IsM m) (hr1 : kI.C w A1 q1 x) (hr2 : kI.C w A2 q2 y) :
    Calls Try.prog 15 #[.agg #[.int .i64 p, .int .i64 n, .slice A q c], .slice A1 q1 c1, .slice A2 q2 c2] w fun e w' => e = .returned (.tuple #[.bool (sameR p n l x y).1, .int .i64 (sameR p n l x y).2]) ∧ Below w.heap.size w w' := by
  have HR := Aside0.mk hr
  have HR1 := Aside0.mk hr1
  have HR2 := Aside0.mk hr2
  have HL := Aside0.mk hl
  have hbox := below_alloc (Below.refl w.heap.size w) (.cells #[.int .i64 p, .int .i64 n, .slice A q c] 44)
  have HBX := Aside0.mk hbox
  have HKG := Aside0.mk (l02Is_calls p n A q c l _ (Kd.C_below hr hbox) hl)
  clear hr hr1 hr2 hl hbox
  have H1 := Blk.new w #[.int .i64 p, .int .i64 n, .slice A q c] 44
  cases hgb : grpB p n l
  · have HN : Aside0 (sameR p n l x y = (false, 1)) := ⟨by simp [sameR, hgb]⟩
    rw [hgb] at HKG
    go_enter Try.func15, Try.ntmps15
    go_wp2_with (first
      | (refine load_blk rfl _ 3 rfl H1 rfl _ Try.underlying44 rfl sizeG ?_)
      | (go_at_call 37; refine HKG.out.mono ?_; rintro e w1 ⟨rfl, hb⟩; have HB := Aside0.mk hb; clear hb))
    refine bodyPost_ret (results_tmp2 rfl _ _ _) rfl ?_
    exact ⟨by rw [HN.out]; rfl, below_step HBX.out HB.out⟩
  have hok := grpB_iff.1 hgb
  have hP := primeB_iff.1 hok.prime
  have hpp := hP.pos
  have hvv : 1 ≤ n ∧ n ≤ 3 := of_decide_eq_true hok.vars
  obtain ⟨n, rfl⟩ : ∃ k : Nat, n = k := ⟨n.toNat, by omega⟩
  have hl1 := hok.least
  have hl48 := hok.most
  rw [hgb] at HKG
  have HKX := Aside0.mk (fun W (h : Below w.heap.size w W) => l01Point_calls p n A1 q1 c1 x W (Kd.C_below HR1.out h) (by omega) (by omega))
  have HKY := Aside0.mk (fun W (h : Below w.heap.size w W) => l01Point_calls p n A2 q2 c2 y W (Kd.C_below HR2.out h) (by omega) (by omega))
  clear hok
  have hgc : sameR p n l x y = if (pointB p n x && pointB p n y) = true then (decide (ntR' (orbitS p n l x) = ntR' (orbitS p n l y)), 0) else (false, 2) := by simp [sameR, hgb]
  cases hpx : pointB p n x
  · have HN : Aside0 (sameR p n l x y = (false, 2)) := ⟨by rw [hgc, hpx]; rfl⟩
    rw [hpx] at HKX
    go_enter Try.func15, Try.ntmps15
    go_wp2_with (first
      | (refine load_blk rfl _ 3 rfl H1 rfl _ Try.underlying44 rfl sizeG ?_)
      | (go_at_call 37; refine HKG.out.mono ?_; rintro e w1 ⟨rfl, hb⟩; replace H1 := H1.keep hb; have k0 := H1.cell 0 rfl; have k1 := H1.cell 1 rfl; have HB := Aside0.mk (below_step HBX.out hb); clear hb)
      | (go_at_call 38; refine (HKX.out _ HB.out).mono ?_; rintro e w2 ⟨rfl, hd⟩; replace HB := Aside0.mk (below_step HB.out hd.below); clear hd))
    refine bodyPost_ret (results_tmp2 rfl _ _ _) rfl ?_
    exact ⟨by rw [HN.out]; rfl, HB.out⟩
  cases hpy : pointB p n y
  · have HN : Aside0 (sameR p n l x y = (false, 2)) := ⟨by rw [hgc, hpx, hpy]; rfl⟩
    rw [hpx] at HKX
    rw [hpy] at HKY
    go_enter Try.func15, Try.ntmps15
    go_wp2_with (first
      | (refine load_blk rfl _ 3 rfl H1 rfl _ Try.underlying44 rfl sizeG ?_)
      | (go_at_call 37; refine HKG.out.mono ?_; rintro e w1 ⟨rfl, hb⟩; replace H1 := H1.keep hb; have k0 := H1.cell 0 rfl; have k1 := H1.cell 1 rfl; have HB := Aside0.mk (below_step HBX.out hb); clear hb)
      | (go_at_call 38; refine (HKX.out _ HB.out).mono ?_; rintro e w2 ⟨rfl, hd⟩; replace H1 := H1.keep hd.below; have k0' := H1.cell 0 rfl; have k1' := H1.cell 1 rfl; replace HB := Aside0.mk (below_step HB.out hd.below); replace HKX := HKY; clear hd))
    refine bodyPost_ret (results_tmp2 rfl _ _ _) rfl ?_
    exact ⟨by rw [HN.out]; rfl, HB.out⟩
  have HN : Aside0 (sameR p n l x y = (decide (ntR' (orbitS p n l x) = ntR' (orbitS p n l y)), 0)) := ⟨by rw [hgc, hpx, hpy]; rfl⟩
  have HPX := Aside0.mk (pointB_pt.1 hpx)
  have HPY := Aside0.mk (pointB_pt.1 hpy)
  rw [hpx] at HKX
  rw [hpy] at HKY
  have HKL := Aside0.mk (fun W (h : Below w.heap.size w W) => l09Least_calls p n A q c l A1 q1 c1 x W (Kd.C_below HR.out h) HL.out (Kd.C_below HR1.out h) (by omega) (by omega) (by omega) HPX.out hl48 hl1)
  have HKM := Aside0.mk (fun W (h : Below w.heap.size w W) => l09Least_calls p n A q c l A2 q2 c2 y W (Kd.C_below HR.out h) HL.out (Kd.C_below HR2.out h) (by omega) (by omega) (by omega) HPY.out hl48 hl1)
  have hlx : (ntR' (orbitS p n l x)).length = n := orbitS_rows (ntR'_mem (by have := orbitS_ne (p := p) (n := n) (x := x) hl1; intro h; rw [h] at this; simp at this))
  have hly : (ntR' (orbitS p n l y)).length = n := orbitS_rows (ntR'_mem (by have := orbitS_ne (p := p) (n := n) (x := y) hl1; intro h; rw [h] at this; simp at this))
  obtain ⟨fx, hfx⟩ : ∃ fx, fx = ntR' (orbitS p n l x) := ⟨_, rfl⟩
  obtain ⟨fy, hfy⟩ : ∃ fy, fy = ntR' (orbitS p n l y) := ⟨_, rfl⟩
  rw [← hfx, ← hfy] at HN
  rw [← hfx] at HKL hlx
  rw [← hfy] at HKM hly
  have HLL := Aside0.mk (show fx.length = fy.length by omega)
  clear hfx hfy hlx hly hgc hpx hpy
  go_enter Try.func15, Try.ntmps15
  go_wp2_with (first
    | (refine load_blk rfl _ 3 rfl H1 rfl _ Try.underlying44 rfl sizeG ?_)
    | (go_at_call 37; refine HKG.out.mono ?_; rintro e w1 ⟨rfl, hb⟩; replace H1 := H1.keep hb; have k0 := H1.cell 0 rfl; have k1 := H1.cell 1 rfl; have HB := Aside0.mk (below_step HBX.out hb); clear hb)
    | (go_at_call 38; refine (HKX.out _ HB.out).mono ?_; rintro e w2 ⟨rfl, hd⟩; replace H1 := H1.keep hd.below; have k0' := H1.cell 0 rfl; have k1' := H1.cell 1 rfl; replace HB := Aside0.mk (below_step HB.out hd.below); replace HKX := HKY; clear hd))
  refine start_ (n := 9) (S := fun w' => At w' ⟨w.heap.size, 0, none⟩ #[.int .i64 p, .int .i64 n, .slice A q c]) (ds := []) #[false, false, false, false, false, false, false, false, false] (by kernel_rfl) rfl rfl (H1.drew.at) (fun hHeld => ?_)
  refine pure_ (i := 1) (N := some 30) (v := ?_) (a' := ?_) #[false, true, false, false, false, false, false, false, false] rfl rfl (by kernel_rfl) (fun _ _ _ h => h) (Or.inl ⟨by rfl, ?_⟩) ?_ ?_
  rotate_left
  · intro w'
    go_simp
    with_reducible rfl
  rotate_left
  · simp only [Act.put, List.setIfInBounds_toArray, List.set_cons_zero, List.set_cons_succ, i64_w, i32_w]
    rfl
  refine pure_ (i := 4) (N := some 33) (v := ?_) (a' := ?_) #[false, true, false, false, true, false, false, false, false] rfl rfl (by kernel_rfl) (fun _ _ _ h => h) (Or.inl ⟨by rfl, ?_⟩) ?_ ?_
  rotate_left
  · intro w'
    go_simp
    with_reducible rfl
  rotate_left
  · simp only [Act.put, List.setIfInBounds_toArray, List.set_cons_zero, List.set_cons_succ, i64_w, i32_w]
    rfl
  refine take_ (i := 0) (N := some 29) (v := ?_) (a' := ?_) #[true, true, false, false, true, false, false, false, false] rfl rfl (by kernel_rfl) (fun _ _ _ h => h) (Or.inl ⟨by rfl, ?_⟩) hHeld ?_ ?_
  rotate_left
  · intro w' s0
    refine Eq.trans (run_op_load' s0 (by rfl) (by rfl) Try.underlying44 rfl sizeG) ?_
    with_reducible rfl
  rotate_left
  · simp only [Act.put, List.setIfInBounds_toArray, List.set_cons_zero, List.set_cons_succ, i64_w, i32_w]
    rfl
  refine take_ (i := 3) (N := some 32) (v := ?_) (a' := ?_) #[true, true, false, true, true, false, false, false, false] rfl rfl (by kernel_rfl) (fun _ _ _ h => h) (Or.inl ⟨by rfl, ?_⟩) hHeld ?_ ?_
  rotate_left
  · intro w' s0
    refine Eq.trans (run_op_load' s0 (by rfl) (by rfl) Try.underlying44 rfl sizeG) ?_
    with_reducible rfl
  rotate_left
  · simp only [Act.put, List.setIfInBounds_toArray, List.set_cons_zero, List.set_cons_succ, i64_w, i32_w]
    rfl
  refine one_ (i := 2) (N := some 31) #[true, true, true, true, true, false, false, false, false] rfl rfl (by kernel_rfl) (by decide) (fun K hK => ?_)
  refine goes_ Try.func40 (by kernel_rfl) rfl #[.agg #[.int .i64 p, .int .i64 n, .slice A q c], .slice A1 q1 c1] (by rfl) rfl rfl (by simp only [List.map_toArray, List.map_cons, List.map_nil]; rfl) ?_
  with_reducible refine (HKL.out _ (below_drew1 HB.out)).mono ?_
  rintro e w3 ⟨B1, d1, rfl, hc, hb⟩
  refine ⟨_, rfl, ?_⟩
  have HC1 := Aside0.mk hc
  replace H1 := H1.drew.keep hb
  replace HB := Aside0.mk (below_step (below_drew1 HB.out) hb)
  clear hc hb
  refine hK.out _ _ (H1.at) (fun hHeld => ?_)
  clear hK K
  refine norm_ (a' := ?_) ?_ ?_
  rotate_left
  · show Act.put _ (some 31) _ = _
    simp only [Act.put, List.setIfInBounds_toArray, List.set_cons_zero, List.set_cons_succ, i64_w, i32_w]
    rfl
  refine one_ (i := 5) (N := some 34) #[true, true, true, true, true, true, false, false, false] rfl rfl (by kernel_rfl) (by decide) (fun K hK => ?_)
  refine goes_ Try.func40 (by kernel_rfl) rfl #[.agg #[.int .i64 p, .int .i64 n, .slice A q c], .slice A2 q2 c2] (by rfl) rfl rfl (by simp only [List.map_toArray, List.map_cons, List.map_nil]; rfl) ?_
  with_reducible refine (HKM.out _ HB.out).mono ?_
  rintro e w4 ⟨B2, d2, rfl, hc, hb⟩
  refine ⟨_, rfl, ?_⟩
  have HC2 := Aside0.mk hc
  replace HC1 := Aside0.mk (Kd.C_below HC1.out hb)
  replace H1 := H1.keep hb
  replace HB := Aside0.mk (below_step HB.out hb)
  clear hc hb
  refine hK.out _ _ (H1.at) (fun hHeld => ?_)
  clear hK K
  refine norm_ (a' := ?_) ?_ ?_
  rotate_left
  · show Act.put _ (some 34) _ = _
    simp only [Act.put, List.setIfInBounds_toArray, List.set_cons_zero, List.set_cons_succ, i64_w, i32_w]
    rfl
  refine one_ (i := 6) (N := some 35) #[true, true, true, true, true, true, true, false, false] rfl rfl (by kernel_rfl) (by decide) (fun K hK => ?_)
  refine goes_ Try.func39 (by kernel_rfl) rfl #[.slice B1 fx.length d1, .slice B2 fy.length d2] (by rfl) rfl rfl (by simp only [List.map_toArray, List.map_cons, List.map_nil]; rfl) ?_
  with_reducible refine (l09Same_calls B1 fx.length d1 fx B2 fy.length d2 fy _ HC1.out HC2.out HLL.out).mono ?_
  rintro e w5 ⟨rfl, hd⟩
  refine ⟨_, rfl, ?_⟩
  have hb := hd.below
  replace H1 := H1.keep hb
  replace HB := Aside0.mk (below_step HB.out hb)
  clear hd hb
  refine hK.out _ _ (H1.at) (fun hHeld => ?_)
  clear hK K
  refine norm_ (a' := ?_) ?_ ?_
  rotate_left
  · show Act.put _ (some 35) _ = _
    simp only [Act.put, List.setIfInBounds_toArray, List.set_cons_zero, List.set_cons_succ, i64_w, i32_w]
    rfl
  refine pure_ (i := 7) (N := some 6) (v := ?_) (a' := ?_) #[true, true, true, true, true, true, true, true, false] rfl rfl (by kernel_rfl) (fun _ _ _ h => h) (Or.inl ⟨by rfl, ?_⟩) ?_ ?_
  rotate_left
  · intro w'
    go_simp
    with_reducible rfl
  rotate_left
  · simp only [Act.put, List.setIfInBounds_toArray, List.set_cons_zero, List.set_cons_succ, i64_w, i32_w]
    rfl
  refine pure_ (i := 8) (N := some 7) (v := ?_) (a' := ?_) #[true, true, true, true, true, true, true, true, true] rfl rfl (by kernel_rfl) (fun _ _ _ h => h) (Or.inl ⟨by rfl, ?_⟩) ?_ ?_
  rotate_left
  · intro w'
    go_simp
    with_reducible rfl
  rotate_left
  · simp only [Act.put, List.setIfInBounds_toArray, List.set_cons_zero, List.set_cons_succ, i64_w, i32_w]
    rfl
  refine done_ (by kernel_rfl) ?_
  go_wp2
  refine bodyPost_ret (results_tmp2 rfl _ _ _) rfl ?_
  exact ⟨by rw [HN.out]; rfl, HB.out⟩
end Go.Proofs.Ytbenhcognapdpaa
