/- Walks: where a matrix leads a point, in the program. -/
import Derived.Test.YtbenhcognapdpaaOrbW1
set_option linter.unusedVariables false
set_option linter.unusedSimpArgs false
namespace Go.Proofs.Ytbenhcognapdpaa
open Go.RowKit Go.Proofs.YtbenhcognapdpaaW.PrintWords Go.Proofs.YtbenhcognapdpaaW.PrintLast Lin

/-- The numbers while the program sums them: the rows below i are in, and of the row i those below j. -/
def ledF (p : Int) (x m : List Int) (i j c : Nat) : Int := (if c < j then dotV x m c (i + 1) else dotV x m c i) % p
def ledL (p : Int) (n : Nat) (x m : List Int) (i j : Nat) : List Int := (List.range n).map (ledF p x m i j)
theorem ledL_len (p : Int) (n : Nat) (x m : List Int) (i j : Nat) : (ledL p n x m i j).length = n := by simp [ledL]
theorem ledL_nt (p : Int) (n : Nat) (x m : List Int) (i j : Nat) {c : Nat} (hc : c < n) : nt (ledL p n x m i j) c = ledF p x m i j c := by
  rw [nt_eq _ _ (by rw [ledL_len]; exact hc)]
  simp [ledL]
theorem ledL_zero (p : Int) (n : Nat) (x m : List Int) : List.replicate n 0 = ledL p n x m 0 0 := by
  refine row_ext (by simp [ledL_len]) fun c hc => ?_
  rw [List.length_replicate] at hc
  rw [ledL_nt _ _ _ _ _ _ hc, nt_eq _ _ (by simpa using hc)]
  simp [ledF, dotV]
theorem ledL_set (p : Int) (n : Nat) (x m : List Int) (i j : Nat) (hj : j < n) : (ledL p n x m i j).set j ((nt (ledL p n x m i j) j + nt x i * nt m (i * 3 + j)) % p) = ledL p n x m i (j + 1) := by
  refine row_ext (by simp [ledL_len]) fun c hc => ?_
  rw [List.length_set, ledL_len] at hc
  rw [nt_set (by rw [ledL_len]; omega), ledL_nt _ _ _ _ _ _ hc, ledL_nt _ _ _ _ _ _ hc, ledL_nt _ _ _ _ _ _ hj]
  by_cases h : c = j
  · subst h
    rw [if_pos rfl]
    simp only [ledF]
    rw [if_neg (by omega), if_pos (by omega), Int.emod_add_emod]
    rfl
  · rw [if_neg h]
    unfold ledF
    by_cases h2 : c < j
    · rw [if_pos h2, if_pos (by omega)]
    · rw [if_neg h2, if_neg (by omega)]
theorem ledL_next (p : Int) (n : Nat) (x m : List Int) (i : Nat) : ledL p n x m i n = ledL p n x m (i + 1) 0 := by
  refine row_ext (by simp [ledL_len]) fun c hc => ?_
  rw [ledL_len] at hc
  rw [ledL_nt _ _ _ _ _ _ hc, ledL_nt _ _ _ _ _ _ hc]
  unfold ledF
  rw [if_pos hc, if_neg (by omega)]
theorem ledL_done (p : Int) (n : Nat) (x m : List Int) : ledL p n x m n 0 = leadV p n x m := by
  refine row_ext (by rw [ledL_len, leadV_len]) fun c hc => ?_
  rw [ledL_len] at hc
  rw [ledL_nt _ _ _ _ _ _ hc, leadV_nt _ _ _ _ hc]
  unfold ledF
  rw [if_neg (by omega)]
theorem ledF_bd {p : Int} (hp : 0 < p) (x m : List Int) (i j c : Nat) : 0 ≤ ledF p x m i j c ∧ ledF p x m i j c < p := ⟨Int.emod_nonneg _ (by omega), Int.emod_lt_of_pos _ hp⟩

set_option maxRecDepth 100000 in
set_option maxHeartbeats 1000000 in
theorem led_calls (p : Int) (n : Nat) (A : Option Addr) (q c : Nat) (x m : List Int) (w : World) (hr : kI.C w A q x) (hp : 0 < p) (hp2 : p ≤ 1000) (hn1 : 1 ≤ n) (hn : n ≤ 3) (hm : IsM m) (hl : x.length = n) (hx : InR p x) :
    Calls Try.prog 89 #[.int .i64 p, .int .i64 n, .slice A q c, .agg (mcells m)] w fun e w' => ∃ v, e = .returned v ∧ kI.R 2 w' w.heap.size (fun _ => True) v (leadV p n x m) ∧ Below w.heap.size w w' := by
  obtain rfl := Kd.C_len hr
  have HR := Aside0.mk hr
  have HM := Aside0.mk hm
  have HX := Aside0.mk (And.intro hl hx)
  clear hr hm hl hx
  go_enter Try.func89, Try.ntmps89
  go_wp2_with ((refine make_int rfl rfl _ (.tmp 13) (.tmp 13) rfl n rfl rfl Try.underlying38 infoI (by omega) (by omega) ?_; intro v9 w1 ho1 hb1; rw [Int.toNat_natCast, ledL_zero p n x m] at ho1; obtain ⟨g, cap, hv9, hg1, hg2, cells, hcell⟩ := Kd.R_form ho1 (by rw [ledL_len]; omega); rw [ledL_len] at hv9; subst hv9; have HO1 := Aside0.mk ho1; have HB1 := Aside0.mk hb1; clear ho1 hb1 hcell))
  have H1 := (Blk.new w (mcells m) 103).keep HB1.out
  have hgs : w.heap.size < g := by rw [size_alloc] at hg1; omega
  have HS := Aside0.mk (Kd.R_lower HO1.out (show w.heap.size ≤ _ by rw [size_alloc]; omega))
  have HB := Aside0.mk (below_step (below_alloc (Below.refl w.heap.size w) _) HB1.out)
  clear HO1 HB1 hg1
  go_loopw [17] (fun v17 wr => ∃ i : Nat, v17 = .int .i64 i ∧ i ≤ x.length ∧ Aside0 (kI.R 2 wr w.heap.size (fun _ => True) (.slice (some ⟨g, 0, none⟩) n cap) (ledL p n x m i 0)) ∧ Blk wr w.heap.size 103 (mcells m) ∧ Aside0 (Below w.heap.size w wr)) (fun v17 _ => x.length - (intOf v17).toNat)
  case atStart => exact ⟨0, rfl, by omega, HS, H1, HB⟩
  case round =>
    clear HS H1 HB
    obtain ⟨i, rfl, hi, HS, H1, HB⟩ := hrel
    by_cases hlt : i < x.length
    · obtain ⟨ad, rfl, hc⟩ := at_nt HR.out i hlt
      have hw := ((HB.out.cell (World.block_lt_of_cell? _ _ hc)).trans hc)
      have hd3 : decide ((i : Int) < x.length) = true := decide_eq_true (by omega)
      have hin : i < n := by have := HX.out.1; omega
      go_wp2
      obtain ⟨wo, rfl⟩ : ∃ wo, wo = wr := ⟨_, rfl⟩
      clear hw
      go_loopw [23] (fun v23 wr => ∃ j : Nat, v23 = .int .i64 j ∧ j ≤ n ∧ Aside0 (kI.R 2 wr w.heap.size (fun _ => True) (.slice (some ⟨g, 0, none⟩) n cap) (ledL p n x m i j)) ∧ Blk wr w.heap.size 103 (mcells m) ∧ Aside0 (Below w.heap.size w wr)) (fun v23 _ => n - (intOf v23).toNat)
      case atStart => exact ⟨0, rfl, by omega, HS, H1, HB⟩
      case round =>
        clear HS H1 HB
        obtain ⟨j, rfl, hj, HS, H1, HB⟩ := hrel
        by_cases hjl : j < n
        · have hd4 : decide ((j : Int) < n) = true := decide_eq_true (by omega)
          obtain ⟨hj1, hj2⟩ := own_cell HS.out j hjl
          have hbd : 0 ≤ nt (ledL p n x m i j) j ∧ nt (ledL p n x m i j) j < p := by rw [ledL_nt _ _ _ _ _ _ hjl]; exact ledF_bd hp ..
          have hst := Aside0.mk (ledL_set p n x m i j hjl)
          generalize nt (ledL p n x m i j) j = z at *
          have c1 := H1.cell (i * 3 + j) (mcells_get m _ (by have := HM.out.1; omega))
          have e1 := HX.out.2.nt hp i
          have e2 := HM.out.nt (i * 3 + j)
          have m1 : 0 ≤ nt x i * nt m (i * 3 + j) := Int.mul_nonneg e1.1 e2.1
          have m2 : nt x i * nt m (i * 3 + j) ≤ 1000 * 255 := Int.mul_le_mul (by omega) e2.2 e2.1 (by omega)
          have hp0 : (p == 0) = false := by rw [beq_eq_false_iff_ne]; omega
          go_wp2
          go_region
          go_wp2
          go_roundw
          case rel => exact ⟨j + 1, by go_num, by omega, ⟨by rw [← hst.out]; exact Kd.R_drew (own_put HS.out j _)⟩, (H1.far (by dsimp only; omega) _).drew, ⟨below_drew (HB.out.setCell (by dsimp only; omega) _)⟩⟩
          case measure => simp [intOf]; omega
        · obtain rfl : j = n := by omega
          have HS2 := HS
          rw [ledL_next] at HS2
          go_wp2
          go_roundw
          case rel => exact ⟨i + 1, by go_num, by omega, HS2, H1, HB⟩
          case measure => simp [intOf]; omega
    · have hie : i = n := by have := HX.out.1; omega
      have HS2 := HS
      rw [hie, ledL_done] at HS2
      clear hie
      go_wp2
      go_ret
      exact ⟨_, rfl, HS2.out, HB.out⟩
end Go.Proofs.Ytbenhcognapdpaa
