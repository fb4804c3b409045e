/- Walks: where a matrix leads a point. -/
import Derived.Test.YtbenhcognapdpaaOrbM
import Derived.Test.YtbenhcognapdpaaInv
set_option linter.unusedVariables false
set_option linter.unusedSimpArgs false
namespace Go.Proofs.Ytbenhcognapdpaa
open Go.RowKit Go.Proofs.YtbenhcognapdpaaW.PrintWords Go.Proofs.YtbenhcognapdpaaW.PrintLast Lin

theorem leadV_take (p : Int) (n : Nat) (x m : List Int) (j : Nat) (hj : j < n) : (leadV p n x m).take (j + 1) = (leadV p n x m).take j ++ [dotV x m j n % p] := by
  rw [take_succ_nt _ _ (by rw [leadV_len]; exact hj), leadV_nt _ _ _ _ hj]
set_option maxRecDepth 100000 in
set_option maxHeartbeats 1000000 in
theorem l02Lead_calls (p : Int) (n : Nat) (m : List Int) (A : Option Addr) (q c : Nat) (x : List Int) (w : World) (hr : kI.C w A q x) (hp : 0 < p) (hp2 : p ≤ 1000) (hn : n ≤ 3) (hm : IsM m) (hl : x.length = n) (hx : InR p x) :
    Calls Try.prog 123 #[.int .i64 p, .int .i64 n, .agg (mcells m), .slice A q c] w fun e w' => ∃ v, e = .returned v ∧ kI.R 2 w' w.heap.size (fun _ => True) v (leadV p n x m) ∧ Below w.heap.size w w' := by
  obtain rfl := Kd.C_len hr
  have HR := Aside0.mk hr
  have HM := Aside0.mk hm
  have HX := Aside0.mk (And.intro hl hx)
  have HD := Aside0.mk (fun j k => dotV_bd (k := k) hx hp hp2 hm j)
  clear hr hm hl hx
  go_enter Try.func123, Try.ntmps123
  go_wp2
  go_loopw [9, 10] (fun v9 v10 wr => ∃ j : Nat, v10 = .int .i64 j ∧ j ≤ n ∧ Aside0 (kI.R 2 wr w.heap.size (fun _ => True) v9 ((leadV p n x m).take j)) ∧ Aside0 (∀ b, v9.ownBlock = some b → w.heap.size < b) ∧ Blk wr w.heap.size 103 (mcells m) ∧ Aside0 (Below w.heap.size w wr)) (fun _ v10 _ => n - (intOf v10).toNat)
  case atStart => exact ⟨0, rfl, by omega, ⟨R_litAt kI _ _ _ (by rw [size_alloc]) (below_alloc (Below.refl _ _) _).size⟩, ⟨fun b hb => by simp [Value.ownBlock] at hb; omega⟩, (Blk.new _ _ _).alloc _, ⟨below_alloc (below_alloc (Below.refl _ _) _) _⟩⟩
  case round =>
    obtain ⟨j, rfl, hj, HO, HV, H1, HB⟩ := hrel
    by_cases hlt : j < n
    · have hd3 : decide ((j : Int) < n) = true := decide_eq_true (by omega)
      go_wp2
      obtain ⟨wo, rfl⟩ : ∃ wo, wo = wr := ⟨_, rfl⟩
      go_loopw [11, 12] (fun v11 v12 wr => ∃ k : Nat, v12 = .int .i64 k ∧ v11 = .int .i64 (dotV x m j k) ∧ k ≤ n ∧ Aside0 (kI.R 2 wr w.heap.size (fun _ => True) u9 ((leadV p n x m).take j)) ∧ Blk wr w.heap.size 103 (mcells m) ∧ Aside0 (Below w.heap.size w wr)) (fun _ v12 _ => n - (intOf v12).toNat)
      case atStart => exact ⟨0, rfl, rfl, by omega, HO, H1, HB⟩
      case round =>
        clear HO H1 HB
        obtain ⟨k, rfl, rfl, hk, HO, H1, HB⟩ := hrel
        have hd := HD.out j k
        have hdu : dotV x m j k ≤ 3 * 255000 := by omega
        have hd1 := hd.1
        clear hd
        by_cases hkl : k < n
        · obtain ⟨ad, rfl, hc⟩ := at_nt HR.out k (by have := HX.out.1; omega)
          have hw := ((HB.out.cell (World.block_lt_of_cell? _ _ hc)).trans hc)
          have hkx : k < x.length := by have := HX.out.1; omega
          have c1 := H1.cell (k * 3 + j) (mcells_get m _ (by have := HM.out.1; omega))
          have e1 := HX.out.2.nt hp k
          have e2 := HM.out.nt (k * 3 + j)
          have m1 : 0 ≤ nt x k * nt m (k * 3 + j) := Int.mul_nonneg e1.1 e2.1
          have m2 : nt x k * nt m (k * 3 + j) ≤ 1000 * 255 := Int.mul_le_mul (by omega) e2.2 e2.1 (by omega)
          go_wp2
          go_quiet (fail)
          go_wp2
          go_roundw
          case rel => exact ⟨k + 1, by go_num, by go_num, by omega, ⟨Kd.R_drewN HO.out _⟩, H1.drewN _, ⟨pw_below_drewN HB.out _⟩⟩
          case measure => simp [intOf]; omega
        · obtain rfl : k = n := by omega
          have hp0 : (p == 0) = false := by rw [beq_eq_false_iff_ne]; omega
          have HLE : Aside0 (((leadV p k x m).take j).length < 17592186044416) := ⟨by rw [List.length_take]; omega⟩
          go_wp2_with ((at_builtin; go_must (refine app_int (w0 := w) rfl _ _ _ rfl Try.underlying38 infoI u9 ((leadV p k x m).take j) _ rfl rfl HO.out HB.out HLE.out ?_); intro v1 w1 HO1 HB1 hg9 hat9; have HO1 := Aside0.mk HO1; have HB1 := Aside0.mk HB1; have HH := Aside0.mk (And.intro hg9 hat9); clear hg9 hat9))
          obtain ⟨hg9, hat9⟩ := HH.out
          have hne1 : some w.heap.size ≠ u9.ownBlock := fun h => by have := HV.out _ h.symm; omega
          have hsz := H1.lt
          go_roundw
          case rel => exact ⟨j + 1, by go_num, by omega, ⟨by rw [leadV_take p k x m j hlt]; exact HO1.out⟩, ⟨fun b hb => by rcases hat9 with h | ⟨b', h1, h2⟩; exact HV.out b (h ▸ hb); rw [h1] at hb; cases hb; omega⟩, H1.grown hg9 hne1, HB1⟩
          case measure => simp [intOf]; omega
    · go_wp2
      go_ret
      exact ⟨_, rfl, by rw [show leadV p n x m = (leadV p n x m).take j from (List.take_of_length_le (by rw [leadV_len]; omega)).symm]; exact HO.out, HB.out⟩
end Go.Proofs.Ytbenhcognapdpaa
