/- Walks: the number of orbits, in the program and in the specification. -/
import Derived.Test.YtbenhcognapdpaaPtsW2
import Derived.Test.YtbenhcognapdpaaSameI2
set_option linter.unusedVariables false
set_option linter.unusedSimpArgs false
namespace Go.Proofs.Ytbenhcognapdpaa
open Go.RowKit Go.Proofs.YtbenhcognapdpaaW.PrintWords Go.Proofs.YtbenhcognapdpaaW.PrintLast Lin

def firstB (p : Int) (n : Nat) (l : List (List Int)) (x : List Int) : Bool := decide (ntR' (orbitS p n l x) = x)
def cntO (p : Int) (n : Nat) (l pts : List (List Int)) : Nat := pts.countP (firstB p n l)
theorem cntO_step (p : Int) (n : Nat) (l pts : List (List Int)) (k : Nat) (hk : k < pts.length) : cntO p n l (pts.take (k + 1)) = cntO p n l (pts.take k) + if firstB p n l (ntR pts k) = true then 1 else 0 := by
  unfold cntO
  rw [take_succ_ntR pts k hk, List.countP_append]
  simp [List.countP_cons]
theorem cntO_le (p : Int) (n : Nat) (l pts : List (List Int)) (k : Nat) : cntO p n l (pts.take k) ≤ k := by
  have h1 := List.countP_le_length (p := firstB p n l) (l := pts.take k)
  rw [List.length_take] at h1
  unfold cntO
  omega
theorem first_row {p : Int} {n : Nat} {l : List (List Int)} {x row : List Int} (h : row = ntR (orbitS p n l x) 0) : firstB p n l x = sameB row x := by
  unfold firstB sameB ntR'
  unfold ntR at h
  rw [← h]

set_option maxRecDepth 100000 in
set_option maxHeartbeats 1000000 in
theorem countOrbits_calls (p : Int) (n : Nat) (A : Option Addr) (q c : Nat) (l : List (List Int)) (A1 : Option Addr) (q1 c1 : Nat) (pts : List (List Int)) (w : World) (hr : kM.C w A q l) (hl : ∀ m ∈ l, IsM m) (hr1 : kR.C w A1 q1 pts)
    (hp : 0 < p) (hp2 : p ≤ 1000) (hn1 : 1 ≤ n) (hn : n ≤ 3) (hx : ∀ x ∈ pts, Pt p n x) (hl48 : l.length ≤ 48) (hl1 : 1 ≤ l.length) :
    Calls Try.prog 49 #[.agg #[.int .i64 p, .int .i64 n, .slice A q c], .slice A1 q1 c1] w fun e w' => e = .returned (.int .i64 (cntO p n l pts)) ∧ Below w.heap.size w w' := by
  obtain rfl := Kd.C_len hr1
  have hm1 := Kd.C_max hr1
  have HR := Aside0.mk hr
  have HL := Aside0.mk hl
  have HR1 := Aside0.mk hr1
  have HX := Aside0.mk hx
  have HBX := Aside0.mk (below_alloc (Below.refl w.heap.size w) (.cells #[.int .i64 p, .int .i64 n, .slice A q c] 44))
  have H1b := Blk.new w #[.int .i64 p, .int .i64 n, .slice A q c] 44
  clear hr hl hr1 hx
  go_enter Try.func49, Try.ntmps49
  go_wp2
  go_loopw [5, 10] (fun v5 v10 wr => ∃ k : Nat, v10 = .int .i64 k ∧ k ≤ pts.length ∧ v5 = .int .i64 (cntO p n l (pts.take k) : Nat) ∧ Blk wr w.heap.size 44 #[.int .i64 p, .int .i64 n, .slice A q c] ∧ Aside0 (Below w.heap.size w wr)) (fun _ v10 _ => pts.length - (intOf v10).toNat)
  case atStart => exact ⟨0, rfl, by omega, rfl, H1b, HBX⟩
  case round =>
    clear H1b
    obtain ⟨k, rfl, hk, rfl, H1, HB⟩ := hrel
    have hcl := cntO_le p n l pts k
    by_cases hlt : k < pts.length
    · obtain ⟨ad, A4, c4, x, hrr, rfl, hc, hrc, hC⟩ := at_row (Kd.C_below HR1.out HB.out) k hlt
      have HC := Aside0.mk hC
      have HPX := Aside0.mk (HX.out x (by rw [hrr]; exact ntR_mem pts k hlt))
      have HS := cntO_step p n l pts k hlt
      rw [← hrr] at HS
      clear hC hrr
      have HKO := Aside0.mk (orbitOfPoint_calls p n A q c l A4 x.length c4 x wr (Kd.C_below HR.out HB.out) HL.out HC.out hp hp2 hn1 hn HPX.out hl48 hl1)
      have HNE := Aside0.mk (orbitS_ne (p := p) (n := n) (x := x) hl1)
      have HFR := Aside0.mk (fun row h => first_row (p := p) (n := n) (l := l) (x := x) (row := row) h)
      obtain ⟨zs, hzs⟩ : ∃ zs, zs = orbitS p n l x := ⟨_, rfl⟩
      rw [← hzs] at HKO HNE HFR
      clear hzs
      obtain ⟨m, hm⟩ : ∃ m, m = cntO p n l (pts.take k) := ⟨_, rfl⟩
      rw [← hm] at HS hcl ⊢
      clear hm
      cases hfb : firstB p n l x
      · rw [hfb] at HFR HS
        have HS2 : Aside0 (cntO p n l (pts.take (k + 1)) = m) := ⟨by rw [HS]; simp⟩
        clear HS hfb
        go_wp2_with (first
          | (refine load_blk rfl _ 2 rfl H1 rfl _ Try.underlying44 rfl sizeG ?_)
          | (go_at_call 43; refine HKO.out.mono ?_; rintro e w2 ⟨A5, c5, rfl, hC5, hb⟩; obtain ⟨ad5, A0, c0, row, hrr, rfl, hc5, hrc5, hC6⟩ := at_row hC5 0 HNE.out; have hgt := HNE.out; have HC0 := Aside0.mk hC6; have HSB := Aside0.mk (HFR.out row hrr); have HCX := Aside0.mk (Kd.C_below HC.out hb); replace H1 := H1.keep hb; replace HB := Aside0.mk (below_step HB.out hb); rw [show ad5.add 0 = ad5 by simp [Addr.add]] at hc5; have hc0 : w2.cell? (ad5.add 0) = some (.slice A0 row.length c0) := (by rw [show ad5.add 0 = ad5 by simp [Addr.add]]; exact hc5); clear hC5 hC6 hrr hb)
          | (go_at_call 44; refine (equal_calls A0 row.length c0 row A4 x.length c4 x _ HC0.out HCX.out).mono ?_; rw [← HSB.out]; rintro e w3 ⟨rfl, hd⟩; replace H1 := H1.keep hd.below; replace HB := Aside0.mk (below_step HB.out hd.below); clear hd))
        go_roundw
        case rel => exact ⟨k + 1, by go_num, by omega, by rw [HS2.out], H1, HB⟩
        case measure => simp [intOf]; omega
      · rw [hfb] at HFR HS
        have HS2 : Aside0 (cntO p n l (pts.take (k + 1)) = m + 1) := ⟨by rw [HS]; simp⟩
        clear HS hfb
        go_wp2_with (first
          | (refine load_blk rfl _ 2 rfl H1 rfl _ Try.underlying44 rfl sizeG ?_)
          | (go_at_call 43; refine HKO.out.mono ?_; rintro e w2 ⟨A5, c5, rfl, hC5, hb⟩; obtain ⟨ad5, A0, c0, row, hrr, rfl, hc5, hrc5, hC6⟩ := at_row hC5 0 HNE.out; have hgt := HNE.out; have HC0 := Aside0.mk hC6; have HSB := Aside0.mk (HFR.out row hrr); have HCX := Aside0.mk (Kd.C_below HC.out hb); replace H1 := H1.keep hb; replace HB := Aside0.mk (below_step HB.out hb); rw [show ad5.add 0 = ad5 by simp [Addr.add]] at hc5; have hc0 : w2.cell? (ad5.add 0) = some (.slice A0 row.length c0) := (by rw [show ad5.add 0 = ad5 by simp [Addr.add]]; exact hc5); clear hC5 hC6 hrr hb)
          | (go_at_call 44; refine (equal_calls A0 row.length c0 row A4 x.length c4 x _ HC0.out HCX.out).mono ?_; rw [← HSB.out]; rintro e w3 ⟨rfl, hd⟩; replace H1 := H1.keep hd.below; replace HB := Aside0.mk (below_step HB.out hd.below); clear hd))
        go_roundw
        case rel => exact ⟨k + 1, by go_num, by omega, by rw [HS2.out]; go_num, H1, HB⟩
        case measure => simp [intOf]; omega
    · obtain rfl : k = pts.length := by omega
      rw [List.take_length]
      go_wp2
      go_ret
      exact ⟨rfl, HB.out⟩
end Go.Proofs.Ytbenhcognapdpaa
