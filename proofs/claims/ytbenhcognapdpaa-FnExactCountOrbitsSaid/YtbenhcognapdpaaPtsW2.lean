/- Walk: the specification's list of all points. -/
import Derived.Test.YtbenhcognapdpaaPtsW
import Derived.Test.YtbenhcognapdpaaLinW2
set_option linter.unusedVariables false
set_option linter.unusedSimpArgs false
namespace Go.Proofs.Ytbenhcognapdpaa
open Go.RowKit Go.Proofs.YtbenhcognapdpaaW.PrintWords Go.Proofs.YtbenhcognapdpaaW.PrintLast Lin

def withs (P : Nat) (x : List Int) : List (List Int) := (List.range P).map fun v => x ++ [((v : Nat) : Int)]
/-- The longer points so far: those of the first k, and v of the next one. -/
def nextTo (out : List (List Int)) (P k v : Nat) : List (List Int) := (out.take k).flatMap (withs P) ++ (List.range v).map fun u => ntR out k ++ [((u : Nat) : Int)]
theorem nextTo_start (out : List (List Int)) (P : Nat) : nextTo out P 0 0 = [] := by simp [nextTo]
theorem nextTo_step (out : List (List Int)) (P k v : Nat) : nextTo out P k (v + 1) = nextTo out P k v ++ [ntR out k ++ [(v : Int)]] := by
  unfold nextTo
  rw [List.range_succ, List.map_append, ← List.append_assoc]
  rfl
theorem nextTo_row (out : List (List Int)) (P k : Nat) (hk : k < out.length) : nextTo out P k P = nextTo out P (k + 1) 0 := by
  unfold nextTo
  rw [take_succ_ntR out k hk, List.flatMap_append]
  simp [withs]
theorem nextTo_done (out : List (List Int)) (P : Nat) : nextTo out P out.length 0 = out.flatMap (withs P) := by simp [nextTo]
theorem withs_len (P : Nat) (x : List Int) : (withs P x).length = P := by simp [withs]
theorem flat_len (P : Nat) : ∀ (l : List (List Int)), (l.flatMap (withs P)).length = l.length * P
  | [] => by simp
  | x :: l => by rw [List.flatMap_cons, List.length_append, flat_len P l, withs_len, List.length_cons, Nat.succ_mul, Nat.add_comm]
theorem nextTo_len (out : List (List Int)) (P k v : Nat) (hk : k ≤ out.length) : (nextTo out P k v).length = k * P + v := by
  unfold nextTo
  rw [List.length_append, flat_len, List.length_take, Nat.min_eq_left hk]
  simp
theorem R_lit1At {α : Type} (d : Kd α) (e : Nat) (W : World) (B : Nat) {x : α} {cs : List Value} {okp : Nat → Prop} {g : Nat} (hg : W.heap.size = g) (hx : d.M W B okp x cs) (h : B ≤ W.heap.size) : d.R e (W.alloc (.cells cs.toArray e)) B (fun _ => True) (.slice (some ⟨g, 0, none⟩) 1 1) [x] := by
  subst hg
  exact R_lit1 d e W B hx h

set_option maxRecDepth 100000 in
set_option maxHeartbeats 4000000 in
theorem l09Points_calls (P n : Nat) (A : Option Addr) (q c : Nat) (w : World) (hp : 2 ≤ P ∧ P ≤ 13) (hn : 1 ≤ n ∧ n ≤ 3) :
    Calls Try.prog 46 #[.agg #[.int .i64 P, .int .i64 n, .slice A q c]] w fun e w' => ∃ v, e = .returned (.tuple #[v, .bool (fewB P n)]) ∧ PtsOut w' (ptsS P n) P n v ∧ Below w.heap.size w w' := by
  have H1 := Blk.new w #[.int .i64 P, .int .i64 n, .slice A q c] 44
  obtain ⟨wb, hwb⟩ : ∃ wb, wb = w.alloc (.cells #[.int .i64 P, .int .i64 n, .slice A q c] 44) := ⟨_, rfl⟩
  have hwbs : wb.heap.size = w.heap.size + 1 := by rw [hwb, size_alloc]
  have H1b : Blk wb w.heap.size 44 #[.int .i64 P, .int .i64 n, .slice A q c] := hwb ▸ H1
  have HWB := Aside0.mk (show Below w.heap.size w wb from hwb ▸ below_alloc (Below.refl _ _) _)
  have HP1 : Aside0 (∀ w' v, P ^ n ≤ 400 → (∃ A c, v = .slice A (ptsS P n).length c ∧ (ptsS P n).length ≤ c ∧ kR.C w' A (ptsS P n).length (ptsS P n)) → PtsOut w' (ptsS P n) P n v) := ⟨fun w' v hf h => by unfold PtsOut; rw [if_pos hf]; exact h⟩
  have HP2 : Aside0 (∀ w', ¬ P ^ n ≤ 400 → PtsOut w' (ptsS P n) P n (.slice none 0 0)) := ⟨fun w' hf => by unfold PtsOut; rw [if_neg hf]⟩
  have HPW : Aside0 (∀ i ≤ n, P ^ i ≤ P ^ n) := ⟨fun i hi => Nat.pow_le_pow_right (by omega) hi⟩
  clear H1
  have HSTART := Aside0.mk (R_lit1At kR 38 (wb.alloc (.cells #[] 2)) wb.heap.size (x := []) (okp := fun _ => True) (g := w.heap.size + 1 + 1) (by rw [size_alloc, hwbs]) (Kd.M_row (R_litAt kI 2 wb wb.heap.size (g := w.heap.size + 1) hwbs (Nat.le_refl _))) (by rw [size_alloc]; omega))
  go_enter Try.func46, Try.ntmps46
  go_wp2
  go_loopw [4, 5] (fun v4 v5 wr => ∃ i : Nat, v5 = .int .i64 i ∧ i ≤ n ∧ Aside0 (P ^ i ≤ 400) ∧ Aside0 (kR.R 38 wr wb.heap.size (fun _ => True) v4 (ptsS P i)) ∧ Aside0 (Below wb.heap.size wb wr)) (fun _ v5 _ => n - (intOf v5).toNat)
  case atStart => exact ⟨0, rfl, by omega, ⟨by simp⟩, ⟨by rw [hwb] at HSTART ⊢; exact HSTART.out⟩, ⟨by rw [hwb]; exact below_alloc (below_alloc (Below.refl _ _) _) _⟩⟩
  case round =>
    obtain ⟨i, rfl, hi, HI4, HO, HB⟩ := hrel
    have H1 := H1b.keep HB.out
    have k1 := H1.cell 1 rfl
    by_cases hlt : i < n
    · obtain ⟨A4, c4, rfl, hc4, hC4⟩ := Kd.R_reads HO.out
      have HLE := Aside0.mk (ptsS_len P i)
      have HNX : Aside0 ((ptsS P i).flatMap (withs P) = ptsS P (i + 1)) := ⟨rfl⟩
      have HL2 := Aside0.mk (ptsS_len P (i + 1))
      have HRO : Aside0 (∀ x ∈ ptsS P i, x.length ≤ 3) := ⟨fun x hx => by have := ((ptsS_mem i x).1 hx).1; omega⟩
      obtain ⟨out, hout⟩ : ∃ out, out = ptsS P i := ⟨_, rfl⟩
      rw [← hout] at HO HLE hC4 hc4 HNX HRO ⊢
      clear hout
      have hol : out.length ≤ 400 := by rw [HLE.out]; exact HI4.out
      have HC4 := Aside0.mk hC4
      clear hC4 HO
      have hd3 : decide ((i : Int) < n) = true := decide_eq_true (by omega)
      go_wp2
      obtain ⟨wo, rfl⟩ : ∃ wo, wo = wr := ⟨_, rfl⟩
      go_loopw [6, 7] (fun v6 v7 wr => ∃ k : Nat, v7 = .int .i64 k ∧ k ≤ out.length ∧ Aside0 (kR.R 38 wr wo.heap.size (fun _ => True) v6 (nextTo out P k 0)) ∧ Aside0 (Below wo.heap.size wo wr)) (fun _ v7 _ => out.length - (intOf v7).toNat)
      case atStart => exact ⟨0, rfl, by omega, ⟨by rw [nextTo_start]; exact R_lit0 kR _ _ _ (Nat.le_refl _)⟩, ⟨below_alloc (Below.refl _ _) _⟩⟩
      case round =>
        obtain ⟨k, rfl, hk, HN, HB2⟩ := hrel
        by_cases hkl : k < out.length
        · have hd4 : decide ((k : Int) < out.length) = true := decide_eq_true (by omega)
          go_wp2
          obtain ⟨wk, rfl⟩ : ∃ wk, wk = wr := ⟨_, rfl⟩
          go_loopw [6, 8] (fun v6 v8 wr => ∃ v : Nat, v8 = .int .i64 v ∧ v ≤ P ∧ Aside0 (kR.R 38 wr wo.heap.size (fun _ => True) v6 (nextTo out P k v)) ∧ Aside0 (Below wo.heap.size wo wr)) (fun _ v8 _ => P - (intOf v8).toNat)
          case atStart => exact ⟨0, rfl, by omega, HN, HB2⟩
          case round =>
            clear HN HB2
            obtain ⟨v, rfl, hv, HN, HB2⟩ := hrel
            have H2 := H1.keep HB2.out
            have k0 := H2.cell 0 rfl
            by_cases hvl : v < P
            · obtain ⟨ad, A0, c0, row, hrr, rfl, hc, hrc, hC⟩ := at_row (Kd.C_below HC4.out HB2.out) k hkl
              have HC := Aside0.mk hC
              have HS : Aside0 (nextTo out P k (v + 1) = nextTo out P k v ++ [row ++ [(v : Int)]]) := ⟨by rw [nextTo_step, ← hrr]⟩
              have HL := Aside0.mk (show (nextTo out P k v).length < 1000000000000 by
                rw [nextTo_len out P k v (by omega)]
                have : k * P ≤ 400 * 13 := Nat.mul_le_mul (by omega) (by omega)
                omega)
              have hrl : row.length ≤ 3 := HRO.out row (by rw [hrr]; exact ntR_mem out k hkl)
              clear hC hrr
              obtain ⟨nx, hnx⟩ : ∃ nx, nx = nextTo out P k v := ⟨_, rfl⟩
              rw [← hnx] at HN HS HL
              clear hnx
              obtain ⟨rv, hrv⟩ : ∃ rv, rv = row ++ [(v : Int)] := ⟨_, rfl⟩
              rw [← hrv] at HS
              have HRV := Aside0.mk hrv.symm
              clear hrv
              go_wp2_with (first
                | (go_at_call 94; refine (l01Own_calls A0 c0 row _ HC.out (by omega)).mono ?_; rintro e w2 ⟨v35, rfl, ho, hb⟩; obtain ⟨A35, c35, rfl⟩ := Kd.R_slice ho; have HW := Aside0.mk ho; have HB3 := Aside0.mk hb; clear ho hb)
                | (at_builtin; refine app_int (w0 := wr) rfl (.tmp 35) (.tmp 37) _ rfl Try.underlying38 infoI (.slice A35 row.length c35) row _ rfl rfl HW.out HB3.out (by omega) ?_; intro v38 w3 ho hb hg hat; rw [HRV.out] at ho; obtain ⟨A38, c38, rfl⟩ := Kd.R_slice ho; have HP := Aside0.mk (Kd.R_lower (Kd.R_mono (Kd.R_newR ho HN.out) (fun _ h => h.2)) HB2.out.size); have HN3 := Aside0.mk (Kd.R_below HN.out hb); have HB5 := Aside0.mk (below_step HB2.out hb); clear ho hb hg hat)
                | (at_builtin; refine app_row (w0 := wo) rfl (.tmp 30) (.tmp 39) _ rfl Try.underlying65 infoR u6 nx (.slice A38 rv.length c38) rv rfl rfl HP.out HN3.out HB5.out HL.out ?_; intro v40 w4 ho hb _ _; have H9 := Aside0.mk ho; replace HB2 := Aside0.mk hb; clear ho hb))
              go_roundw
              case rel => exact ⟨v + 1, by go_num, by omega, ⟨by rw [HS.out]; exact H9.out⟩, HB2⟩
              case measure => simp [intOf]; omega
            · obtain rfl : v = P := by omega
              have HN2 : Aside0 (nextTo out v k v = nextTo out v (k + 1) 0) := ⟨nextTo_row out v k hkl⟩
              go_wp2
              go_roundw
              case rel => exact ⟨k + 1, by go_num, by omega, ⟨by rw [← HN2.out]; exact HN.out⟩, HB2⟩
              case measure => simp [intOf]; omega
        · obtain rfl : k = out.length := by omega
          rw [nextTo_done, HNX.out] at HN
          obtain ⟨A6, c6, rfl, hc6, hC6⟩ := Kd.R_reads HN.out
          have HC6 := Aside0.mk hC6
          clear hC6
          by_cases hf : P ^ (i + 1) ≤ 400
          · have hb : decide ((400 : Int) < ((ptsS P (i + 1)).length : Int)) = false := decide_eq_false (by rw [HL2.out]; omega)
            have HF := Aside0.mk hf
            clear hf
            obtain ⟨nx, hnx⟩ : ∃ nx, nx = ptsS P (i + 1) := ⟨_, rfl⟩
            rw [← hnx] at HN hb ⊢
            have HNXX := Aside0.mk hnx
            clear hnx
            go_wp2
            go_roundw
            case rel => exact ⟨i + 1, by go_num, by omega, HF, ⟨by rw [← HNXX.out]; exact Kd.R_lower HN.out HB.out.size⟩, ⟨below_step HB.out HB2.out⟩⟩
            case measure => simp [intOf]; omega
          · have hb : decide ((400 : Int) < ((ptsS P (i + 1)).length : Int)) = true := decide_eq_true (by rw [HL2.out]; omega)
            have HN0 : Aside0 (¬ P ^ n ≤ 400) := ⟨by have := HPW.out (i + 1) (by omega); omega⟩
            have HN1 : Aside0 (fewB P n = false) := ⟨decide_eq_false HN0.out⟩
            clear hf
            obtain ⟨nx, hnx⟩ : ∃ nx, nx = ptsS P (i + 1) := ⟨_, rfl⟩
            rw [← hnx] at hb ⊢
            clear hnx
            go_wp2
            refine bodyPost_ret (results_tmp2 rfl _ _ _) rfl ?_
            exact ⟨_, by rw [HN1.out]; rfl, HP2.out _ HN0.out, below_step HWB.out (below_step HB.out HB2.out)⟩
    · obtain rfl : i = n := by omega
      have HN1 : Aside0 (fewB P i = true) := ⟨decide_eq_true HI4.out⟩
      obtain ⟨A4, c4, rfl, hc4, hC4⟩ := Kd.R_reads HO.out
      have HC4 := Aside0.mk (And.intro hc4 hC4)
      clear hc4 hC4
      go_wp2
      refine bodyPost_ret (results_tmp2 rfl _ _ _) rfl ?_
      exact ⟨_, by rw [HN1.out]; rfl, HP1.out _ _ HI4.out ⟨A4, c4, rfl, HC4.out.1, HC4.out.2⟩, below_step HWB.out HB.out⟩
end Go.Proofs.Ytbenhcognapdpaa
