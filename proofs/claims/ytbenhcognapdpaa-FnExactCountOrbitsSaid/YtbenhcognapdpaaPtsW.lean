/- Walks: the lists of all points. -/
import Derived.Test.YtbenhcognapdpaaPtsM
import Derived.Test.YtbenhcognapdpaaGrp2
import Derived.Test.YtbenhcognapdpaaOrbB
set_option linter.unusedVariables false
set_option linter.unusedSimpArgs false
namespace Go.Proofs.Ytbenhcognapdpaa
open Go.RowKit Go.Proofs.YtbenhcognapdpaaW.PrintWords Go.Proofs.YtbenhcognapdpaaW.PrintLast Lin

theorem pow_bd {P k : Nat} (hp : P ≤ 13) (hk : k ≤ 3) : P ^ k ≤ 2197 := by
  have h1 : P ^ k ≤ 13 ^ k := Nat.pow_le_pow_left hp k
  have h2 : (13 : Nat) ^ k ≤ 13 ^ 3 := Nat.pow_le_pow_right (by omega) hk
  omega
/-- The builtin min at two whole numbers. -/
theorem least2 (k k' : IntKind) (x y : Int) : Builtin.min2 (.int k x) (.int k' y) = pure (.int k (if y < x then y else x)) := by simp only [Builtin.min2]
theorem least_two (ats : Array TypeId) (ty : TypeId) (a b : Value) : Builtin.min_ ats ty #[a, b] = (Builtin.min2 a b >>= fun s => pure s) := by simp only [Builtin.min_, List.foldlM_cons, List.foldlM_nil]
section
attribute [local go_sem] least2 least_two
set_option maxHeartbeats 400000 in
theorem raised_calls (P n : Nat) (w : World) (hp : P ≤ 13) (hn : n ≤ 3) :
    Calls Try.prog 100 #[.int .i64 P, .int .i64 n] w fun e w' => e = .returned (.int .i64 ((P ^ n : Nat) : Int)) ∧ w = w' := by
  go_enter Try.func100, Try.ntmps100
  go_wp2
  go_loop [5, 7] (fun v5 v7 => ∃ k : Nat, v7 = .int .i64 k ∧ k ≤ n ∧ v5 = .int .i64 ((P ^ k : Nat) : Int)) (fun _ v7 => n - (intOf v7).toNat)
  case atStart => exact ⟨0, rfl, by omega, rfl⟩
  case round =>
    obtain ⟨k, rfl, hk, rfl⟩ := hrel
    by_cases hlt : k < n
    · have hb1 := pow_bd (k := k + 1) hp (by omega)
      have hb2 := pow_bd (k := k) hp (by omega)
      have HE := Aside0.mk (Nat.pow_succ P k)
      rw [HE.out] at hb1
      obtain ⟨z, hz⟩ : ∃ z, z = P ^ k := ⟨_, rfl⟩
      rw [← hz] at hb1 hb2 HE ⊢
      clear hz
      have hm1 : (0 : Int) ≤ (z : Int) * (P : Int) := by rw [← Int.natCast_mul]; omega
      have hm2 : (z : Int) * (P : Int) ≤ 2197 := by rw [← Int.natCast_mul]; omega
      go_wp2
      go_round
      case rel => exact ⟨k + 1, by go_num, by omega, by rw [HE.out, Int.natCast_mul]⟩
      case measure => simp [intOf]; omega
    · obtain rfl : k = n := by omega
      go_wp2
      go_ret
      exact ⟨rfl, rfl⟩
end
theorem digs_nt (p : Nat) : ∀ (n v k : Nat), k < n → nt (digs p n v) k = ((v / p ^ k % p : Nat) : Int)
  | 0, _, _, h => by omega
  | n + 1, v, 0, _ => by simp [digs, nt]
  | n + 1, v, k + 1, h => by
    have h1 := digs_nt p n (v / p) k (by omega)
    have e : nt (digs p (n + 1) v) (k + 1) = nt (digs p n (v / p)) k := by simp [digs, nt]
    rw [e, h1, Nat.div_div_eq_div_mul, Nat.pow_succ, Nat.mul_comm p]
theorem digs_take (p n v k : Nat) (h : k < n) : (digs p n v).take (k + 1) = (digs p n v).take k ++ [((v / p ^ k % p : Nat) : Int)] := by
  rw [take_succ_nt _ _ (by rw [digs_len]; exact h), digs_nt p n v k h]
/-- What a list of points comes to. -/
def PtsOut (w' : World) (l : List (List Int)) (P n : Nat) (v : Value) : Prop := if P ^ n ≤ 400 then ∃ A c, v = .slice A l.length c ∧ l.length ≤ c ∧ kR.C w' A l.length l else v = .slice none 0 0
def fewB (P n : Nat) : Bool := decide (P ^ n ≤ 400)

set_option maxRecDepth 100000 in
set_option maxHeartbeats 4000000 in
theorem points_calls (P n : Nat) (A : Option Addr) (q c : Nat) (w : World) (hp : 2 ≤ P ∧ P ≤ 13) (hn : 1 ≤ n ∧ n ≤ 3) :
    Calls Try.prog 48 #[.agg #[.int .i64 P, .int .i64 n, .slice A q c]] w fun e w' => ∃ v, e = .returned (.tuple #[v, .bool (fewB P n)]) ∧ PtsOut w' (ptsI P n) P n v ∧ Below w.heap.size w w' := by
  have H1 := Blk.new w #[.int .i64 P, .int .i64 n, .slice A q c] 44
  obtain ⟨wb, hwb⟩ : ∃ wb, wb = w.alloc (.cells #[.int .i64 P, .int .i64 n, .slice A q c] 44) := ⟨_, rfl⟩
  have hwbs : wb.heap.size = w.heap.size + 1 := by rw [hwb, size_alloc]
  have H1b : Blk wb w.heap.size 44 #[.int .i64 P, .int .i64 n, .slice A q c] := hwb ▸ H1
  have HWB := Aside0.mk (show Below w.heap.size w wb from hwb ▸ below_alloc (Below.refl _ _) _)
  by_cases hf : P ^ n ≤ 400
  · have HN : Aside0 (fewB P n = true) := ⟨decide_eq_true hf⟩
    have HP2 : Aside0 (∀ w' v, (∃ A c, v = .slice A (ptsI P n).length c ∧ (ptsI P n).length ≤ c ∧ kR.C w' A (ptsI P n).length (ptsI P n)) → PtsOut w' (ptsI P n) P n v) := ⟨fun w' v h => by unfold PtsOut; rw [if_pos hf]; exact h⟩
    have HR := Aside0.mk (fun W => raised_calls P n W hp.2 hn.2)
    have HPL := Aside0.mk (ptsI_len P n)
    obtain ⟨z, hz⟩ : ∃ z, z = P ^ n := ⟨_, rfl⟩
    have HTK : Aside0 (∀ i < z, (ptsI P n).take (i + 1) = (ptsI P n).take i ++ [digs P n i]) := ⟨fun i hi => by
      have hl : i < (ptsI P n).length := by rw [ptsI_len, ← hz]; exact hi
      rw [List.take_succ_eq_append_getElem hl]
      simp [ptsI]⟩
    rw [← hz] at hf HR HPL
    clear hz H1
    have HF := Aside0.mk hf
    have hbz : decide ((400 : Int) < z) = false := decide_eq_false (by omega)
    go_enter Try.func48, Try.ntmps48
    go_wp2_with ((go_at_call 100; refine (HR.out _).mono ?_; rintro e w1 ⟨rfl, rfl⟩))
    go_loopw [5, 19] (fun v5 v19 wr => ∃ i : Nat, v19 = .int .i64 i ∧ i ≤ z ∧ Aside0 (kR.R 38 wr wb.heap.size (fun _ => True) v5 ((ptsI P n).take i)) ∧ Aside0 (Below wb.heap.size wb wr)) (fun _ v19 _ => z - (intOf v19).toNat)
    case atStart => exact ⟨0, rfl, by omega, ⟨by rw [hwbs]; exact R_litAt kR _ _ _ (by rw [size_alloc]) (by rw [size_alloc]; exact Nat.le_refl _)⟩, ⟨by rw [hwb]; exact below_alloc (Below.refl _ _) _⟩⟩
    case round =>
      obtain ⟨i, rfl, hi, HO, HB⟩ := hrel
      by_cases hlt : i < z
      · have hd3 : decide ((i : Int) < z) = true := decide_eq_true (by omega)
        have H1 := H1b.keep HB.out
        obtain ⟨A5, c5, rfl, hc5, hC5⟩ := Kd.R_reads HO.out
        clear hC5
        have hol : ((ptsI P n).take i).length = i := by rw [List.length_take, HPL.out]; omega
        rw [hol] at HO hc5 ⊢
        go_wp2
        obtain ⟨wo, rfl⟩ : ∃ wo, wo = wr := ⟨_, rfl⟩
        go_loopw [7, 8, 9] (fun v7 v8 v9 wr => ∃ k : Nat, v8 = .int .i64 k ∧ k ≤ n ∧ v9 = .int .i64 ((i / P ^ k : Nat) : Int) ∧ Aside0 (kI.R 2 wr wo.heap.size (fun _ => True) v7 ((digs P n i).take k)) ∧ Aside0 (Below wo.heap.size wo wr)) (fun _ v8 _ _ => n - (intOf v8).toNat)
        case atStart => exact ⟨0, rfl, by omega, by simp, ⟨R_lit0 kI _ _ _ (Nat.le_refl _)⟩, ⟨below_alloc (Below.refl _ _) _⟩⟩
        case round =>
          obtain ⟨k, rfl, hk, rfl, HX, HB2⟩ := hrel
          have H2 := H1.keep HB2.out
          have k0 := H2.cell 0 rfl
          have k1 := H2.cell 1 rfl
          by_cases hkl : k < n
          · have HT := Aside0.mk (digs_take P n i k hkl)
            have HQ : Aside0 (i / P ^ (k + 1) = i / P ^ k / P) := ⟨by rw [Nat.pow_succ, Nat.div_div_eq_div_mul]⟩
            have hr : i / P ^ k ≤ i := Nat.div_le_self _ _
            obtain ⟨r, hrr⟩ : ∃ r, r = i / P ^ k := ⟨_, rfl⟩
            rw [← hrr] at hr HT HQ ⊢
            clear hrr
            have hr4 : r ≤ 400 := by have := HF.out; omega
            have hp0 : ((P : Int) == 0) = false := by rw [beq_eq_false_iff_ne]; omega
            have HLE : Aside0 (((digs P n i).take k).length < 17592186044416) := ⟨by rw [List.length_take, digs_len]; omega⟩
            clear hr
            have HW : Aside0 (wrap64 ((r : Int) / (P : Int)) = (r : Int) / (P : Int)) := ⟨by
              have h1 : (0 : Int) ≤ (r : Int) / (P : Int) := Int.ediv_nonneg (by omega) (by omega)
              have h2 : (r : Int) / (P : Int) ≤ (r : Int) := Int.ediv_le_self _ (by omega)
              unfold wrap64
              omega⟩
            go_wp2_with ((at_builtin; go_must (refine app_int (w0 := wo) rfl (.tmp 34) (.tmp 39) _ rfl Try.underlying38 infoI u7 ((digs P n i).take k) _ rfl rfl HX.out HB2.out HLE.out ?_); intro v1 w1 HO1 HB1 _ _; replace HX := Aside0.mk HO1; replace HB2 := Aside0.mk HB1; have H3 := H1.keep HB1; clear HO1 HB1))
            have k0' := H3.cell 0 rfl
            go_quiet (fail)
            go_wp2
            go_roundw
            case rel => exact ⟨k + 1, by go_num, by omega, by rw [HQ.out]; simp; exact HW.out, ⟨by rw [HT.out]; first | exact Kd.R_drewN HX.out _ | (have h := Kd.R_drewN HX.out; simpa using h _)⟩, ⟨(by repeat (first | (with_reducible first | exact HB2.out | apply below_alloc | apply pw_below_drewN | apply below_drew1) | exact HB2.out | exact Below.refl _ _))⟩⟩
            case measure => simp [intOf]; omega
          · obtain rfl : k = n := by omega
            have hT : (digs P k i).take k = digs P k i := List.take_of_length_le (by rw [digs_len]; exact Nat.le_refl _)
            rw [hT] at HX
            clear hT
            obtain ⟨A7, c7, rfl⟩ := Kd.R_slice HX.out
            have HP := Aside0.mk (Kd.R_lower (Kd.R_mono (Kd.R_newR HX.out HO.out) (fun _ h => h.2)) HB.out.size)
            have HO4 := Aside0.mk (Kd.R_below HO.out HB2.out)
            have HB4 := Aside0.mk (below_step HB.out HB2.out)
            have HNX := Aside0.mk (HTK.out i hlt)
            obtain ⟨out, hout⟩ : ∃ out, out = (ptsI P k).take i := ⟨_, rfl⟩
            have hol2 : out.length ≤ 400 := by rw [hout, List.length_take]; have := HF.out; omega
            rw [← hout] at HO4 HNX
            clear hout
            obtain ⟨x, hx⟩ : ∃ x, x = digs P k i := ⟨_, rfl⟩
            rw [← hx] at HP HNX ⊢
            clear hx HX HO
            go_wp2_with ((at_builtin; go_must (refine app_row (w0 := wb) rfl (.tmp 41) (.tmp 43) _ rfl Try.underlying65 infoR (.slice A5 i c5) out (.slice A7 x.length c7) x rfl rfl HP.out HO4.out HB4.out (by omega) ?_); intro v9 w9 ho hb _ _; have H9 := Aside0.mk ho; replace HB := Aside0.mk hb; clear ho hb))
            go_roundw
            case rel => exact ⟨i + 1, by go_num, by omega, ⟨by rw [HNX.out]; exact H9.out⟩, HB⟩
            case measure => simp [intOf]; omega
      · obtain rfl : i = z := by omega
        have hT : (ptsI P n).take i = ptsI P n := List.take_of_length_le (by rw [HPL.out]; exact Nat.le_refl _)
        rw [hT] at HO
        clear hT
        obtain ⟨A5, c5, rfl, hc5, hC5⟩ := Kd.R_reads HO.out
        have HC5 := Aside0.mk hC5
        clear hC5
        go_wp2
        refine bodyPost_ret (results_tmp2 rfl _ _ _) rfl ?_
        exact ⟨_, by rw [HN.out]; rfl, HP2.out _ _ ⟨A5, c5, rfl, hc5, HC5.out⟩, below_step HWB.out HB.out⟩
  · have HN : Aside0 (fewB P n = false) := ⟨decide_eq_false hf⟩
    have HP2 : Aside0 (∀ w', PtsOut w' (ptsI P n) P n (.slice none 0 0)) := ⟨fun w' => by unfold PtsOut; rw [if_neg hf]⟩
    have HR := Aside0.mk (fun W => raised_calls P n W hp.2 hn.2)
    obtain ⟨z, hz⟩ : ∃ z, z = P ^ n := ⟨_, rfl⟩
    rw [← hz] at hf HR
    have hbz : decide ((400 : Int) < z) = true := decide_eq_true (by omega)
    clear hz hwb hwbs H1b
    go_enter Try.func48, Try.ntmps48
    go_wp2_with ((go_at_call 100; refine (HR.out _).mono ?_; rintro e w1 ⟨rfl, rfl⟩))
    refine bodyPost_ret (results_tmp2 rfl _ _ _) rfl ?_
    exact ⟨_, by rw [HN.out]; rfl, HP2.out _, below_alloc (Below.refl _ _) _⟩
end Go.Proofs.Ytbenhcognapdpaa
