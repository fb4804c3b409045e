/- Own texts of this claim, in one file: PtsW, PtsW2, PtsF, Sep. -/
import Derived.Test.YtbenhcognapdpaaGreatKR9j
import Derived.Test.YtbenhcognapdpaaGreatKR9k
import Derived.Test.YtbenhcognapdpaaGreatKR9d
/- Walks: the lists of all points. -/
set_option linter.unusedVariables false
set_option linter.unusedSimpArgs false
namespace Go.Proofs.YtbenhcognapdpaaGreat
open Go.RowKit Go.Proofs.YtbenhcognapdpaaGreatW.PrintWords Go.Proofs.YtbenhcognapdpaaGreatW.PrintLast Lin

theorem pow_bd {P k : Nat} (hp : P ≤ 13) (hk : k ≤ 3) : P ^ k ≤ 2197 := by
  have h1 : P ^ k ≤ 13 ^ k := Nat.pow_le_pow_left hp k
  have h2 : (13 : Nat) ^ k ≤ 13 ^ 3 := Nat.pow_le_pow_right (by omega) hk
  omega
/-- The builtin min at two whole numbers. -/
theorem least2 (k k' : IntKind) (x y : Int) : Builtin.min2 (.int k x) (.int k' y) = pure (.int k (if y < x then y else x)) := by simp only [Builtin.min2]
theorem least_two (ats : Array TypeId) (ty : TypeId) (a b : Value) : Builtin.min_ ats ty #[a, b] = (Builtin.min2 a b >>= fun s => pure s) := by simp only [Builtin.min_, List.foldlM_cons, List.foldlM_nil]
section
attribute [local go_sem] least2 least_two
set_option maxHeartbeats 400000 in
theorem raised_calls (P n : Nat) (w : World) (hp : P ≤ 13) (hn : n ≤ 3) :
    Calls Tryz.prog 223 #[.int .i64 P, .int .i64 n] w fun e w' => e = .returned (.int .i64 ((P ^ n : Nat) : Int)) ∧ w = w' := by
  go_enter Tryz.func223, Tryz.ntmps223
  go_wp2
  go_loop [5, 7] (fun v5 v7 => ∃ k : Nat, v7 = .int .i64 k ∧ k ≤ n ∧ v5 = .int .i64 ((P ^ k : Nat) : Int)) (fun _ v7 => n - (intOf v7).toNat)
  case atStart => exact ⟨0, rfl, by omega, rfl⟩
  case round =>
    obtain ⟨k, rfl, hk, rfl⟩ := hrel
    by_cases hlt : k < n
    · have hb1 := pow_bd (k := k + 1) hp (by omega)
      have hb2 := pow_bd (k := k) hp (by omega)
      have HE := Aside0.mk (Nat.pow_succ P k)
      rw [HE.out] at hb1
      obtain ⟨z, hz⟩ : ∃ z, z = P ^ k := ⟨_, rfl⟩
      rw [← hz] at hb1 hb2 HE ⊢
      clear hz
      have hm1 : (0 : Int) ≤ (z : Int) * (P : Int) := by rw [← Int.natCast_mul]; omega
      have hm2 : (z : Int) * (P : Int) ≤ 2197 := by rw [← Int.natCast_mul]; omega
      go_wp2
      go_round
      case rel => exact ⟨k + 1, by go_num, by omega, by rw [HE.out, Int.natCast_mul]⟩
      case measure => simp [intOf]; omega
    · obtain rfl : k = n := by omega
      go_wp2
      go_ret
      exact ⟨rfl, rfl⟩
end
theorem digs_nt (p : Nat) : ∀ (n v k : Nat), k < n → nt (digs p n v) k = ((v / p ^ k % p : Nat) : Int)
  | 0, _, _, h => by omega
  | n + 1, v, 0, _ => by simp [digs, nt]
  | n + 1, v, k + 1, h => by
    have h1 := digs_nt p n (v / p) k (by omega)
    have e : nt (digs p (n + 1) v) (k + 1) = nt (digs p n (v / p)) k := by simp [digs, nt]
    rw [e, h1, Nat.div_div_eq_div_mul, Nat.pow_succ, Nat.mul_comm p]
theorem digs_take (p n v k : Nat) (h : k < n) : (digs p n v).take (k + 1) = (digs p n v).take k ++ [((v / p ^ k % p : Nat) : Int)] := by
  rw [take_succ_nt _ _ (by rw [digs_len]; exact h), digs_nt p n v k h]
/-- What a list of points comes to. -/
def PtsOut (w' : World) (l : List (List Int)) (P n : Nat) (v : Value) : Prop := if P ^ n ≤ 400 then ∃ A c, v = .slice A l.length c ∧ l.length ≤ c ∧ kR.C w' A l.length l else v = .slice none 0 0
def fewB (P n : Nat) : Bool := decide (P ^ n ≤ 400)

set_option maxRecDepth 100000 in
set_option maxHeartbeats 4000000 in
theorem points_calls (P n : Nat) (A : Option Addr) (q c : Nat) (w : World) (hp : 2 ≤ P ∧ P ≤ 13) (hn : 1 ≤ n ∧ n ≤ 3) :
    Calls Tryz.prog 169 #[.agg #[.int .i64 P, .int .i64 n, .slice A q c]] w fun e w' => ∃ v, e = .returned (.tuple #[v, .bool (fewB P n)]) ∧ PtsOut w' (ptsI P n) P n v ∧ Below w.heap.size w w' := by
  have H1 := Blk.new w #[.int .i64 P, .int .i64 n, .slice A q c] 37
  obtain ⟨wb, hwb⟩ : ∃ wb, wb = w.alloc (.cells #[.int .i64 P, .int .i64 n, .slice A q c] 37) := ⟨_, rfl⟩
  have hwbs : wb.heap.size = w.heap.size + 1 := by rw [hwb, size_alloc]
  have H1b : Blk wb w.heap.size 37 #[.int .i64 P, .int .i64 n, .slice A q c] := hwb ▸ H1
  have HWB := Aside0.mk (show Below w.heap.size w wb from hwb ▸ below_alloc (Below.refl _ _) _)
  by_cases hf : P ^ n ≤ 400
  · have HN : Aside0 (fewB P n = true) := ⟨decide_eq_true hf⟩
    have HP2 : Aside0 (∀ w' v, (∃ A c, v = .slice A (ptsI P n).length c ∧ (ptsI P n).length ≤ c ∧ kR.C w' A (ptsI P n).length (ptsI P n)) → PtsOut w' (ptsI P n) P n v) := ⟨fun w' v h => by unfold PtsOut; rw [if_pos hf]; exact h⟩
    have HR := Aside0.mk (fun W => raised_calls P n W hp.2 hn.2)
    have HPL := Aside0.mk (ptsI_len P n)
    obtain ⟨z, hz⟩ : ∃ z, z = P ^ n := ⟨_, rfl⟩
    have HTK : Aside0 (∀ i < z, (ptsI P n).take (i + 1) = (ptsI P n).take i ++ [digs P n i]) := ⟨fun i hi => by
      have hl : i < (ptsI P n).length := by rw [ptsI_len, ← hz]; exact hi
      rw [List.take_succ_eq_append_getElem hl]
      simp [ptsI]⟩
    rw [← hz] at hf HR HPL
    clear hz H1
    have HF := Aside0.mk hf
    have hbz : decide ((400 : Int) < z) = false := decide_eq_false (by omega)
    go_enter Tryz.func169, Tryz.ntmps169
    go_wp2_with ((go_at_call 223; refine (HR.out _).mono ?_; rintro e w1 ⟨rfl, rfl⟩))
    go_loopw [5, 19] (fun v5 v19 wr => ∃ i : Nat, v19 = .int .i64 i ∧ i ≤ z ∧ Aside0 (kR.R 84 wr wb.heap.size (fun _ => True) v5 ((ptsI P n).take i)) ∧ Aside0 (Below wb.heap.size wb wr)) (fun _ v19 _ => z - (intOf v19).toNat)
    case atStart => exact ⟨0, rfl, by omega, ⟨by rw [hwbs]; exact R_litAt kR _ _ _ (by rw [size_alloc]) (by rw [size_alloc]; exact Nat.le_refl _)⟩, ⟨by rw [hwb]; exact below_alloc (Below.refl _ _) _⟩⟩
    case round =>
      obtain ⟨i, rfl, hi, HO, HB⟩ := hrel
      by_cases hlt : i < z
      · have hd3 : decide ((i : Int) < z) = true := decide_eq_true (by omega)
        have H1 := H1b.keep HB.out
        obtain ⟨A5, c5, rfl, hc5, hC5⟩ := Kd.R_reads HO.out
        clear hC5
        have hol : ((ptsI P n).take i).length = i := by rw [List.length_take, HPL.out]; omega
        rw [hol] at HO hc5 ⊢
        go_wp2
        obtain ⟨wo, rfl⟩ : ∃ wo, wo = wr := ⟨_, rfl⟩
        go_loopw [7, 8, 9] (fun v7 v8 v9 wr => ∃ k : Nat, v8 = .int .i64 k ∧ k ≤ n ∧ v9 = .int .i64 ((i / P ^ k : Nat) : Int) ∧ Aside0 (kI.R 2 wr wo.heap.size (fun _ => True) v7 ((digs P n i).take k)) ∧ Aside0 (Below wo.heap.size wo wr)) (fun _ v8 _ _ => n - (intOf v8).toNat)
        case atStart => exact ⟨0, rfl, by omega, by simp, ⟨R_lit0 kI _ _ _ (Nat.le_refl _)⟩, ⟨below_alloc (Below.refl _ _) _⟩⟩
        case round =>
          obtain ⟨k, rfl, hk, rfl, HX, HB2⟩ := hrel
          have H2 := H1.keep HB2.out
          have k0 := H2.cell 0 rfl
          have k1 := H2.cell 1 rfl
          by_cases hkl : k < n
          · have HT := Aside0.mk (digs_take P n i k hkl)
            have HQ : Aside0 (i / P ^ (k + 1) = i / P ^ k / P) := ⟨by rw [Nat.pow_succ, Nat.div_div_eq_div_mul]⟩
            have hr : i / P ^ k ≤ i := Nat.div_le_self _ _
            obtain ⟨r, hrr⟩ : ∃ r, r = i / P ^ k := ⟨_, rfl⟩
            rw [← hrr] at hr HT HQ ⊢
            clear hrr
            have hr4 : r ≤ 400 := by have := HF.out; omega
            have hp0 : ((P : Int) == 0) = false := by rw [beq_eq_false_iff_ne]; omega
            have HLE : Aside0 (((digs P n i).take k).length < 17592186044416) := ⟨by rw [List.length_take, digs_len]; omega⟩
            clear hr
            have HW : Aside0 (wrap64 ((r : Int) / (P : Int)) = (r : Int) / (P : Int)) := ⟨by
              have h1 : (0 : Int) ≤ (r : Int) / (P : Int) := Int.ediv_nonneg (by omega) (by omega)
              have h2 : (r : Int) / (P : Int) ≤ (r : Int) := Int.ediv_le_self _ (by omega)
              unfold wrap64
              omega⟩
            go_wp2_with ((at_builtin; go_must (refine app_int (w0 := wo) rfl (.tmp 34) (.tmp 39) _ rfl Tryz.underlying84 infoI u7 ((digs P n i).take k) _ rfl rfl HX.out HB2.out HLE.out ?_); intro v1 w1 HO1 HB1 _ _; replace HX := Aside0.mk HO1; replace HB2 := Aside0.mk HB1; have H3 := H1.keep HB1; clear HO1 HB1))
            have k0' := H3.cell 0 rfl
            go_quiet (fail)
            go_wp2
            go_roundw
            case rel => exact ⟨k + 1, by go_num, by omega, by rw [HQ.out]; simp; exact HW.out, ⟨by rw [HT.out]; first | exact Kd.R_drewN HX.out _ | (have h := Kd.R_drewN HX.out; simpa using h _)⟩, ⟨(by repeat (first | (with_reducible first | exact HB2.out | apply below_alloc | apply pw_below_drewN | apply below_drew1) | exact HB2.out | exact Below.refl _ _))⟩⟩
            case measure => simp [intOf]; omega
          · obtain rfl : k = n := by omega
            have hT : (digs P k i).take k = digs P k i := List.take_of_length_le (by rw [digs_len]; exact Nat.le_refl _)
            rw [hT] at HX
            clear hT
            obtain ⟨A7, c7, rfl⟩ := Kd.R_slice HX.out
            have HP := Aside0.mk (Kd.R_lower (Kd.R_mono (Kd.R_newR HX.out HO.out) (fun _ h => h.2)) HB.out.size)
            have HO4 := Aside0.mk (Kd.R_below HO.out HB2.out)
            have HB4 := Aside0.mk (below_step HB.out HB2.out)
            have HNX := Aside0.mk (HTK.out i hlt)
            obtain ⟨out, hout⟩ : ∃ out, out = (ptsI P k).take i := ⟨_, rfl⟩
            have hol2 : out.length ≤ 400 := by rw [hout, List.length_take]; have := HF.out; omega
            rw [← hout] at HO4 HNX
            clear hout
            obtain ⟨x, hx⟩ : ∃ x, x = digs P k i := ⟨_, rfl⟩
            rw [← hx] at HP HNX ⊢
            clear hx HX HO
            go_wp2_with ((at_builtin; go_must (refine app_row (w0 := wb) rfl (.tmp 41) (.tmp 43) _ rfl Tryz.underlying41 infoR (.slice A5 i c5) out (.slice A7 x.length c7) x rfl rfl HP.out HO4.out HB4.out (by omega) ?_); intro v9 w9 ho hb _ _; have H9 := Aside0.mk ho; replace HB := Aside0.mk hb; clear ho hb))
            go_roundw
            case rel => exact ⟨i + 1, by go_num, by omega, ⟨by rw [HNX.out]; exact H9.out⟩, HB⟩
            case measure => simp [intOf]; omega
      · obtain rfl : i = z := by omega
        have hT : (ptsI P n).take i = ptsI P n := List.take_of_length_le (by rw [HPL.out]; exact Nat.le_refl _)
        rw [hT] at HO
        clear hT
        obtain ⟨A5, c5, rfl, hc5, hC5⟩ := Kd.R_reads HO.out
        have HC5 := Aside0.mk hC5
        clear hC5
        go_wp2
        refine bodyPost_ret (results_tmp2 rfl _ _ _) rfl ?_
        exact ⟨_, by rw [HN.out]; rfl, HP2.out _ _ ⟨A5, c5, rfl, hc5, HC5.out⟩, below_step HWB.out HB.out⟩
  · have HN : Aside0 (fewB P n = false) := ⟨decide_eq_false hf⟩
    have HP2 : Aside0 (∀ w', PtsOut w' (ptsI P n) P n (.slice none 0 0)) := ⟨fun w' => by unfold PtsOut; rw [if_neg hf]⟩
    have HR := Aside0.mk (fun W => raised_calls P n W hp.2 hn.2)
    obtain ⟨z, hz⟩ : ∃ z, z = P ^ n := ⟨_, rfl⟩
    rw [← hz] at hf HR
    have hbz : decide ((400 : Int) < z) = true := decide_eq_true (by omega)
    clear hz hwb hwbs H1b
    go_enter Tryz.func169, Tryz.ntmps169
    go_wp2_with ((go_at_call 223; refine (HR.out _).mono ?_; rintro e w1 ⟨rfl, rfl⟩))
    refine bodyPost_ret (results_tmp2 rfl _ _ _) rfl ?_
    exact ⟨_, by rw [HN.out]; rfl, HP2.out _, below_alloc (Below.refl _ _) _⟩
end Go.Proofs.YtbenhcognapdpaaGreat
/- Walk: the specification's list of all points. -/
set_option linter.unusedVariables false
set_option linter.unusedSimpArgs false
namespace Go.Proofs.YtbenhcognapdpaaGreat
open Go.RowKit Go.Proofs.YtbenhcognapdpaaGreatW.PrintWords Go.Proofs.YtbenhcognapdpaaGreatW.PrintLast Lin

def withs (P : Nat) (x : List Int) : List (List Int) := (List.range P).map fun v => x ++ [((v : Nat) : Int)]
/-- The longer points so far: those of the first k, and v of the next one. -/
def nextTo (out : List (List Int)) (P k v : Nat) : List (List Int) := (out.take k).flatMap (withs P) ++ (List.range v).map fun u => ntR out k ++ [((u : Nat) : Int)]
theorem nextTo_start (out : List (List Int)) (P : Nat) : nextTo out P 0 0 = [] := by simp [nextTo]
theorem nextTo_step (out : List (List Int)) (P k v : Nat) : nextTo out P k (v + 1) = nextTo out P k v ++ [ntR out k ++ [(v : Int)]] := by
  unfold nextTo
  rw [List.range_succ, List.map_append, ← List.append_assoc]
  rfl
theorem nextTo_row (out : List (List Int)) (P k : Nat) (hk : k < out.length) : nextTo out P k P = nextTo out P (k + 1) 0 := by
  unfold nextTo
  rw [take_succ_ntR out k hk, List.flatMap_append]
  simp [withs]
theorem nextTo_done (out : List (List Int)) (P : Nat) : nextTo out P out.length 0 = out.flatMap (withs P) := by simp [nextTo]
theorem withs_len (P : Nat) (x : List Int) : (withs P x).length = P := by simp [withs]
theorem flat_len (P : Nat) : ∀ (l : List (List Int)), (l.flatMap (withs P)).length = l.length * P
  | [] => by simp
  | x :: l => by rw [List.flatMap_cons, List.length_append, flat_len P l, withs_len, List.length_cons, Nat.succ_mul, Nat.add_comm]
theorem nextTo_len (out : List (List Int)) (P k v : Nat) (hk : k ≤ out.length) : (nextTo out P k v).length = k * P + v := by
  unfold nextTo
  rw [List.length_append, flat_len, List.length_take, Nat.min_eq_left hk]
  simp
theorem R_lit1At {α : Type} (d : Kd α) (e : Nat) (W : World) (B : Nat) {x : α} {cs : List Value} {okp : Nat → Prop} {g : Nat} (hg : W.heap.size = g) (hx : d.M W B okp x cs) (h : B ≤ W.heap.size) : d.R e (W.alloc (.cells cs.toArray e)) B (fun _ => True) (.slice (some ⟨g, 0, none⟩) 1 1) [x] := by
  subst hg
  exact R_lit1 d e W B hx h

set_option maxRecDepth 100000 in
set_option maxHeartbeats 4000000 in
theorem l09Points_calls (P n : Nat) (A : Option Addr) (q c : Nat) (w : World) (hp : 2 ≤ P ∧ P ≤ 13) (hn : 1 ≤ n ∧ n ≤ 3) :
    Calls Tryz.prog 165 #[.agg #[.int .i64 P, .int .i64 n, .slice A q c]] w fun e w' => ∃ v, e = .returned (.tuple #[v, .bool (fewB P n)]) ∧ PtsOut w' (ptsS P n) P n v ∧ Below w.heap.size w w' := by
  have H1 := Blk.new w #[.int .i64 P, .int .i64 n, .slice A q c] 37
  obtain ⟨wb, hwb⟩ : ∃ wb, wb = w.alloc (.cells #[.int .i64 P, .int .i64 n, .slice A q c] 37) := ⟨_, rfl⟩
  have hwbs : wb.heap.size = w.heap.size + 1 := by rw [hwb, size_alloc]
  have H1b : Blk wb w.heap.size 37 #[.int .i64 P, .int .i64 n, .slice A q c] := hwb ▸ H1
  have HWB := Aside0.mk (show Below w.heap.size w wb from hwb ▸ below_alloc (Below.refl _ _) _)
  have HP1 : Aside0 (∀ w' v, P ^ n ≤ 400 → (∃ A c, v = .slice A (ptsS P n).length c ∧ (ptsS P n).length ≤ c ∧ kR.C w' A (ptsS P n).length (ptsS P n)) → PtsOut w' (ptsS P n) P n v) := ⟨fun w' v hf h => by unfold PtsOut; rw [if_pos hf]; exact h⟩
  have HP2 : Aside0 (∀ w', ¬ P ^ n ≤ 400 → PtsOut w' (ptsS P n) P n (.slice none 0 0)) := ⟨fun w' hf => by unfold PtsOut; rw [if_neg hf]⟩
  have HPW : Aside0 (∀ i ≤ n, P ^ i ≤ P ^ n) := ⟨fun i hi => Nat.pow_le_pow_right (by omega) hi⟩
  clear H1
  have HSTART := Aside0.mk (R_lit1At kR 84 (wb.alloc (.cells #[] 2)) wb.heap.size (x := []) (okp := fun _ => True) (g := w.heap.size + 1 + 1) (by rw [size_alloc, hwbs]) (Kd.M_row (R_litAt kI 2 wb wb.heap.size (g := w.heap.size + 1) hwbs (Nat.le_refl _))) (by rw [size_alloc]; omega))
  go_enter Tryz.func165, Tryz.ntmps165
  go_wp2
  go_loopw [4, 5] (fun v4 v5 wr => ∃ i : Nat, v5 = .int .i64 i ∧ i ≤ n ∧ Aside0 (P ^ i ≤ 400) ∧ Aside0 (kR.R 84 wr wb.heap.size (fun _ => True) v4 (ptsS P i)) ∧ Aside0 (Below wb.heap.size wb wr)) (fun _ v5 _ => n - (intOf v5).toNat)
  case atStart => exact ⟨0, rfl, by omega, ⟨by simp⟩, ⟨by rw [hwb] at HSTART ⊢; exact HSTART.out⟩, ⟨by rw [hwb]; exact below_alloc (below_alloc (Below.refl _ _) _) _⟩⟩
  case round =>
    obtain ⟨i, rfl, hi, HI4, HO, HB⟩ := hrel
    have H1 := H1b.keep HB.out
    have k1 := H1.cell 1 rfl
    by_cases hlt : i < n
    · obtain ⟨A4, c4, rfl, hc4, hC4⟩ := Kd.R_reads HO.out
      have HLE := Aside0.mk (ptsS_len P i)
      have HNX : Aside0 ((ptsS P i).flatMap (withs P) = ptsS P (i + 1)) := ⟨rfl⟩
      have HL2 := Aside0.mk (ptsS_len P (i + 1))
      have HRO : Aside0 (∀ x ∈ ptsS P i, x.length ≤ 3) := ⟨fun x hx => by have := ((ptsS_mem i x).1 hx).1; omega⟩
      obtain ⟨out, hout⟩ : ∃ out, out = ptsS P i := ⟨_, rfl⟩
      rw [← hout] at HO HLE hC4 hc4 HNX HRO ⊢
      clear hout
      have hol : out.length ≤ 400 := by rw [HLE.out]; exact HI4.out
      have HC4 := Aside0.mk hC4
      clear hC4 HO
      have hd3 : decide ((i : Int) < n) = true := decide_eq_true (by omega)
      go_wp2
      obtain ⟨wo, rfl⟩ : ∃ wo, wo = wr := ⟨_, rfl⟩
      go_loopw [6, 7] (fun v6 v7 wr => ∃ k : Nat, v7 = .int .i64 k ∧ k ≤ out.length ∧ Aside0 (kR.R 84 wr wo.heap.size (fun _ => True) v6 (nextTo out P k 0)) ∧ Aside0 (Below wo.heap.size wo wr)) (fun _ v7 _ => out.length - (intOf v7).toNat)
      case atStart => exact ⟨0, rfl, by omega, ⟨by rw [nextTo_start]; exact R_lit0 kR _ _ _ (Nat.le_refl _)⟩, ⟨below_alloc (Below.refl _ _) _⟩⟩
      case round =>
        obtain ⟨k, rfl, hk, HN, HB2⟩ := hrel
        by_cases hkl : k < out.length
        · have hd4 : decide ((k : Int) < out.length) = true := decide_eq_true (by omega)
          go_wp2
          obtain ⟨wk, rfl⟩ : ∃ wk, wk = wr := ⟨_, rfl⟩
          go_loopw [6, 8] (fun v6 v8 wr => ∃ v : Nat, v8 = .int .i64 v ∧ v ≤ P ∧ Aside0 (kR.R 84 wr wo.heap.size (fun _ => True) v6 (nextTo out P k v)) ∧ Aside0 (Below wo.heap.size wo wr)) (fun _ v8 _ => P - (intOf v8).toNat)
          case atStart => exact ⟨0, rfl, by omega, HN, HB2⟩
          case round =>
            clear HN HB2
            obtain ⟨v, rfl, hv, HN, HB2⟩ := hrel
            have H2 := H1.keep HB2.out
            have k0 := H2.cell 0 rfl
            by_cases hvl : v < P
            · obtain ⟨ad, A0, c0, row, hrr, rfl, hc, hrc, hC⟩ := at_row (Kd.C_below HC4.out HB2.out) k hkl
              have HC := Aside0.mk hC
              have HS : Aside0 (nextTo out P k (v + 1) = nextTo out P k v ++ [row ++ [(v : Int)]]) := ⟨by rw [nextTo_step, ← hrr]⟩
              have HL := Aside0.mk (show (nextTo out P k v).length < 1000000000000 by
                rw [nextTo_len out P k v (by omega)]
                have : k * P ≤ 400 * 13 := Nat.mul_le_mul (by omega) (by omega)
                omega)
              have hrl : row.length ≤ 3 := HRO.out row (by rw [hrr]; exact ntR_mem out k hkl)
              clear hC hrr
              obtain ⟨nx, hnx⟩ : ∃ nx, nx = nextTo out P k v := ⟨_, rfl⟩
              rw [← hnx] at HN HS HL
              clear hnx
              obtain ⟨rv, hrv⟩ : ∃ rv, rv = row ++ [(v : Int)] := ⟨_, rfl⟩
              rw [← hrv] at HS
              have HRV := Aside0.mk hrv.symm
              clear hrv
              go_wp2_with (first
                | (go_at_call 190; refine (l01Own_calls A0 c0 row _ HC.out (by omega)).mono ?_; rintro e w2 ⟨v35, rfl, ho, hb⟩; obtain ⟨A35, c35, rfl⟩ := Kd.R_slice ho; have HW := Aside0.mk ho; have HB3 := Aside0.mk hb; clear ho hb)
                | (at_builtin; refine app_int (w0 := wr) rfl (.tmp 35) (.tmp 37) _ rfl Tryz.underlying84 infoI (.slice A35 row.length c35) row _ rfl rfl HW.out HB3.out (by omega) ?_; intro v38 w3 ho hb hg hat; rw [HRV.out] at ho; obtain ⟨A38, c38, rfl⟩ := Kd.R_slice ho; have HP := Aside0.mk (Kd.R_lower (Kd.R_mono (Kd.R_newR ho HN.out) (fun _ h => h.2)) HB2.out.size); have HN3 := Aside0.mk (Kd.R_below HN.out hb); have HB5 := Aside0.mk (below_step HB2.out hb); clear ho hb hg hat)
                | (at_builtin; refine app_row (w0 := wo) rfl (.tmp 30) (.tmp 39) _ rfl Tryz.underlying41 infoR u6 nx (.slice A38 rv.length c38) rv rfl rfl HP.out HN3.out HB5.out HL.out ?_; intro v40 w4 ho hb _ _; have H9 := Aside0.mk ho; replace HB2 := Aside0.mk hb; clear ho hb))
              go_roundw
              case rel => exact ⟨v + 1, by go_num, by omega, ⟨by rw [HS.out]; exact H9.out⟩, HB2⟩
              case measure => simp [intOf]; omega
            · obtain rfl : v = P := by omega
              have HN2 : Aside0 (nextTo out v k v = nextTo out v (k + 1) 0) := ⟨nextTo_row out v k hkl⟩
              go_wp2
              go_roundw
              case rel => exact ⟨k + 1, by go_num, by omega, ⟨by rw [← HN2.out]; exact HN.out⟩, HB2⟩
              case measure => simp [intOf]; omega
        · obtain rfl : k = out.length := by omega
          rw [nextTo_done, HNX.out] at HN
          obtain ⟨A6, c6, rfl, hc6, hC6⟩ := Kd.R_reads HN.out
          have HC6 := Aside0.mk hC6
          clear hC6
          by_cases hf : P ^ (i + 1) ≤ 400
          · have hb : decide ((400 : Int) < ((ptsS P (i + 1)).length : Int)) = false := decide_eq_false (by rw [HL2.out]; omega)
            have HF := Aside0.mk hf
            clear hf
            obtain ⟨nx, hnx⟩ : ∃ nx, nx = ptsS P (i + 1) := ⟨_, rfl⟩
            rw [← hnx] at HN hb ⊢
            have HNXX := Aside0.mk hnx
            clear hnx
            go_wp2
            go_roundw
            case rel => exact ⟨i + 1, by go_num, by omega, HF, ⟨by rw [← HNXX.out]; exact Kd.R_lower HN.out HB.out.size⟩, ⟨below_step HB.out HB2.out⟩⟩
            case measure => simp [intOf]; omega
          · have hb : decide ((400 : Int) < ((ptsS P (i + 1)).length : Int)) = true := decide_eq_true (by rw [HL2.out]; omega)
            have HN0 : Aside0 (¬ P ^ n ≤ 400) := ⟨by have := HPW.out (i + 1) (by omega); omega⟩
            have HN1 : Aside0 (fewB P n = false) := ⟨decide_eq_false HN0.out⟩
            clear hf
            obtain ⟨nx, hnx⟩ : ∃ nx, nx = ptsS P (i + 1) := ⟨_, rfl⟩
            rw [← hnx] at hb ⊢
            clear hnx
            go_wp2
            refine bodyPost_ret (results_tmp2 rfl _ _ _) rfl ?_
            exact ⟨_, by rw [HN1.out]; rfl, HP2.out _ HN0.out, below_step HWB.out (below_step HB.out HB2.out)⟩
    · obtain rfl : i = n := by omega
      have HN1 : Aside0 (fewB P i = true) := ⟨decide_eq_true HI4.out⟩
      obtain ⟨A4, c4, rfl, hc4, hC4⟩ := Kd.R_reads HO.out
      have HC4 := Aside0.mk (And.intro hc4 hC4)
      clear hc4 hC4
      go_wp2
      refine bodyPost_ret (results_tmp2 rfl _ _ _) rfl ?_
      exact ⟨_, by rw [HN1.out]; rfl, HP1.out _ _ HI4.out ⟨A4, c4, rfl, HC4.out.1, HC4.out.2⟩, below_step HWB.out HB.out⟩
end Go.Proofs.YtbenhcognapdpaaGreat
/- The list of points, where there are few. -/
set_option linter.unusedVariables false
set_option linter.unusedSimpArgs false
namespace Go.Proofs.YtbenhcognapdpaaGreat
open Go.RowKit Go.Proofs.YtbenhcognapdpaaGreatW.PrintWords Go.Proofs.YtbenhcognapdpaaGreatW.PrintLast Lin

theorem ptsOut_few {w' : World} {l : List (List Int)} {P n : Nat} {v : Value} (h : PtsOut w' l P n v) (hf : fewB P n = true) : ∃ A c, v = .slice A l.length c ∧ l.length ≤ c ∧ kR.C w' A l.length l := by
  unfold PtsOut at h
  rwa [if_pos (of_decide_eq_true hf)] at h
end Go.Proofs.YtbenhcognapdpaaGreat
/- Walks: the codes of a group and polynomials, and all points. -/
set_option linter.unusedVariables false
set_option linter.unusedSimpArgs false
namespace Go.Proofs.YtbenhcognapdpaaGreat
open Go.RowKit Go.Proofs.YtbenhcognapdpaaGreatW.PrintWords Go.Proofs.YtbenhcognapdpaaGreatW.PrintLast Lin

/-- The polynomials are for the group, if there are some. -/
def fitB (p n : Int) (ps : List Pv) : Bool := decide (ps.length = 0) || (((pvR ps 0).1 == p) && ((pvR ps 0).2.1 == n))
noncomputable def sepC (p n : Int) (l : List (List Int)) (ps : List Pv) : Int :=
  if grpB p n l = true ∧ ps.all polB = true then (if likesB ps = true ∧ fitB p n ps = true then (if fewB p.toNat n.toNat = true then 0 else 3) else 2) else 1
/-- What is handed back beside the code. -/
def SepOut (w' : World) (pts : List (List Int)) (z : Int) (v : Value) : Prop := z = 0 → ∃ A c, v = .slice A pts.length c ∧ pts.length ≤ c ∧ kR.C w' A pts.length pts
theorem sepOut_bad {w' : World} {pts : List (List Int)} {z : Int} {v : Value} (h : z ≠ 0) : SepOut w' pts z v := fun e => absurd e h
theorem areLike_is (A : Option Addr) (q c : Nat) (ps : List Pv) (w : World) (hr : kP.C w A q ps) {t : Bool} (h : likesB ps = t) :
    Calls Tryz.prog 168 #[.slice A q c] w fun e w' => e = .returned (.bool t) ∧ Below w.heap.size w w' := by
  rw [← h]
  exact areLike_calls A q c ps w hr
set_option maxRecDepth 100000 in
set_option maxHeartbeats 2000000 in
theorem separationCode_calls (p n : Int) (A : Option Addr) (q c : Nat) (l : List (List Int)) (A1 : Option Addr) (q1 c1 : Nat) (ps : List Pv) (w : World) (hr : kM.C w A q l) (hl : ∀ m ∈ l, IsM m) (hr1 : kP.C w A1 q1 ps) (ht : ∀ P ∈ ps, IsPv P) :
    Calls Tryz.prog 89 #[.agg #[.int .i64 p, .int .i64 n, .slice A q c], .slice A1 q1 c1] w fun e w' => ∃ v, e = .returned (.tuple #[v, .int .i64 (sepC p n l ps)]) ∧ SepOut w' (ptsI p.toNat n.toNat) (sepC p n l ps) v ∧ Below w.heap.size w w' := by
  obtain rfl := Kd.C_len hr1
  have hm1 := Kd.C_max hr1
  have HR1 := Aside0.mk hr1
  have hbox := below_alloc (Below.refl w.heap.size w) (.cells #[.int .i64 p, .int .i64 n, .slice A q c] 37)
  have HB := Aside0.mk hbox
  have HKG := Aside0.mk (IsGroup_calls p n A q c l _ (Kd.C_below hr hbox) hl)
  have HKA := Aside0.mk (fun W (h : Below w.heap.size w W) => arePolys_calls A1 ps.length c1 ps W (Kd.C_below HR1.out h) ht)
  clear hr hl hr1 hbox ht
  have H1 := Blk.new w #[.int .i64 p, .int .i64 n, .slice A q c] 37
  cases hgb : grpB p n l
  · have HN : Aside0 (sepC p n l ps = 1) := ⟨by unfold sepC; rw [if_neg (by rw [hgb]; simp)]⟩
    rw [hgb] at HKG
    clear hgb
    go_enter Tryz.func89, Tryz.ntmps89
    go_wp2_with (first
      | (refine load_blk rfl _ 2 rfl H1 rfl _ Tryz.underlying37 rfl sizeG ?_)
      | (go_at_call 75; refine HKG.out.mono ?_; rintro e w1 ⟨rfl, hb⟩; replace HB := Aside0.mk (below_step HB.out hb); clear hb))
    refine bodyPost_ret (results_tmp2 rfl _ _ _) rfl ?_
    exact ⟨_, by rw [HN.out]; rfl, sepOut_bad (by rw [HN.out]; decide), HB.out⟩
  cases hpb : ps.all polB
  · have HN : Aside0 (sepC p n l ps = 1) := ⟨by unfold sepC; rw [if_neg (by rw [hpb]; simp)]⟩
    rw [hgb] at HKG
    rw [hpb] at HKA
    clear hgb hpb
    go_enter Tryz.func89, Tryz.ntmps89
    go_wp2_with (first
      | (refine load_blk rfl _ 2 rfl H1 rfl _ Tryz.underlying37 rfl sizeG ?_)
      | (go_at_call 75; refine HKG.out.mono ?_; rintro e w1 ⟨rfl, hb⟩; replace HB := Aside0.mk (below_step HB.out hb); clear hb)
      | (go_at_call 167; refine (HKA.out _ HB.out).mono ?_; rintro e w2 ⟨rfl, hb⟩; replace HB := Aside0.mk (below_step HB.out hb); clear hb))
    refine bodyPost_ret (results_tmp2 rfl _ _ _) rfl ?_
    exact ⟨_, by rw [HN.out]; rfl, sepOut_bad (by rw [HN.out]; decide), HB.out⟩
  have hok := grpB_iff.1 hgb
  have hP := primeB_iff.1 hok.prime
  have hpp := hP.pos
  have hvv : 1 ≤ n ∧ n ≤ 3 := of_decide_eq_true hok.vars
  obtain ⟨n, rfl⟩ : ∃ k : Nat, n = k := ⟨n.toNat, by omega⟩
  obtain ⟨P, rfl⟩ : ∃ k : Nat, p = k := ⟨p.toNat, by omega⟩
  have HGB := Aside0.mk hgb
  have HPB := Aside0.mk hpb
  have HKP := Aside0.mk (fun W => points_calls P n A q c W (by omega) (by omega))
  rw [hgb] at HKG
  rw [hpb] at HKA
  rw [Int.toNat_natCast, Int.toNat_natCast]
  clear hgb hpb hok hP
  cases hlb : likesB ps
  · have HLK := Aside0.mk hlb
    have HN : Aside0 (sepC P n l ps = 2) := ⟨by unfold sepC; rw [if_pos ⟨HGB.out, HPB.out⟩, if_neg (by rw [hlb]; simp)]⟩
    clear hlb
    go_enter Tryz.func89, Tryz.ntmps89
    go_wp2_with (first
      | (refine load_blk rfl _ 2 rfl H1 rfl _ Tryz.underlying37 rfl sizeG ?_)
      | (go_at_call 75; refine HKG.out.mono ?_; rintro e w1 ⟨rfl, hb⟩; replace H1 := H1.keep hb; replace HB := Aside0.mk (below_step HB.out hb); clear hb)
      | (go_at_call 167; refine (HKA.out _ HB.out).mono ?_; rintro e w2 ⟨rfl, hb⟩; replace H1 := H1.keep hb; replace HB := Aside0.mk (below_step HB.out hb); clear hb))
    refine start_ (n := 16) (S := fun w' => At w' ⟨w.heap.size, 0, none⟩ #[.int .i64 P, .int .i64 n, .slice A q c]) (ds := []) #[Nn,Nn,Nn,Nn,Nn,Nn,Nn,Nn,Nn,Nn,Nn,Nn,Nn,Nn,Nn,Nn] (by kernel_rfl) rfl rfl (H1.drew.at) (fun hHeld => ?_)
    refine pure_ (i := 0) (N := some 16) (v := ?_) (a' := ?_) #[Yy,Nn,Nn,Nn,Nn,Nn,Nn,Nn,Nn,Nn,Nn,Nn,Nn,Nn,Nn,Nn] rfl rfl (by kernel_rfl) (fun _ _ _ h => h) (Or.inl ⟨by rfl, ?_⟩) ?_ ?_
    rotate_left
    · intro w'
      go_simp
      with_reducible rfl
    rotate_left
    · simp only [Act.put, List.setIfInBounds_toArray, List.set_cons_zero, List.set_cons_succ, i64_w, i32_w]
      rfl
    refine one_ (i := 1) (N := some 17) #[Yy,Yy,Nn,Nn,Nn,Nn,Nn,Nn,Nn,Nn,Nn,Nn,Nn,Nn,Nn,Nn] rfl rfl (by kernel_rfl) (by decide) (fun K hK => ?_)
    refine goes_ Tryz.func168 (by kernel_rfl) rfl #[.slice A1 ps.length c1] (by rfl) rfl rfl (by simp only [List.map_toArray, List.map_cons, List.map_nil]; rfl) ?_
    with_reducible refine (areLike_is A1 ps.length c1 ps _ (Kd.C_below HR1.out (below_drew1 HB.out)) HLK.out).mono ?_
    rintro e w3 ⟨rfl, hb⟩
    refine ⟨_, rfl, ?_⟩
    replace H1 := H1.drew.keep hb
    replace HB := Aside0.mk (below_step (below_drew1 HB.out) hb)
    clear hb
    refine hK.out _ _ (H1.at) (fun hHeld => ?_)
    clear hK K
    refine norm_ (a' := ?_) ?_ ?_
    rotate_left
    · show Act.put _ (some 17) _ = _
      simp only [Act.put, List.setIfInBounds_toArray, List.set_cons_zero, List.set_cons_succ, i64_w, i32_w]
      rfl
    refine pure_ (i := 2) (N := some 18) (v := ?_) (a' := ?_) #[Yy,Yy,Yy,Nn,Nn,Nn,Nn,Nn,Nn,Nn,Nn,Nn,Nn,Nn,Nn,Nn] rfl rfl (by kernel_rfl) (fun _ _ _ h => h) (Or.inl ⟨by rfl, ?_⟩) ?_ ?_
    rotate_left
    · intro w'
      go_simp
      with_reducible rfl
    rotate_left
    · simp only [Act.put, List.setIfInBounds_toArray, List.set_cons_zero, List.set_cons_succ, i64_w, i32_w]
      rfl
    refine pure_ (i := 3) (N := some 19) (v := ?_) (a' := ?_) #[Yy,Yy,Yy,Yy,Nn,Nn,Nn,Nn,Nn,Nn,Nn,Nn,Nn,Nn,Nn,Nn] rfl rfl (by kernel_rfl) (fun _ _ _ h => h) (Or.inl ⟨by rfl, ?_⟩) ?_ ?_
    rotate_left
    · intro w'
      go_simp
      with_reducible rfl
    rotate_left
    · simp only [Act.put, List.setIfInBounds_toArray, List.set_cons_zero, List.set_cons_succ, i64_w, i32_w]
      rfl
    refine pure_ (i := 4) (N := some 20) (v := undef) (a' := ?_) #[Yy,Yy,Yy,Yy,Yy,Nn,Nn,Nn,Nn,Nn,Nn,Nn,Nn,Nn,Nn,Nn] rfl rfl (by kernel_rfl) (fun _ _ _ h => h) (Or.inr ⟨by rfl, rfl⟩) ?_ ?_
    rotate_left
    · simp only [Act.put, List.setIfInBounds_toArray, List.set_cons_zero, List.set_cons_succ, i64_w, i32_w]
      rfl
    refine pure_ (i := 5) (N := some 21) (v := undef) (a' := ?_) #[Yy,Yy,Yy,Yy,Yy,Yy,Nn,Nn,Nn,Nn,Nn,Nn,Nn,Nn,Nn,Nn] rfl rfl (by kernel_rfl) (fun _ _ _ h => h) (Or.inr ⟨by rfl, rfl⟩) ?_ ?_
    rotate_left
    · simp only [Act.put, List.setIfInBounds_toArray, List.set_cons_zero, List.set_cons_succ, i64_w, i32_w]
      rfl
    refine pure_ (i := 6) (N := some 22) (v := undef) (a' := ?_) #[Yy,Yy,Yy,Yy,Yy,Yy,Yy,Nn,Nn,Nn,Nn,Nn,Nn,Nn,Nn,Nn] rfl rfl (by kernel_rfl) (fun _ _ _ h => h) (Or.inr ⟨by rfl, rfl⟩) ?_ ?_
    rotate_left
    · simp only [Act.put, List.setIfInBounds_toArray, List.set_cons_zero, List.set_cons_succ, i64_w, i32_w]
      rfl
    refine pure_ (i := 7) (N := some 23) (v := undef) (a' := ?_) #[Yy,Yy,Yy,Yy,Yy,Yy,Yy,Yy,Nn,Nn,Nn,Nn,Nn,Nn,Nn,Nn] rfl rfl (by kernel_rfl) (fun _ _ _ h => h) (Or.inr ⟨by rfl, rfl⟩) ?_ ?_
    rotate_left
    · simp only [Act.put, List.setIfInBounds_toArray, List.set_cons_zero, List.set_cons_succ, i64_w, i32_w]
      rfl
    refine pure_ (i := 8) (N := some 24) (v := undef) (a' := ?_) #[Yy,Yy,Yy,Yy,Yy,Yy,Yy,Yy,Yy,Nn,Nn,Nn,Nn,Nn,Nn,Nn] rfl rfl (by kernel_rfl) (fun _ _ _ h => h) (Or.inr ⟨by rfl, rfl⟩) ?_ ?_
    rotate_left
    · simp only [Act.put, List.setIfInBounds_toArray, List.set_cons_zero, List.set_cons_succ, i64_w, i32_w]
      rfl
    refine pure_ (i := 9) (N := some 25) (v := undef) (a' := ?_) #[Yy,Yy,Yy,Yy,Yy,Yy,Yy,Yy,Yy,Yy,Nn,Nn,Nn,Nn,Nn,Nn] rfl rfl (by kernel_rfl) (fun _ _ _ h => h) (Or.inr ⟨by rfl, rfl⟩) ?_ ?_
    rotate_left
    · simp only [Act.put, List.setIfInBounds_toArray, List.set_cons_zero, List.set_cons_succ, i64_w, i32_w]
      rfl
    refine pure_ (i := 10) (N := some 26) (v := undef) (a' := ?_) #[Yy,Yy,Yy,Yy,Yy,Yy,Yy,Yy,Yy,Yy,Yy,Nn,Nn,Nn,Nn,Nn] rfl rfl (by kernel_rfl) (fun _ _ _ h => h) (Or.inr ⟨by rfl, rfl⟩) ?_ ?_
    rotate_left
    · simp only [Act.put, List.setIfInBounds_toArray, List.set_cons_zero, List.set_cons_succ, i64_w, i32_w]
      rfl
    refine pure_ (i := 11) (N := some 27) (v := undef) (a' := ?_) #[Yy,Yy,Yy,Yy,Yy,Yy,Yy,Yy,Yy,Yy,Yy,Yy,Nn,Nn,Nn,Nn] rfl rfl (by kernel_rfl) (fun _ _ _ h => h) (Or.inr ⟨by rfl, rfl⟩) ?_ ?_
    rotate_left
    · simp only [Act.put, List.setIfInBounds_toArray, List.set_cons_zero, List.set_cons_succ, i64_w, i32_w]
      rfl
    refine pure_ (i := 12) (N := some 28) (v := undef) (a' := ?_) #[Yy,Yy,Yy,Yy,Yy,Yy,Yy,Yy,Yy,Yy,Yy,Yy,Yy,Nn,Nn,Nn] rfl rfl (by kernel_rfl) (fun _ _ _ h => h) (Or.inr ⟨by rfl, rfl⟩) ?_ ?_
    rotate_left
    · simp only [Act.put, List.setIfInBounds_toArray, List.set_cons_zero, List.set_cons_succ, i64_w, i32_w]
      rfl
    refine pure_ (i := 13) (N := some 29) (v := undef) (a' := ?_) #[Yy,Yy,Yy,Yy,Yy,Yy,Yy,Yy,Yy,Yy,Yy,Yy,Yy,Yy,Nn,Nn] rfl rfl (by kernel_rfl) (fun _ _ _ h => h) (Or.inr ⟨by rfl, rfl⟩) ?_ ?_
    rotate_left
    · simp only [Act.put, List.setIfInBounds_toArray, List.set_cons_zero, List.set_cons_succ, i64_w, i32_w]
      rfl
    refine pure_ (i := 14) (N := some 30) (v := undef) (a' := ?_) #[Yy,Yy,Yy,Yy,Yy,Yy,Yy,Yy,Yy,Yy,Yy,Yy,Yy,Yy,Yy,Nn] rfl rfl (by kernel_rfl) (fun _ _ _ h => h) (Or.inr ⟨by rfl, rfl⟩) ?_ ?_
    rotate_left
    · simp only [Act.put, List.setIfInBounds_toArray, List.set_cons_zero, List.set_cons_succ, i64_w, i32_w]
      rfl
    refine pure_ (i := 15) (N := some 31) (v := ?_) (a' := ?_) #[Yy,Yy,Yy,Yy,Yy,Yy,Yy,Yy,Yy,Yy,Yy,Yy,Yy,Yy,Yy,Yy] rfl rfl (by kernel_rfl) (fun _ _ _ h => h) (Or.inl ⟨by rfl, ?_⟩) ?_ ?_
    rotate_left
    · intro w'
      go_simp
      with_reducible rfl
    rotate_left
    · simp only [Act.put, List.setIfInBounds_toArray, List.set_cons_zero, List.set_cons_succ, i64_w, i32_w]
      rfl
    refine done_ (by kernel_rfl) ?_
    go_wp2
    refine bodyPost_ret (results_tmp2 rfl _ _ _) rfl ?_
    exact ⟨_, by rw [HN.out]; rfl, sepOut_bad (by rw [HN.out]; decide), HB.out⟩
  have HLB := Aside0.mk hlb
  clear hlb
  by_cases h0 : ps.length = 0
  · have HFB : Aside0 (fitB P n ps = true) := ⟨by unfold fitB; rw [decide_eq_true h0]; rfl⟩
    have hgt : decide (0 < ps.length) = false := decide_eq_false (by omega)
    clear h0
    go_enter Tryz.func89, Tryz.ntmps89
    go_wp2_with (first
      | (refine load_blk rfl _ 2 rfl H1 rfl _ Tryz.underlying37 rfl sizeG ?_)
      | (go_at_call 75; refine HKG.out.mono ?_; rintro e w1 ⟨rfl, hb⟩; replace H1 := H1.keep hb; replace HB := Aside0.mk (below_step HB.out hb); clear hb)
      | (go_at_call 167; refine (HKA.out _ HB.out).mono ?_; rintro e w2 ⟨rfl, hb⟩; replace H1 := H1.keep hb; replace HB := Aside0.mk (below_step HB.out hb); clear hb))
    refine start_ (n := 16) (S := fun w' => At w' ⟨w.heap.size, 0, none⟩ #[.int .i64 P, .int .i64 n, .slice A q c]) (ds := []) #[Nn,Nn,Nn,Nn,Nn,Nn,Nn,Nn,Nn,Nn,Nn,Nn,Nn,Nn,Nn,Nn] (by kernel_rfl) rfl rfl (H1.drew.at) (fun hHeld => ?_)
    refine pure_ (i := 0) (N := some 16) (v := ?_) (a' := ?_) #[Yy,Nn,Nn,Nn,Nn,Nn,Nn,Nn,Nn,Nn,Nn,Nn,Nn,Nn,Nn,Nn] rfl rfl (by kernel_rfl) (fun _ _ _ h => h) (Or.inl ⟨by rfl, ?_⟩) ?_ ?_
    rotate_left
    · intro w'
      go_simp
      with_reducible rfl
    rotate_left
    · simp only [Act.put, List.setIfInBounds_toArray, List.set_cons_zero, List.set_cons_succ, i64_w, i32_w]
      rfl
    refine one_ (i := 1) (N := some 17) #[Yy,Yy,Nn,Nn,Nn,Nn,Nn,Nn,Nn,Nn,Nn,Nn,Nn,Nn,Nn,Nn] rfl rfl (by kernel_rfl) (by decide) (fun K hK => ?_)
    refine goes_ Tryz.func168 (by kernel_rfl) rfl #[.slice A1 ps.length c1] (by rfl) rfl rfl (by simp only [List.map_toArray, List.map_cons, List.map_nil]; rfl) ?_
    with_reducible refine (areLike_is A1 ps.length c1 ps _ (Kd.C_below HR1.out (below_drew1 HB.out)) HLB.out).mono ?_
    rintro e w3 ⟨rfl, hb⟩
    refine ⟨_, rfl, ?_⟩
    replace H1 := H1.drew.keep hb
    replace HB := Aside0.mk (below_step (below_drew1 HB.out) hb)
    clear hb
    refine hK.out _ _ (H1.at) (fun hHeld => ?_)
    clear hK K
    refine norm_ (a' := ?_) ?_ ?_
    rotate_left
    · show Act.put _ (some 17) _ = _
      simp only [Act.put, List.setIfInBounds_toArray, List.set_cons_zero, List.set_cons_succ, i64_w, i32_w]
      rfl
    refine pure_ (i := 2) (N := some 18) (v := ?_) (a' := ?_) #[Yy,Yy,Yy,Nn,Nn,Nn,Nn,Nn,Nn,Nn,Nn,Nn,Nn,Nn,Nn,Nn] rfl rfl (by kernel_rfl) (fun _ _ _ h => h) (Or.inl ⟨by rfl, ?_⟩) ?_ ?_
    rotate_left
    · intro w'
      go_simp
      with_reducible rfl
    rotate_left
    · simp only [Act.put, List.setIfInBounds_toArray, List.set_cons_zero, List.set_cons_succ, i64_w, i32_w]
      rfl
    refine pure_ (i := 3) (N := some 19) (v := ?_) (a' := ?_) #[Yy,Yy,Yy,Yy,Nn,Nn,Nn,Nn,Nn,Nn,Nn,Nn,Nn,Nn,Nn,Nn] rfl rfl (by kernel_rfl) (fun _ _ _ h => h) (Or.inl ⟨by rfl, ?_⟩) ?_ ?_
    rotate_left
    · intro w'
      go_simp
      with_reducible rfl
    rotate_left
    · simp only [Act.put, List.setIfInBounds_toArray, List.set_cons_zero, List.set_cons_succ, i64_w, i32_w]
      rfl
    refine pure_ (i := 4) (N := some 20) (v := ?_) (a' := ?_) #[Yy,Yy,Yy,Yy,Yy,Nn,Nn,Nn,Nn,Nn,Nn,Nn,Nn,Nn,Nn,Nn] rfl rfl (by kernel_rfl) (fun _ _ _ h => h) (Or.inl ⟨by rfl, ?_⟩) ?_ ?_
    rotate_left
    · intro w'
      go_simp
      with_reducible rfl
    rotate_left
    · simp only [Act.put, List.setIfInBounds_toArray, List.set_cons_zero, List.set_cons_succ, i64_w, i32_w]
      rfl
    refine pure_ (i := 5) (N := some 21) (v := ?_) (a' := ?_) #[Yy,Yy,Yy,Yy,Yy,Yy,Nn,Nn,Nn,Nn,Nn,Nn,Nn,Nn,Nn,Nn] rfl rfl (by kernel_rfl) (fun _ _ _ h => h) (Or.inl ⟨by rfl, ?_⟩) ?_ ?_
    rotate_left
    · intro w'
      go_simp
      with_reducible rfl
    rotate_left
    · simp only [Act.put, List.setIfInBounds_toArray, List.set_cons_zero, List.set_cons_succ, i64_w, i32_w]
      rfl
    refine pure_ (i := 6) (N := some 22) (v := ?_) (a' := ?_) #[Yy,Yy,Yy,Yy,Yy,Yy,Yy,Nn,Nn,Nn,Nn,Nn,Nn,Nn,Nn,Nn] rfl rfl (by kernel_rfl) (fun _ _ _ h => h) (Or.inl ⟨by rfl, ?_⟩) ?_ ?_
    rotate_left
    · intro w'
      go_simp
      with_reducible rfl
    rotate_left
    · simp only [Act.put, List.setIfInBounds_toArray, List.set_cons_zero, List.set_cons_succ, i64_w, i32_w]
      rfl
    refine pure_ (i := 7) (N := some 23) (v := ?_) (a' := ?_) #[Yy,Yy,Yy,Yy,Yy,Yy,Yy,Yy,Nn,Nn,Nn,Nn,Nn,Nn,Nn,Nn] rfl rfl (by kernel_rfl) (fun _ _ _ h => h) (Or.inl ⟨by rfl, ?_⟩) ?_ ?_
    rotate_left
    · intro w'
      go_simp
      with_reducible rfl
    rotate_left
    · simp only [Act.put, List.setIfInBounds_toArray, List.set_cons_zero, List.set_cons_succ, i64_w, i32_w]
      rfl
    refine pure_ (i := 8) (N := some 24) (v := undef) (a' := ?_) #[Yy,Yy,Yy,Yy,Yy,Yy,Yy,Yy,Yy,Nn,Nn,Nn,Nn,Nn,Nn,Nn] rfl rfl (by kernel_rfl) (fun _ _ _ h => h) (Or.inr ⟨by rfl, rfl⟩) ?_ ?_
    rotate_left
    · simp only [Act.put, List.setIfInBounds_toArray, List.set_cons_zero, List.set_cons_succ, i64_w, i32_w]
      rfl
    refine pure_ (i := 9) (N := some 25) (v := undef) (a' := ?_) #[Yy,Yy,Yy,Yy,Yy,Yy,Yy,Yy,Yy,Yy,Nn,Nn,Nn,Nn,Nn,Nn] rfl rfl (by kernel_rfl) (fun _ _ _ h => h) (Or.inr ⟨by rfl, rfl⟩) ?_ ?_
    rotate_left
    · simp only [Act.put, List.setIfInBounds_toArray, List.set_cons_zero, List.set_cons_succ, i64_w, i32_w]
      rfl
    refine pure_ (i := 10) (N := some 26) (v := undef) (a' := ?_) #[Yy,Yy,Yy,Yy,Yy,Yy,Yy,Yy,Yy,Yy,Yy,Nn,Nn,Nn,Nn,Nn] rfl rfl (by kernel_rfl) (fun _ _ _ h => h) (Or.inr ⟨by rfl, rfl⟩) ?_ ?_
    rotate_left
    · simp only [Act.put, List.setIfInBounds_toArray, List.set_cons_zero, List.set_cons_succ, i64_w, i32_w]
      rfl
    refine pure_ (i := 11) (N := some 27) (v := undef) (a' := ?_) #[Yy,Yy,Yy,Yy,Yy,Yy,Yy,Yy,Yy,Yy,Yy,Yy,Nn,Nn,Nn,Nn] rfl rfl (by kernel_rfl) (fun _ _ _ h => h) (Or.inr ⟨by rfl, rfl⟩) ?_ ?_
    rotate_left
    · simp only [Act.put, List.setIfInBounds_toArray, List.set_cons_zero, List.set_cons_succ, i64_w, i32_w]
      rfl
    refine pure_ (i := 12) (N := some 28) (v := undef) (a' := ?_) #[Yy,Yy,Yy,Yy,Yy,Yy,Yy,Yy,Yy,Yy,Yy,Yy,Yy,Nn,Nn,Nn] rfl rfl (by kernel_rfl) (fun _ _ _ h => h) (Or.inr ⟨by rfl, rfl⟩) ?_ ?_
    rotate_left
    · simp only [Act.put, List.setIfInBounds_toArray, List.set_cons_zero, List.set_cons_succ, i64_w, i32_w]
      rfl
    refine pure_ (i := 13) (N := some 29) (v := undef) (a' := ?_) #[Yy,Yy,Yy,Yy,Yy,Yy,Yy,Yy,Yy,Yy,Yy,Yy,Yy,Yy,Nn,Nn] rfl rfl (by kernel_rfl) (fun _ _ _ h => h) (Or.inr ⟨by rfl, rfl⟩) ?_ ?_
    rotate_left
    · simp only [Act.put, List.setIfInBounds_toArray, List.set_cons_zero, List.set_cons_succ, i64_w, i32_w]
      rfl
    refine pure_ (i := 14) (N := some 30) (v := ?_) (a' := ?_) #[Yy,Yy,Yy,Yy,Yy,Yy,Yy,Yy,Yy,Yy,Yy,Yy,Yy,Yy,Yy,Nn] rfl rfl (by kernel_rfl) (fun _ _ _ h => h) (Or.inl ⟨by rfl, ?_⟩) ?_ ?_
    rotate_left
    · intro w'
      go_simp
      with_reducible rfl
    rotate_left
    · simp only [Act.put, List.setIfInBounds_toArray, List.set_cons_zero, List.set_cons_succ, i64_w, i32_w]
      rfl
    refine pure_ (i := 15) (N := some 31) (v := ?_) (a' := ?_) #[Yy,Yy,Yy,Yy,Yy,Yy,Yy,Yy,Yy,Yy,Yy,Yy,Yy,Yy,Yy,Yy] rfl rfl (by kernel_rfl) (fun _ _ _ h => h) (Or.inl ⟨by rfl, ?_⟩) ?_ ?_
    rotate_left
    · intro w'
      go_simp
      with_reducible rfl
    rotate_left
    · simp only [Act.put, List.setIfInBounds_toArray, List.set_cons_zero, List.set_cons_succ, i64_w, i32_w]
      rfl
    refine done_ (by kernel_rfl) ?_
    clear hgt
    cases hfw : fewB P n
    · have HN : Aside0 (sepC P n l ps = 3) := ⟨by unfold sepC; rw [if_pos ⟨HGB.out, HPB.out⟩, if_pos ⟨HLB.out, HFB.out⟩]; simp [hfw]⟩
      rw [hfw] at HKP
      clear hfw
      go_wp2_with (first
        | (refine load_blk rfl _ 2 rfl H1 rfl _ Tryz.underlying37 rfl sizeG ?_)
        | (go_at_call 169; refine (HKP.out _).mono ?_; rintro e w7 ⟨v, rfl, ho, hb⟩; replace HB := Aside0.mk (below_step HB.out hb); clear hb ho))
      refine bodyPost_ret (results_tmp2 rfl _ _ _) rfl ?_
      exact ⟨_, by rw [HN.out]; rfl, sepOut_bad (by rw [HN.out]; decide), HB.out⟩
    · have HN : Aside0 (sepC P n l ps = 0) := ⟨by unfold sepC; rw [if_pos ⟨HGB.out, HPB.out⟩, if_pos ⟨HLB.out, HFB.out⟩]; simp [hfw]⟩
      have HFW := Aside0.mk hfw
      rw [hfw] at HKP
      clear hfw
      go_wp2_with (first
        | (refine load_blk rfl _ 2 rfl H1 rfl _ Tryz.underlying37 rfl sizeG ?_)
        | (go_at_call 169; refine (HKP.out _).mono ?_; rintro e w7 ⟨v, rfl, ho, hb⟩; obtain ⟨A2, c2, rfl, hc2, hC2⟩ := ptsOut_few ho HFW.out; have HC2 := Aside0.mk (And.intro hc2 hC2); replace HB := Aside0.mk (below_step HB.out hb); clear hb ho hc2 hC2))
      refine bodyPost_ret (results_tmp2 rfl _ _ _) rfl ?_
      exact ⟨_, by rw [HN.out]; rfl, fun _ => ⟨A2, c2, rfl, HC2.out.1, HC2.out.2⟩, HB.out⟩
  have hgt : decide (0 < ps.length) = true := decide_eq_true (by omega)
  have hgt2 : 0 < ps.length := by omega
  obtain ⟨ad0, P0, A0, c0, hpp0, rfl, hc0', hC0', hc0⟩ := poly_at HR1.out 0 (by omega)
  have HC0 := Aside0.mk hc0
  have HFE : Aside0 (fitB P n ps = ((P0.1 == (P : Int)) && (P0.2.1 == (n : Int)))) := ⟨by unfold fitB; rw [decide_eq_false h0, Bool.false_or, hpp0]⟩
  clear hpp0 hc0' hC0' hc0 h0
  cases hfg : ((P0.1 == (P : Int)) && (P0.2.1 == (n : Int)))
  · have HFG := Aside0.mk hfg
    have HN : Aside0 (sepC P n l ps = 2) := ⟨by unfold sepC; rw [if_pos ⟨HGB.out, HPB.out⟩, if_neg (by rw [HFE.out, hfg]; simp)]⟩
    clear hfg
    go_enter Tryz.func89, Tryz.ntmps89
    go_wp2_with (first
      | (refine load_blk rfl _ 2 rfl H1 rfl _ Tryz.underlying37 rfl sizeG ?_)
      | (go_at_call 75; refine HKG.out.mono ?_; rintro e w1 ⟨rfl, hb⟩; replace H1 := H1.keep hb; replace HB := Aside0.mk (below_step HB.out hb); clear hb)
      | (go_at_call 167; refine (HKA.out _ HB.out).mono ?_; rintro e w2 ⟨rfl, hb⟩; replace H1 := H1.keep hb; replace HB := Aside0.mk (below_step HB.out hb); clear hb))
    refine start_ (n := 16) (S := fun w' => At w' ⟨w.heap.size, 0, none⟩ #[.int .i64 P, .int .i64 n, .slice A q c] ∧ At w' (ad0.add (0 * 3)) (pcells P0 A0 c0)) (ds := []) #[Nn,Nn,Nn,Nn,Nn,Nn,Nn,Nn,Nn,Nn,Nn,Nn,Nn,Nn,Nn,Nn] (by kernel_rfl) rfl rfl ⟨H1.drew.at, HC0.out.below (below_drew1 HB.out)⟩ (fun hHeld => ?_)
    refine pure_ (i := 0) (N := some 16) (v := ?_) (a' := ?_) #[Yy,Nn,Nn,Nn,Nn,Nn,Nn,Nn,Nn,Nn,Nn,Nn,Nn,Nn,Nn,Nn] rfl rfl (by kernel_rfl) (fun _ _ _ h => h) (Or.inl ⟨by rfl, ?_⟩) ?_ ?_
    rotate_left
    · intro w'
      go_simp
      with_reducible rfl
    rotate_left
    · simp only [Act.put, List.setIfInBounds_toArray, List.set_cons_zero, List.set_cons_succ, i64_w, i32_w]
      rfl
    refine one_ (i := 1) (N := some 17) #[Yy,Yy,Nn,Nn,Nn,Nn,Nn,Nn,Nn,Nn,Nn,Nn,Nn,Nn,Nn,Nn] rfl rfl (by kernel_rfl) (by decide) (fun K hK => ?_)
    refine goes_ Tryz.func168 (by kernel_rfl) rfl #[.slice (some ad0) ps.length c1] (by rfl) rfl rfl (by simp only [List.map_toArray, List.map_cons, List.map_nil]; rfl) ?_
    with_reducible refine (areLike_is (some ad0) ps.length c1 ps _ (Kd.C_below HR1.out (below_drew1 HB.out)) HLB.out).mono ?_
    rintro e w3 ⟨rfl, hb⟩
    refine ⟨_, rfl, ?_⟩
    replace H1 := H1.drew.keep hb
    replace HB := Aside0.mk (below_step (below_drew1 HB.out) hb)
    clear hb
    refine hK.out _ _ ⟨H1.at, HC0.out.below HB.out⟩ (fun hHeld => ?_)
    clear hK K
    refine norm_ (a' := ?_) ?_ ?_
    rotate_left
    · show Act.put _ (some 17) _ = _
      simp only [Act.put, List.setIfInBounds_toArray, List.set_cons_zero, List.set_cons_succ, i64_w, i32_w]
      rfl
    refine pure_ (i := 2) (N := some 18) (v := ?_) (a' := ?_) #[Yy,Yy,Yy,Nn,Nn,Nn,Nn,Nn,Nn,Nn,Nn,Nn,Nn,Nn,Nn,Nn] rfl rfl (by kernel_rfl) (fun _ _ _ h => h) (Or.inl ⟨by rfl, ?_⟩) ?_ ?_
    rotate_left
    · intro w'
      go_simp
      with_reducible rfl
    rotate_left
    · simp only [Act.put, List.setIfInBounds_toArray, List.set_cons_zero, List.set_cons_succ, i64_w, i32_w]
      rfl
    refine pure_ (i := 3) (N := some 19) (v := ?_) (a' := ?_) #[Yy,Yy,Yy,Yy,Nn,Nn,Nn,Nn,Nn,Nn,Nn,Nn,Nn,Nn,Nn,Nn] rfl rfl (by kernel_rfl) (fun _ _ _ h => h) (Or.inl ⟨by rfl, ?_⟩) ?_ ?_
    rotate_left
    · intro w'
      go_simp
      with_reducible rfl
    rotate_left
    · simp only [Act.put, List.setIfInBounds_toArray, List.set_cons_zero, List.set_cons_succ, i64_w, i32_w]
      rfl
    refine pure_ (i := 4) (N := some 20) (v := ?_) (a' := ?_) #[Yy,Yy,Yy,Yy,Yy,Nn,Nn,Nn,Nn,Nn,Nn,Nn,Nn,Nn,Nn,Nn] rfl rfl (by kernel_rfl) (fun _ _ _ h => h) (Or.inl ⟨by rfl, ?_⟩) ?_ ?_
    rotate_left
    · intro w'
      go_simp
      with_reducible rfl
    rotate_left
    · simp only [Act.put, List.setIfInBounds_toArray, List.set_cons_zero, List.set_cons_succ, i64_w, i32_w]
      rfl
    refine pure_ (i := 5) (N := some 21) (v := ?_) (a' := ?_) #[Yy,Yy,Yy,Yy,Yy,Yy,Nn,Nn,Nn,Nn,Nn,Nn,Nn,Nn,Nn,Nn] rfl rfl (by kernel_rfl) (fun _ _ _ h => h) (Or.inl ⟨by rfl, ?_⟩) ?_ ?_
    rotate_left
    · intro w'
      go_simp
      with_reducible rfl
    rotate_left
    · simp only [Act.put, List.setIfInBounds_toArray, List.set_cons_zero, List.set_cons_succ, i64_w, i32_w]
      rfl
    refine pure_ (i := 6) (N := some 22) (v := ?_) (a' := ?_) #[Yy,Yy,Yy,Yy,Yy,Yy,Yy,Nn,Nn,Nn,Nn,Nn,Nn,Nn,Nn,Nn] rfl rfl (by kernel_rfl) (fun _ _ _ h => h) (Or.inl ⟨by rfl, ?_⟩) ?_ ?_
    rotate_left
    · intro w'
      go_simp
      with_reducible rfl
    rotate_left
    · simp only [Act.put, List.setIfInBounds_toArray, List.set_cons_zero, List.set_cons_succ, i64_w, i32_w]
      rfl
    refine pure_ (i := 7) (N := some 23) (v := ?_) (a' := ?_) #[Yy,Yy,Yy,Yy,Yy,Yy,Yy,Yy,Nn,Nn,Nn,Nn,Nn,Nn,Nn,Nn] rfl rfl (by kernel_rfl) (fun _ _ _ h => h) (Or.inl ⟨by rfl, ?_⟩) ?_ ?_
    rotate_left
    · intro w'
      go_simp
      with_reducible rfl
    rotate_left
    · simp only [Act.put, List.setIfInBounds_toArray, List.set_cons_zero, List.set_cons_succ, i64_w, i32_w]
      rfl
    refine pure_ (i := 9) (N := some 25) (v := ?_) (a' := ?_) #[Yy,Yy,Yy,Yy,Yy,Yy,Yy,Yy,Nn,Yy,Nn,Nn,Nn,Nn,Nn,Nn] rfl rfl (by kernel_rfl) (fun _ _ _ h => h) (Or.inl ⟨by rfl, ?_⟩) ?_ ?_
    rotate_left
    · intro w'
      go_simp
      with_reducible rfl
    rotate_left
    · simp only [Act.put, List.setIfInBounds_toArray, List.set_cons_zero, List.set_cons_succ, i64_w, i32_w]
      rfl
    refine pure_ (i := 10) (N := some 26) (v := ?_) (a' := ?_) #[Yy,Yy,Yy,Yy,Yy,Yy,Yy,Yy,Nn,Yy,Yy,Nn,Nn,Nn,Nn,Nn] rfl rfl (by kernel_rfl) (fun _ _ _ h => h) (Or.inl ⟨by rfl, ?_⟩) ?_ ?_
    rotate_left
    · intro w'
      go_simp
      with_reducible rfl
    rotate_left
    · simp only [Act.put, List.setIfInBounds_toArray, List.set_cons_zero, List.set_cons_succ, i64_w, i32_w]
      rfl
    refine take_ (i := 8) (N := some 24) (v := ?_) (a' := ?_) #[Yy,Yy,Yy,Yy,Yy,Yy,Yy,Yy,Yy,Yy,Yy,Nn,Nn,Nn,Nn,Nn] rfl rfl (by kernel_rfl) (fun _ _ _ h => h) (Or.inl ⟨by rfl, ?_⟩) hHeld ?_ ?_
    rotate_left
    · rintro w' ⟨s0, s1⟩
      refine Eq.trans (run_op_load' s0 (by rfl) (by rfl) Tryz.underlying37 rfl sizeG) ?_
      with_reducible rfl
    rotate_left
    · simp only [Act.put, List.setIfInBounds_toArray, List.set_cons_zero, List.set_cons_succ, i64_w, i32_w]
      rfl
    refine take_ (i := 11) (N := some 27) (v := ?_) (a' := ?_) #[Yy,Yy,Yy,Yy,Yy,Yy,Yy,Yy,Yy,Yy,Yy,Yy,Nn,Nn,Nn,Nn] rfl rfl (by kernel_rfl) (fun _ _ _ h => h) (Or.inl ⟨by rfl, ?_⟩) hHeld ?_ ?_
    rotate_left
    · rintro w' ⟨s0, s1⟩
      refine Eq.trans (run_op_load' s1 (by rfl) (by rfl) Tryz.underlying58 rfl sizeP) ?_
      with_reducible rfl
    rotate_left
    · simp only [Act.put, List.setIfInBounds_toArray, List.set_cons_zero, List.set_cons_succ, i64_w, i32_w]
      rfl
    refine one_ (i := 12) (N := some 28) #[Yy,Yy,Yy,Yy,Yy,Yy,Yy,Yy,Yy,Yy,Yy,Yy,Yy,Nn,Nn,Nn] rfl rfl (by kernel_rfl) (by decide) (fun K hK => ?_)
    refine goes_ Tryz.func77 (by kernel_rfl) rfl #[.agg #[.int .i64 P, .int .i64 n, .slice A q c], .agg (pcells P0 A0 c0)] (by rfl) rfl rfl (by simp only [List.map_toArray, List.map_cons, List.map_nil]; rfl) ?_
    with_reducible refine (forGroup_calls P n A q c P0 A0 c0 _ HFG.out).mono ?_
    rintro e w4 ⟨rfl, hb⟩
    refine ⟨_, rfl, ?_⟩
    replace H1 := H1.keep hb
    replace HB := Aside0.mk (below_step HB.out hb)
    clear hb
    refine hK.out _ _ ⟨H1.at, HC0.out.below HB.out⟩ (fun hHeld => ?_)
    clear hK K
    refine norm_ (a' := ?_) ?_ ?_
    rotate_left
    · show Act.put _ (some 28) _ = _
      simp only [Act.put, List.setIfInBounds_toArray, List.set_cons_zero, List.set_cons_succ, i64_w, i32_w]
      rfl
    refine pure_ (i := 13) (N := some 29) (v := ?_) (a' := ?_) #[Yy,Yy,Yy,Yy,Yy,Yy,Yy,Yy,Yy,Yy,Yy,Yy,Yy,Yy,Nn,Nn] rfl rfl (by kernel_rfl) (fun _ _ _ h => h) (Or.inl ⟨by rfl, ?_⟩) ?_ ?_
    rotate_left
    · intro w'
      go_simp
      with_reducible rfl
    rotate_left
    · simp only [Act.put, List.setIfInBounds_toArray, List.set_cons_zero, List.set_cons_succ, i64_w, i32_w]
      rfl
    refine pure_ (i := 14) (N := some 30) (v := ?_) (a' := ?_) #[Yy,Yy,Yy,Yy,Yy,Yy,Yy,Yy,Yy,Yy,Yy,Yy,Yy,Yy,Yy,Nn] rfl rfl (by kernel_rfl) (fun _ _ _ h => h) (Or.inl ⟨by rfl, ?_⟩) ?_ ?_
    rotate_left
    · intro w'
      go_simp
      with_reducible rfl
    rotate_left
    · simp only [Act.put, List.setIfInBounds_toArray, List.set_cons_zero, List.set_cons_succ, i64_w, i32_w]
      rfl
    refine pure_ (i := 15) (N := some 31) (v := ?_) (a' := ?_) #[Yy,Yy,Yy,Yy,Yy,Yy,Yy,Yy,Yy,Yy,Yy,Yy,Yy,Yy,Yy,Yy] rfl rfl (by kernel_rfl) (fun _ _ _ h => h) (Or.inl ⟨by rfl, ?_⟩) ?_ ?_
    rotate_left
    · intro w'
      go_simp
      with_reducible rfl
    rotate_left
    · simp only [Act.put, List.setIfInBounds_toArray, List.set_cons_zero, List.set_cons_succ, i64_w, i32_w]
      rfl
    refine done_ (by kernel_rfl) ?_
    go_wp2
    refine bodyPost_ret (results_tmp2 rfl _ _ _) rfl ?_
    exact ⟨_, by rw [HN.out]; rfl, sepOut_bad (by rw [HN.out]; decide), HB.out⟩
  · have HFG := Aside0.mk hfg
    have HFB : Aside0 (fitB P n ps = true) := ⟨by rw [HFE.out, hfg]⟩
    clear hfg
    go_enter Tryz.func89, Tryz.ntmps89
    go_wp2_with (first
      | (refine load_blk rfl _ 2 rfl H1 rfl _ Tryz.underlying37 rfl sizeG ?_)
      | (go_at_call 75; refine HKG.out.mono ?_; rintro e w1 ⟨rfl, hb⟩; replace H1 := H1.keep hb; replace HB := Aside0.mk (below_step HB.out hb); clear hb)
      | (go_at_call 167; refine (HKA.out _ HB.out).mono ?_; rintro e w2 ⟨rfl, hb⟩; replace H1 := H1.keep hb; replace HB := Aside0.mk (below_step HB.out hb); clear hb))
    refine start_ (n := 16) (S := fun w' => At w' ⟨w.heap.size, 0, none⟩ #[.int .i64 P, .int .i64 n, .slice A q c] ∧ At w' (ad0.add (0 * 3)) (pcells P0 A0 c0)) (ds := []) #[Nn,Nn,Nn,Nn,Nn,Nn,Nn,Nn,Nn,Nn,Nn,Nn,Nn,Nn,Nn,Nn] (by kernel_rfl) rfl rfl ⟨H1.drew.at, HC0.out.below (below_drew1 HB.out)⟩ (fun hHeld => ?_)
    refine pure_ (i := 0) (N := some 16) (v := ?_) (a' := ?_) #[Yy,Nn,Nn,Nn,Nn,Nn,Nn,Nn,Nn,Nn,Nn,Nn,Nn,Nn,Nn,Nn] rfl rfl (by kernel_rfl) (fun _ _ _ h => h) (Or.inl ⟨by rfl, ?_⟩) ?_ ?_
    rotate_left
    · intro w'
      go_simp
      with_reducible rfl
    rotate_left
    · simp only [Act.put, List.setIfInBounds_toArray, List.set_cons_zero, List.set_cons_succ, i64_w, i32_w]
      rfl
    refine one_ (i := 1) (N := some 17) #[Yy,Yy,Nn,Nn,Nn,Nn,Nn,Nn,Nn,Nn,Nn,Nn,Nn,Nn,Nn,Nn] rfl rfl (by kernel_rfl) (by decide) (fun K hK => ?_)
    refine goes_ Tryz.func168 (by kernel_rfl) rfl #[.slice (some ad0) ps.length c1] (by rfl) rfl rfl (by simp only [List.map_toArray, List.map_cons, List.map_nil]; rfl) ?_
    with_reducible refine (areLike_is (some ad0) ps.length c1 ps _ (Kd.C_below HR1.out (below_drew1 HB.out)) HLB.out).mono ?_
    rintro e w3 ⟨rfl, hb⟩
    refine ⟨_, rfl, ?_⟩
    replace H1 := H1.drew.keep hb
    replace HB := Aside0.mk (below_step (below_drew1 HB.out) hb)
    clear hb
    refine hK.out _ _ ⟨H1.at, HC0.out.below HB.out⟩ (fun hHeld => ?_)
    clear hK K
    refine norm_ (a' := ?_) ?_ ?_
    rotate_left
    · show Act.put _ (some 17) _ = _
      simp only [Act.put, List.setIfInBounds_toArray, List.set_cons_zero, List.set_cons_succ, i64_w, i32_w]
      rfl
    refine pure_ (i := 2) (N := some 18) (v := ?_) (a' := ?_) #[Yy,Yy,Yy,Nn,Nn,Nn,Nn,Nn,Nn,Nn,Nn,Nn,Nn,Nn,Nn,Nn] rfl rfl (by kernel_rfl) (fun _ _ _ h => h) (Or.inl ⟨by rfl, ?_⟩) ?_ ?_
    rotate_left
    · intro w'
      go_simp
      with_reducible rfl
    rotate_left
    · simp only [Act.put, List.setIfInBounds_toArray, List.set_cons_zero, List.set_cons_succ, i64_w, i32_w]
      rfl
    refine pure_ (i := 3) (N := some 19) (v := ?_) (a' := ?_) #[Yy,Yy,Yy,Yy,Nn,Nn,Nn,Nn,Nn,Nn,Nn,Nn,Nn,Nn,Nn,Nn] rfl rfl (by kernel_rfl) (fun _ _ _ h => h) (Or.inl ⟨by rfl, ?_⟩) ?_ ?_
    rotate_left
    · intro w'
      go_simp
      with_reducible rfl
    rotate_left
    · simp only [Act.put, List.setIfInBounds_toArray, List.set_cons_zero, List.set_cons_succ, i64_w, i32_w]
      rfl
    refine pure_ (i := 4) (N := some 20) (v := ?_) (a' := ?_) #[Yy,Yy,Yy,Yy,Yy,Nn,Nn,Nn,Nn,Nn,Nn,Nn,Nn,Nn,Nn,Nn] rfl rfl (by kernel_rfl) (fun _ _ _ h => h) (Or.inl ⟨by rfl, ?_⟩) ?_ ?_
    rotate_left
    · intro w'
      go_simp
      with_reducible rfl
    rotate_left
    · simp only [Act.put, List.setIfInBounds_toArray, List.set_cons_zero, List.set_cons_succ, i64_w, i32_w]
      rfl
    refine pure_ (i := 5) (N := some 21) (v := ?_) (a' := ?_) #[Yy,Yy,Yy,Yy,Yy,Yy,Nn,Nn,Nn,Nn,Nn,Nn,Nn,Nn,Nn,Nn] rfl rfl (by kernel_rfl) (fun _ _ _ h => h) (Or.inl ⟨by rfl, ?_⟩) ?_ ?_
    rotate_left
    · intro w'
      go_simp
      with_reducible rfl
    rotate_left
    · simp only [Act.put, List.setIfInBounds_toArray, List.set_cons_zero, List.set_cons_succ, i64_w, i32_w]
      rfl
    refine pure_ (i := 6) (N := some 22) (v := ?_) (a' := ?_) #[Yy,Yy,Yy,Yy,Yy,Yy,Yy,Nn,Nn,Nn,Nn,Nn,Nn,Nn,Nn,Nn] rfl rfl (by kernel_rfl) (fun _ _ _ h => h) (Or.inl ⟨by rfl, ?_⟩) ?_ ?_
    rotate_left
    · intro w'
      go_simp
      with_reducible rfl
    rotate_left
    · simp only [Act.put, List.setIfInBounds_toArray, List.set_cons_zero, List.set_cons_succ, i64_w, i32_w]
      rfl
    refine pure_ (i := 7) (N := some 23) (v := ?_) (a' := ?_) #[Yy,Yy,Yy,Yy,Yy,Yy,Yy,Yy,Nn,Nn,Nn,Nn,Nn,Nn,Nn,Nn] rfl rfl (by kernel_rfl) (fun _ _ _ h => h) (Or.inl ⟨by rfl, ?_⟩) ?_ ?_
    rotate_left
    · intro w'
      go_simp
      with_reducible rfl
    rotate_left
    · simp only [Act.put, List.setIfInBounds_toArray, List.set_cons_zero, List.set_cons_succ, i64_w, i32_w]
      rfl
    refine pure_ (i := 9) (N := some 25) (v := ?_) (a' := ?_) #[Yy,Yy,Yy,Yy,Yy,Yy,Yy,Yy,Nn,Yy,Nn,Nn,Nn,Nn,Nn,Nn] rfl rfl (by kernel_rfl) (fun _ _ _ h => h) (Or.inl ⟨by rfl, ?_⟩) ?_ ?_
    rotate_left
    · intro w'
      go_simp
      with_reducible rfl
    rotate_left
    · simp only [Act.put, List.setIfInBounds_toArray, List.set_cons_zero, List.set_cons_succ, i64_w, i32_w]
      rfl
    refine pure_ (i := 10) (N := some 26) (v := ?_) (a' := ?_) #[Yy,Yy,Yy,Yy,Yy,Yy,Yy,Yy,Nn,Yy,Yy,Nn,Nn,Nn,Nn,Nn] rfl rfl (by kernel_rfl) (fun _ _ _ h => h) (Or.inl ⟨by rfl, ?_⟩) ?_ ?_
    rotate_left
    · intro w'
      go_simp
      with_reducible rfl
    rotate_left
    · simp only [Act.put, List.setIfInBounds_toArray, List.set_cons_zero, List.set_cons_succ, i64_w, i32_w]
      rfl
    refine take_ (i := 8) (N := some 24) (v := ?_) (a' := ?_) #[Yy,Yy,Yy,Yy,Yy,Yy,Yy,Yy,Yy,Yy,Yy,Nn,Nn,Nn,Nn,Nn] rfl rfl (by kernel_rfl) (fun _ _ _ h => h) (Or.inl ⟨by rfl, ?_⟩) hHeld ?_ ?_
    rotate_left
    · rintro w' ⟨s0, s1⟩
      refine Eq.trans (run_op_load' s0 (by rfl) (by rfl) Tryz.underlying37 rfl sizeG) ?_
      with_reducible rfl
    rotate_left
    · simp only [Act.put, List.setIfInBounds_toArray, List.set_cons_zero, List.set_cons_succ, i64_w, i32_w]
      rfl
    refine take_ (i := 11) (N := some 27) (v := ?_) (a' := ?_) #[Yy,Yy,Yy,Yy,Yy,Yy,Yy,Yy,Yy,Yy,Yy,Yy,Nn,Nn,Nn,Nn] rfl rfl (by kernel_rfl) (fun _ _ _ h => h) (Or.inl ⟨by rfl, ?_⟩) hHeld ?_ ?_
    rotate_left
    · rintro w' ⟨s0, s1⟩
      refine Eq.trans (run_op_load' s1 (by rfl) (by rfl) Tryz.underlying58 rfl sizeP) ?_
      with_reducible rfl
    rotate_left
    · simp only [Act.put, List.setIfInBounds_toArray, List.set_cons_zero, List.set_cons_succ, i64_w, i32_w]
      rfl
    refine one_ (i := 12) (N := some 28) #[Yy,Yy,Yy,Yy,Yy,Yy,Yy,Yy,Yy,Yy,Yy,Yy,Yy,Nn,Nn,Nn] rfl rfl (by kernel_rfl) (by decide) (fun K hK => ?_)
    refine goes_ Tryz.func77 (by kernel_rfl) rfl #[.agg #[.int .i64 P, .int .i64 n, .slice A q c], .agg (pcells P0 A0 c0)] (by rfl) rfl rfl (by simp only [List.map_toArray, List.map_cons, List.map_nil]; rfl) ?_
    with_reducible refine (forGroup_calls P n A q c P0 A0 c0 _ HFG.out).mono ?_
    rintro e w4 ⟨rfl, hb⟩
    refine ⟨_, rfl, ?_⟩
    replace H1 := H1.keep hb
    replace HB := Aside0.mk (below_step HB.out hb)
    clear hb
    refine hK.out _ _ ⟨H1.at, HC0.out.below HB.out⟩ (fun hHeld => ?_)
    clear hK K
    refine norm_ (a' := ?_) ?_ ?_
    rotate_left
    · show Act.put _ (some 28) _ = _
      simp only [Act.put, List.setIfInBounds_toArray, List.set_cons_zero, List.set_cons_succ, i64_w, i32_w]
      rfl
    refine pure_ (i := 13) (N := some 29) (v := ?_) (a' := ?_) #[Yy,Yy,Yy,Yy,Yy,Yy,Yy,Yy,Yy,Yy,Yy,Yy,Yy,Yy,Nn,Nn] rfl rfl (by kernel_rfl) (fun _ _ _ h => h) (Or.inl ⟨by rfl, ?_⟩) ?_ ?_
    rotate_left
    · intro w'
      go_simp
      with_reducible rfl
    rotate_left
    · simp only [Act.put, List.setIfInBounds_toArray, List.set_cons_zero, List.set_cons_succ, i64_w, i32_w]
      rfl
    refine pure_ (i := 14) (N := some 30) (v := ?_) (a' := ?_) #[Yy,Yy,Yy,Yy,Yy,Yy,Yy,Yy,Yy,Yy,Yy,Yy,Yy,Yy,Yy,Nn] rfl rfl (by kernel_rfl) (fun _ _ _ h => h) (Or.inl ⟨by rfl, ?_⟩) ?_ ?_
    rotate_left
    · intro w'
      go_simp
      with_reducible rfl
    rotate_left
    · simp only [Act.put, List.setIfInBounds_toArray, List.set_cons_zero, List.set_cons_succ, i64_w, i32_w]
      rfl
    refine pure_ (i := 15) (N := some 31) (v := ?_) (a' := ?_) #[Yy,Yy,Yy,Yy,Yy,Yy,Yy,Yy,Yy,Yy,Yy,Yy,Yy,Yy,Yy,Yy] rfl rfl (by kernel_rfl) (fun _ _ _ h => h) (Or.inl ⟨by rfl, ?_⟩) ?_ ?_
    rotate_left
    · intro w'
      go_simp
      with_reducible rfl
    rotate_left
    · simp only [Act.put, List.setIfInBounds_toArray, List.set_cons_zero, List.set_cons_succ, i64_w, i32_w]
      rfl
    refine done_ (by kernel_rfl) ?_
    clear hgt hgt2
    cases hfw : fewB P n
    · have HN : Aside0 (sepC P n l ps = 3) := ⟨by unfold sepC; rw [if_pos ⟨HGB.out, HPB.out⟩, if_pos ⟨HLB.out, HFB.out⟩]; simp [hfw]⟩
      rw [hfw] at HKP
      clear hfw
      go_wp2_with (first
        | (refine load_blk rfl _ 2 rfl H1 rfl _ Tryz.underlying37 rfl sizeG ?_)
        | (go_at_call 169; refine (HKP.out _).mono ?_; rintro e w7 ⟨v, rfl, ho, hb⟩; replace HB := Aside0.mk (below_step HB.out hb); clear hb ho))
      refine bodyPost_ret (results_tmp2 rfl _ _ _) rfl ?_
      exact ⟨_, by rw [HN.out]; rfl, sepOut_bad (by rw [HN.out]; decide), HB.out⟩
    · have HN : Aside0 (sepC P n l ps = 0) := ⟨by unfold sepC; rw [if_pos ⟨HGB.out, HPB.out⟩, if_pos ⟨HLB.out, HFB.out⟩]; simp [hfw]⟩
      have HFW := Aside0.mk hfw
      rw [hfw] at HKP
      clear hfw
      go_wp2_with (first
        | (refine load_blk rfl _ 2 rfl H1 rfl _ Tryz.underlying37 rfl sizeG ?_)
        | (go_at_call 169; refine (HKP.out _).mono ?_; rintro e w7 ⟨v, rfl, ho, hb⟩; obtain ⟨A2, c2, rfl, hc2, hC2⟩ := ptsOut_few ho HFW.out; have HC2 := Aside0.mk (And.intro hc2 hC2); replace HB := Aside0.mk (below_step HB.out hb); clear hb ho hc2 hC2))
      refine bodyPost_ret (results_tmp2 rfl _ _ _) rfl ?_
      exact ⟨_, by rw [HN.out]; rfl, fun _ => ⟨A2, c2, rfl, HC2.out.1, HC2.out.2⟩, HB.out⟩
end Go.Proofs.YtbenhcognapdpaaGreat
