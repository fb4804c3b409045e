/- Own texts of this claim, in one file: Law9, OrbW1, OrbW3, OrbW2, OrbI. -/
import Derived.Test.YtbenhcognapdpaaGreatKR9o
import Derived.Test.YtbenhcognapdpaaGreatKR9a
import Derived.Test.YtbenhcognapdpaaGreatKR9e
import Derived.Test.YtbenhcognapdpaaGreatKR9j
import Derived.Test.YtbenhcognapdpaaGreatKR9b
import Derived.Test.YtbenhcognapdpaaGreatKR9f
import Derived.Test.YtbenhcognapdpaaGreatKR9n
/- Walks: the laws' measures and comparisons of lists of polynomials. -/
set_option linter.unusedVariables false
set_option linter.unusedSimpArgs false
namespace Go.Proofs.YtbenhcognapdpaaGreat
open Go.RowKit Go.Proofs.YtbenhcognapdpaaGreatW.PrintWords Go.Proofs.YtbenhcognapdpaaGreatW.PrintLast Lin

theorem szTermS_calls (A : Option Addr) (n c : Nat) (left : Int) (w : World) (hl : 0 ≤ left ∧ left ≤ 1048576) (hn : n ≤ 9223372036854775807) :
    Calls Tryz.prog 105 #[.slice A n c, .int .i64 left] w fun e w' => e = .returned (.int .i64 (szL n left)) ∧ w = w' := by
  by_cases h : left < n
  · have HN : Aside0 (szL n left = -1) := ⟨by unfold szL; rw [if_pos h]⟩
    have hb : decide (left - (n : Int) < 0) = true := decide_eq_true (by omega)
    go_enter Tryz.func105, Tryz.ntmps105
    go_wp2
    go_ret
    exact ⟨ret_i HN.out.symm, rfl⟩
  · have HN : Aside0 (szL n left = left - n) := ⟨by unfold szL; rw [if_neg h]⟩
    have hb : decide (left - (n : Int) < 0) = false := decide_eq_false (by omega)
    go_enter Tryz.func105, Tryz.ntmps105
    go_wp2
    go_ret
    exact ⟨ret_i HN.out.symm, rfl⟩
theorem szPoly_calls (p m : Int) (A : Option Addr) (n c : Nat) (left : Int) (w : World) (hl : 0 ≤ left ∧ left ≤ 1048576) (hn : n ≤ 9223372036854775807) :
    Calls Tryz.prog 42 #[.agg #[.int .i64 p, .int .i64 m, .slice A n c], .int .i64 left] w fun e w' => e = .returned (.int .i64 (szL n left)) ∧ Below w.heap.size w w' := by
  by_cases h : left < n
  · have HN : Aside0 (szL n left = -1) := ⟨by unfold szL; rw [if_pos h]⟩
    go_enter Tryz.func42, Tryz.ntmps42
    go_wp2_with ((go_at_call 105; refine (szTermS_calls A n c left _ hl hn).mono ?_; rw [HN.out]; rintro e w' ⟨rfl, rfl⟩))
    go_ret
    exact ⟨ret_i HN.out.symm, below_alloc (Below.refl _ _) _⟩
  · have HN : Aside0 (szL n left = left - n) := ⟨by unfold szL; rw [if_neg h]⟩
    have hb : decide (left - (n : Int) < 0) = false := decide_eq_false (by omega)
    go_enter Tryz.func42, Tryz.ntmps42
    go_wp2_with ((go_at_call 105; refine (szTermS_calls A n c left _ hl hn).mono ?_; rw [HN.out]; rintro e w' ⟨rfl, rfl⟩))
    go_ret
    exact ⟨ret_i HN.out.symm, below_alloc (Below.refl _ _) _⟩
/-- What szPolyS answers: -1, or what is left, and then all the lists are short. -/
def SzOut (l : List Pv) (left r : Int) : Prop := r = -1 ∨ (0 ≤ r ∧ r ≤ left ∧ l.length ≤ left ∧ ∀ P ∈ l, P.2.2.length ≤ left)
set_option maxRecDepth 100000 in
set_option maxHeartbeats 1000000 in
theorem szPolyS_calls (A : Option Addr) (n c : Nat) (l : List Pv) (left : Int) (w : World) (hr : kP.C w A n l) (hl : 0 ≤ left ∧ left ≤ 1048576) :
    Calls Tryz.prog 11 #[.slice A n c, .int .i64 left] w fun e w' => ∃ r, e = .returned (.int .i64 r) ∧ SzOut l left r ∧ Below w.heap.size w w' := by
  obtain rfl := Kd.C_len hr
  have hmx := Kd.C_max hr
  have HR := Aside0.mk hr
  clear hr
  by_cases h : left < l.length
  · have hb : decide (left - (l.length : Int) < 0) = true := decide_eq_true (by omega)
    go_enter Tryz.func11, Tryz.ntmps11
    go_wp2
    go_ret
    exact ⟨_, rfl, .inl rfl, Below.refl _ _⟩
  · have hb : decide (left - (l.length : Int) < 0) = false := decide_eq_false (by omega)
    go_enter Tryz.func11, Tryz.ntmps11
    go_wp2
    go_loopw [1, 5] (fun v1 v5 wr => ∃ (r : Int) (k : Nat), v1 = .int .i64 r ∧ v5 = .int .i64 k ∧ k ≤ l.length ∧ 0 ≤ r ∧ r ≤ left ∧ Aside0 (∀ j < k, (pvR l j).2.2.length ≤ left) ∧ Aside0 (Below w.heap.size w wr)) (fun _ v5 _ => l.length - (intOf v5).toNat)
    case atStart => exact ⟨left - l.length, 0, rfl, rfl, by omega, by omega, by omega, ⟨fun j hj => by omega⟩, ⟨Below.refl _ _⟩⟩
    case round =>
      obtain ⟨r, k, rfl, rfl, hk, hr0, hr1, HZ, HB⟩ := hrel
      by_cases hlt : k < l.length
      · obtain ⟨ad, m, A', c', hmm, rfl, hc', hC', hc⟩ := poly_at (Kd.C_below HR.out HB.out) k hlt
        have hmax := Kd.C_max hC'
        have HC := Aside0.mk hc
        have HPP := Aside0.mk hmm
        clear hmm hc hC'
        by_cases hle : r < m.2.2.length
        · have HN : Aside0 (szL m.2.2.length r = -1) := ⟨by unfold szL; rw [if_pos hle]⟩
          have HK := Aside0.mk (szPoly_calls m.1 m.2.1 A' m.2.2.length c' r wr ⟨hr0, by omega⟩ hmax)
          rw [HN.out] at HK
          go_wp2_with (first
            | (refine load_agg rfl _ 20 rfl (ad.add (k * 3)) HC.out rfl _ Tryz.underlying49 rfl sizePL ?_)
            | (go_at_call 42; refine HK.out.mono ?_; rintro e w2 ⟨rfl, hb⟩; replace HB := Aside0.mk (below_step HB.out hb); clear hb))
          go_ret
          exact ⟨_, rfl, .inl rfl, HB.out⟩
        · have HN : Aside0 (szL m.2.2.length r = r - m.2.2.length) := ⟨by unfold szL; rw [if_neg hle]⟩
          have HK := Aside0.mk (szPoly_calls m.1 m.2.1 A' m.2.2.length c' r wr ⟨hr0, by omega⟩ hmax)
          rw [HN.out] at HK
          obtain ⟨z, hz⟩ : ∃ z, z = r - (m.2.2.length : Int) := ⟨_, rfl⟩
          rw [← hz] at HK
          have hz0 : 0 ≤ z ∧ z ≤ r := by omega
          have HZ2 : Aside0 ((m.2.2.length : Int) ≤ left) := ⟨by omega⟩
          have hb2 : decide (z < 0) = false := decide_eq_false (by omega)
          clear hz hle
          go_wp2_with (first
            | (refine load_agg rfl _ 20 rfl (ad.add (k * 3)) HC.out rfl _ Tryz.underlying49 rfl sizePL ?_)
            | (go_at_call 42; refine HK.out.mono ?_; rintro e w2 ⟨rfl, hb⟩; replace HB := Aside0.mk (below_step HB.out hb); clear hb))
          go_roundw
          case rel => exact ⟨z, k + 1, rfl, by go_num, by omega, hz0.1, by omega, ⟨fun j hj => by rcases Nat.lt_succ_iff_lt_or_eq.1 hj with h | h; exact HZ.out j h; subst h; rw [← HPP.out]; exact HZ2.out⟩, HB⟩
          case measure => simp [intOf]; omega
      · have HE := Aside0.mk (show k = l.length by omega)
        go_wp2
        go_ret
        refine ⟨_, rfl, .inr ⟨hr0, hr1, by omega, fun P hP => ?_⟩, HB.out⟩
        obtain ⟨j, hj, rfl⟩ := List.mem_iff_getElem.1 hP
        have := HZ.out j (by rw [HE.out]; exact hj)
        simpa [pvR, List.getD_eq_getElem?_getD, List.getElem?_eq_getElem hj] using this

set_option maxRecDepth 100000 in
set_option maxHeartbeats 400000 in
theorem eqExps_same (a : List Int) (w : World) (ha : a.length = 3) :
    Calls Tryz.prog 239 #[.agg (mcells a), .agg (mcells a)] w fun e w' => e = .returned (.bool true) ∧ Below w.heap.size w w' := by
  go_enter Tryz.func239, Tryz.ntmps239
  go_wp2
  go_loopw [5] (fun v wr => ∃ k : Nat, v = .int .i64 k ∧ k ≤ 3 ∧ Blk wr w.heap.size 83 (mcells a) ∧ Blk wr (w.heap.size + 1) 83 (mcells a) ∧ Aside0 (Below w.heap.size w wr)) (fun v _ => 3 - (intOf v).toNat)
  case atStart => exact ⟨0, rfl, by omega, (Blk.new _ _ _).alloc _, Blk.new1 _ _ _ _, ⟨below_alloc (below_alloc (Below.refl _ _) _) _⟩⟩
  case round =>
    obtain ⟨k, rfl, hk, H1, H2, HB⟩ := hrel
    by_cases hlt : k < 3
    · have c1 := H1.cell k (mcells_get a k (by omega))
      have c2 := H2.cell k (mcells_get a k (by omega))
      have hb : (nt a k != nt a k) = false := by simp
      have hd3 : decide ((k : Int) < 3) = true := decide_eq_true (by omega)
      go_wp2
      go_quiet (fail)
      go_wp2
      go_roundw
      case rel => exact ⟨k + 1, by go_num, by omega, H1.drewN _, H2.drewN _, ⟨(by repeat (first | (with_reducible first | exact HB.out | apply below_alloc | apply pw_below_drewN | apply below_drew1) | exact HB.out | exact Below.refl _ _))⟩⟩
      case measure => simp [intOf]; omega
    · go_wp2
      go_ret
      exact ⟨rfl, HB.out⟩
set_option maxRecDepth 100000 in
set_option maxHeartbeats 1000000 in
theorem eqTerm_same (t : List Int × Int) (w : World) (h : t.1.length = 3) :
    Calls Tryz.prog 195 #[.agg (tcells t), .agg (tcells t)] w fun e w' => e = .returned (.bool true) ∧ Below w.heap.size w w' := by
  have H0 := (Blk.new w (tcells t) 151).alloc (.cells (tcells t) 151)
  have H1 := Blk.new1 w (.cells (tcells t) 151) (tcells t) 151
  have HB := Aside0.mk (below_alloc (below_alloc (Below.refl w.heap.size w) (.cells (tcells t) 151)) (.cells (tcells t) 151))
  have HA0 := Aside0.mk (H0.at.exps h)
  have HA1 := Aside0.mk (H1.at.exps h)
  have HK := Aside0.mk (fun W => eqExps_same t.1 W h)
  have hb : (t.2 != t.2) = false := by simp
  go_enter Tryz.func195, Tryz.ntmps195
  go_wp2_with (first
    | (refine load_agg rfl _ 5 rfl ⟨w.heap.size, 0, none⟩ HA0.out rfl _ Tryz.underlying83 rfl (sizeE_of h) ?_)
    | (refine load_agg rfl _ 7 rfl ⟨w.heap.size + 1, 0, none⟩ HA1.out rfl _ Tryz.underlying83 rfl (sizeE_of h) ?_)
    | (go_at_call 239; refine (HK.out _).mono ?_; rintro e w2 ⟨rfl, hb⟩; have c3 := (H0.keep hb).cell 3 (tcells_val h); have d3 := (H1.keep hb).cell 3 (tcells_val h); replace HB := Aside0.mk (below_step HB.out hb); clear hb))
  go_ret
  exact ⟨rfl, HB.out⟩
set_option maxRecDepth 100000 in
set_option maxHeartbeats 400000 in
theorem eqTermS_same (A : Option Addr) (n c : Nat) (A' : Option Addr) (n' c' : Nat) (l : List (List Int × Int)) (w : World) (hr : kT.C w A n l) (hr' : kT.C w A' n' l) :
    Calls Tryz.prog 115 #[.slice A n c, .slice A' n' c'] w fun e w' => e = .returned (.bool true) ∧ Below w.heap.size w w' := by
  obtain rfl := Kd.C_len hr
  obtain rfl := Kd.C_len hr'
  have hmx := Kd.C_max hr
  have HR := Aside0.mk hr
  have HR' := Aside0.mk hr'
  clear hr hr'
  go_enter Tryz.func115, Tryz.ntmps115
  go_wp2
  go_loopw [5] (fun v wr => ∃ k : Nat, v = .int .i64 k ∧ k ≤ l.length ∧ Aside0 (Below w.heap.size w wr)) (fun v _ => l.length - (intOf v).toNat)
  case atStart => exact ⟨0, rfl, by omega, ⟨Below.refl _ _⟩⟩
  case round =>
    obtain ⟨k, rfl, hk, HB⟩ := hrel
    by_cases hlt : k < l.length
    · obtain ⟨ad, m, hmm, rfl, hm9, hc⟩ := term_at HR.out k hlt
      obtain ⟨ad', m', hmm', rfl, hm9', hc'⟩ := term_at HR'.out k hlt
      obtain rfl : m' = m := hmm'.trans hmm.symm
      have HC := Aside0.mk (hc.below HB.out)
      have HC' := Aside0.mk (hc'.below HB.out)
      have HK := Aside0.mk (fun W => eqTerm_same m' W hm9)
      clear hmm hmm' hc hc'
      go_wp2
      refine start_ (n := 10) (S := fun w' => At w' (ad.add (k * 4)) (tcells m') ∧ At w' (ad'.add (k * 4)) (tcells m')) (ds := []) #[Nn,Nn,Nn,Nn,Nn,Nn,Nn,Nn,Nn,Nn] (by kernel_rfl) rfl rfl ⟨HC.out.drew, HC'.out.drew⟩ (fun hHeld => ?_)
      refine pure_ (i := 0) (N := some 17) (v := ?_) (a' := ?_) #[Yy,Nn,Nn,Nn,Nn,Nn,Nn,Nn,Nn,Nn] rfl rfl (by kernel_rfl) (fun _ _ _ h => h) (Or.inl ⟨by rfl, ?_⟩) ?_ ?_
      rotate_left
      · intro w'
        go_simp
        with_reducible rfl
      rotate_left
      · simp only [Act.put, List.setIfInBounds_toArray, List.set_cons_zero, List.set_cons_succ, i64_w, i32_w]
        rfl
      refine pure_ (i := 1) (N := some 18) (v := ?_) (a' := ?_) #[Yy,Yy,Nn,Nn,Nn,Nn,Nn,Nn,Nn,Nn] rfl rfl (by kernel_rfl) (fun _ _ _ h => h) (Or.inl ⟨by rfl, ?_⟩) ?_ ?_
      rotate_left
      · intro w'
        go_simp
        with_reducible rfl
      rotate_left
      · simp only [Act.put, List.setIfInBounds_toArray, List.set_cons_zero, List.set_cons_succ, i64_w, i32_w]
        rfl
      refine pure_ (i := 2) (N := some 19) (v := ?_) (a' := ?_) #[Yy,Yy,Yy,Nn,Nn,Nn,Nn,Nn,Nn,Nn] rfl rfl (by kernel_rfl) (fun _ _ _ h => h) (Or.inl ⟨by rfl, ?_⟩) ?_ ?_
      rotate_left
      · intro w'
        go_simp
        with_reducible rfl
      rotate_left
      · simp only [Act.put, List.setIfInBounds_toArray, List.set_cons_zero, List.set_cons_succ, i64_w, i32_w]
        rfl
      refine pure_ (i := 4) (N := some 21) (v := ?_) (a' := ?_) #[Yy,Yy,Yy,Nn,Yy,Nn,Nn,Nn,Nn,Nn] rfl rfl (by kernel_rfl) (fun _ _ _ h => h) (Or.inl ⟨by rfl, ?_⟩) ?_ ?_
      rotate_left
      · intro w'
        go_simp
        with_reducible rfl
      rotate_left
      · simp only [Act.put, List.setIfInBounds_toArray, List.set_cons_zero, List.set_cons_succ, i64_w, i32_w]
        rfl
      refine pure_ (i := 5) (N := some 22) (v := ?_) (a' := ?_) #[Yy,Yy,Yy,Nn,Yy,Yy,Nn,Nn,Nn,Nn] rfl rfl (by kernel_rfl) (fun _ _ _ h => h) (Or.inl ⟨by rfl, ?_⟩) ?_ ?_
      rotate_left
      · intro w'
        go_simp
        with_reducible rfl
      rotate_left
      · simp only [Act.put, List.setIfInBounds_toArray, List.set_cons_zero, List.set_cons_succ, i64_w, i32_w]
        rfl
      refine pure_ (i := 6) (N := some 23) (v := ?_) (a' := ?_) #[Yy,Yy,Yy,Nn,Yy,Yy,Yy,Nn,Nn,Nn] rfl rfl (by kernel_rfl) (fun _ _ _ h => h) (Or.inl ⟨by rfl, ?_⟩) ?_ ?_
      rotate_left
      · intro w'
        go_simp
        with_reducible rfl
      rotate_left
      · simp only [Act.put, List.setIfInBounds_toArray, List.set_cons_zero, List.set_cons_succ, i64_w, i32_w]
        rfl
      refine take_ (i := 3) (N := some 20) (v := ?_) (a' := ?_) #[Yy,Yy,Yy,Yy,Yy,Yy,Yy,Nn,Nn,Nn] rfl rfl (by kernel_rfl) (fun _ _ _ h => h) (Or.inl ⟨by rfl, ?_⟩) hHeld ?_ ?_
      rotate_left
      · rintro w' ⟨s0, s1⟩
        refine Eq.trans (run_op_load' s0 (by rfl) (by rfl) Tryz.underlying151 rfl (sizeT_of hm9)) ?_
        with_reducible rfl
      rotate_left
      · simp only [Act.put, List.setIfInBounds_toArray, List.set_cons_zero, List.set_cons_succ, i64_w, i32_w]
        rfl
      refine take_ (i := 7) (N := some 24) (v := ?_) (a' := ?_) #[Yy,Yy,Yy,Yy,Yy,Yy,Yy,Yy,Nn,Nn] rfl rfl (by kernel_rfl) (fun _ _ _ h => h) (Or.inl ⟨by rfl, ?_⟩) hHeld ?_ ?_
      rotate_left
      · rintro w' ⟨s0, s1⟩
        refine Eq.trans (run_op_load' s1 (by rfl) (by rfl) Tryz.underlying151 rfl (sizeT_of hm9)) ?_
        with_reducible rfl
      rotate_left
      · simp only [Act.put, List.setIfInBounds_toArray, List.set_cons_zero, List.set_cons_succ, i64_w, i32_w]
        rfl
      refine one_ (i := 8) (N := some 25) #[Yy,Yy,Yy,Yy,Yy,Yy,Yy,Yy,Yy,Nn] rfl rfl (by kernel_rfl) (by decide) (fun K hK => ?_)
      refine goes_ Tryz.func195 (by kernel_rfl) rfl #[.agg (tcells m'), .agg (tcells m')] (by rfl) rfl rfl (by simp only [List.map_toArray, List.map_cons, List.map_nil]; rfl) ?_
      with_reducible refine (HK.out _).mono ?_
      rintro e w2 ⟨rfl, hb⟩
      refine ⟨_, rfl, ?_⟩
      have HB2 := Aside0.mk hb
      clear hb
      refine hK.out _ _ ⟨HC.out.drew.below HB2.out, HC'.out.drew.below HB2.out⟩ (fun hHeld => ?_)
      clear hK K
      refine norm_ (a' := ?_) ?_ ?_
      rotate_left
      · show Act.put _ (some 25) _ = _
        simp only [Act.put, List.setIfInBounds_toArray, List.set_cons_zero, List.set_cons_succ, i64_w, i32_w]
        rfl
      refine pure_ (i := 9) (N := some 26) (v := ?_) (a' := ?_) #[Yy,Yy,Yy,Yy,Yy,Yy,Yy,Yy,Yy,Yy] rfl rfl (by kernel_rfl) (fun _ _ _ h => h) (Or.inl ⟨by rfl, ?_⟩) ?_ ?_
      rotate_left
      · intro w'
        go_simp
        with_reducible rfl
      rotate_left
      · simp only [Act.put, List.setIfInBounds_toArray, List.set_cons_zero, List.set_cons_succ, i64_w, i32_w]
        rfl
      refine done_ (by kernel_rfl) ?_
      go_wp2
      go_roundw
      case rel => exact ⟨k + 1, by go_num, by omega, ⟨below_step (below_drew1 HB.out) HB2.out⟩⟩
      case measure => simp [intOf]; omega
    · go_wp2
      go_ret
      exact ⟨rfl, HB.out⟩
set_option maxRecDepth 100000 in
set_option maxHeartbeats 1000000 in
theorem eqPoly_same (p n : Int) (A : Option Addr) (q c : Nat) (A' : Option Addr) (q' c' : Nat) (l : List (List Int × Int)) (w : World) (hr : kT.C w A q l) (hr' : kT.C w A' q' l) :
    Calls Tryz.prog 48 #[.agg #[.int .i64 p, .int .i64 n, .slice A q c], .agg #[.int .i64 p, .int .i64 n, .slice A' q' c']] w fun e w' => e = .returned (.bool true) ∧ Below w.heap.size w w' := by
  have hb0 := below_alloc (below_alloc (Below.refl w.heap.size w) (.cells #[.int .i64 p, .int .i64 n, .slice A q c] 58)) (.cells #[.int .i64 p, .int .i64 n, .slice A' q' c'] 58)
  have HK := Aside0.mk (eqTermS_same A q c A' q' c' l _ (Kd.C_below hr hb0) (Kd.C_below hr' hb0))
  have HB0 := Aside0.mk hb0
  clear hr hr' hb0
  go_enter Tryz.func48, Tryz.ntmps48
  go_wp2_with ((go_at_call 115; refine HK.out.mono ?_; rintro e w2 ⟨rfl, hb⟩; have HB := Aside0.mk hb; clear hb))
  go_ret
  exact ⟨rfl, below_step HB0.out HB.out⟩
theorem eqPoly_pv (P : Pv) (A : Option Addr) (c : Nat) (A' : Option Addr) (c' : Nat) (w : World) (hr : kT.C w A P.2.2.length P.2.2) (hr' : kT.C w A' P.2.2.length P.2.2) :
    Calls Tryz.prog 48 #[.agg (pcells P A c), .agg (pcells P A' c')] w fun e w' => e = .returned (.bool true) ∧ Below w.heap.size w w' :=
  eqPoly_same P.1 P.2.1 A P.2.2.length c A' P.2.2.length c' P.2.2 w hr hr'
set_option maxRecDepth 100000 in
set_option maxHeartbeats 400000 in
theorem eqPolyS_same (A : Option Addr) (n c : Nat) (A' : Option Addr) (n' c' : Nat) (l : List Pv) (w : World) (hr : kP.C w A n l) (hr' : kP.C w A' n' l) :
    Calls Tryz.prog 15 #[.slice A n c, .slice A' n' c'] w fun e w' => e = .returned (.bool true) ∧ Below w.heap.size w w' := by
  obtain rfl := Kd.C_len hr
  obtain rfl := Kd.C_len hr'
  have hmx := Kd.C_max hr
  have HR := Aside0.mk hr
  have HR' := Aside0.mk hr'
  clear hr hr'
  go_enter Tryz.func15, Tryz.ntmps15
  go_wp2
  go_loopw [5] (fun v wr => ∃ k : Nat, v = .int .i64 k ∧ k ≤ l.length ∧ Aside0 (Below w.heap.size w wr)) (fun v _ => l.length - (intOf v).toNat)
  case atStart => exact ⟨0, rfl, by omega, ⟨Below.refl _ _⟩⟩
  case round =>
    obtain ⟨k, rfl, hk, HB⟩ := hrel
    by_cases hlt : k < l.length
    · obtain ⟨ad, m, A1, c1, hmm, rfl, _, hC1, hc⟩ := poly_at (Kd.C_below HR.out HB.out) k hlt
      obtain ⟨ad', m', A2, c2, hmm', rfl, _, hC2, hc'⟩ := poly_at (Kd.C_below HR'.out HB.out) k hlt
      obtain rfl : m' = m := hmm'.trans hmm.symm
      have HC := Aside0.mk hc
      have HC' := Aside0.mk hc'
      have HK := Aside0.mk (eqPoly_pv m' A1 c1 A2 c2 _ (Kd.C_drew hC1) (Kd.C_drew hC2))
      clear hmm hmm' hc hc' hC1 hC2
      go_wp2
      refine start_ (n := 10) (S := fun w' => At w' (ad.add (k * 3)) (pcells m' A1 c1) ∧ At w' (ad'.add (k * 3)) (pcells m' A2 c2)) (ds := []) #[Nn,Nn,Nn,Nn,Nn,Nn,Nn,Nn,Nn,Nn] (by kernel_rfl) rfl rfl ⟨HC.out.drew, HC'.out.drew⟩ (fun hHeld => ?_)
      refine pure_ (i := 0) (N := some 17) (v := ?_) (a' := ?_) #[Yy,Nn,Nn,Nn,Nn,Nn,Nn,Nn,Nn,Nn] rfl rfl (by kernel_rfl) (fun _ _ _ h => h) (Or.inl ⟨by rfl, ?_⟩) ?_ ?_
      rotate_left
      · intro w'
        go_simp
        with_reducible rfl
      rotate_left
      · simp only [Act.put, List.setIfInBounds_toArray, List.set_cons_zero, List.set_cons_succ, i64_w, i32_w]
        rfl
      refine pure_ (i := 1) (N := some 18) (v := ?_) (a' := ?_) #[Yy,Yy,Nn,Nn,Nn,Nn,Nn,Nn,Nn,Nn] rfl rfl (by kernel_rfl) (fun _ _ _ h => h) (Or.inl ⟨by rfl, ?_⟩) ?_ ?_
      rotate_left
      · intro w'
        go_simp
        with_reducible rfl
      rotate_left
      · simp only [Act.put, List.setIfInBounds_toArray, List.set_cons_zero, List.set_cons_succ, i64_w, i32_w]
        rfl
      refine pure_ (i := 2) (N := some 19) (v := ?_) (a' := ?_) #[Yy,Yy,Yy,Nn,Nn,Nn,Nn,Nn,Nn,Nn] rfl rfl (by kernel_rfl) (fun _ _ _ h => h) (Or.inl ⟨by rfl, ?_⟩) ?_ ?_
      rotate_left
      · intro w'
        go_simp
        with_reducible rfl
      rotate_left
      · simp only [Act.put, List.setIfInBounds_toArray, List.set_cons_zero, List.set_cons_succ, i64_w, i32_w]
        rfl
      refine pure_ (i := 4) (N := some 21) (v := ?_) (a' := ?_) #[Yy,Yy,Yy,Nn,Yy,Nn,Nn,Nn,Nn,Nn] rfl rfl (by kernel_rfl) (fun _ _ _ h => h) (Or.inl ⟨by rfl, ?_⟩) ?_ ?_
      rotate_left
      · intro w'
        go_simp
        with_reducible rfl
      rotate_left
      · simp only [Act.put, List.setIfInBounds_toArray, List.set_cons_zero, List.set_cons_succ, i64_w, i32_w]
        rfl
      refine pure_ (i := 5) (N := some 22) (v := ?_) (a' := ?_) #[Yy,Yy,Yy,Nn,Yy,Yy,Nn,Nn,Nn,Nn] rfl rfl (by kernel_rfl) (fun _ _ _ h => h) (Or.inl ⟨by rfl, ?_⟩) ?_ ?_
      rotate_left
      · intro w'
        go_simp
        with_reducible rfl
      rotate_left
      · simp only [Act.put, List.setIfInBounds_toArray, List.set_cons_zero, List.set_cons_succ, i64_w, i32_w]
        rfl
      refine pure_ (i := 6) (N := some 23) (v := ?_) (a' := ?_) #[Yy,Yy,Yy,Nn,Yy,Yy,Yy,Nn,Nn,Nn] rfl rfl (by kernel_rfl) (fun _ _ _ h => h) (Or.inl ⟨by rfl, ?_⟩) ?_ ?_
      rotate_left
      · intro w'
        go_simp
        with_reducible rfl
      rotate_left
      · simp only [Act.put, List.setIfInBounds_toArray, List.set_cons_zero, List.set_cons_succ, i64_w, i32_w]
        rfl
      refine take_ (i := 3) (N := some 20) (v := ?_) (a' := ?_) #[Yy,Yy,Yy,Yy,Yy,Yy,Yy,Nn,Nn,Nn] rfl rfl (by kernel_rfl) (fun _ _ _ h => h) (Or.inl ⟨by rfl, ?_⟩) hHeld ?_ ?_
      rotate_left
      · rintro w' ⟨s0, s1⟩
        refine Eq.trans (run_op_load' s0 (by rfl) (by rfl) Tryz.underlying58 rfl sizeP) ?_
        with_reducible rfl
      rotate_left
      · simp only [Act.put, List.setIfInBounds_toArray, List.set_cons_zero, List.set_cons_succ, i64_w, i32_w]
        rfl
      refine take_ (i := 7) (N := some 24) (v := ?_) (a' := ?_) #[Yy,Yy,Yy,Yy,Yy,Yy,Yy,Yy,Nn,Nn] rfl rfl (by kernel_rfl) (fun _ _ _ h => h) (Or.inl ⟨by rfl, ?_⟩) hHeld ?_ ?_
      rotate_left
      · rintro w' ⟨s0, s1⟩
        refine Eq.trans (run_op_load' s1 (by rfl) (by rfl) Tryz.underlying58 rfl sizeP) ?_
        with_reducible rfl
      rotate_left
      · simp only [Act.put, List.setIfInBounds_toArray, List.set_cons_zero, List.set_cons_succ, i64_w, i32_w]
        rfl
      refine one_ (i := 8) (N := some 25) #[Yy,Yy,Yy,Yy,Yy,Yy,Yy,Yy,Yy,Nn] rfl rfl (by kernel_rfl) (by decide) (fun K hK => ?_)
      refine goes_ Tryz.func48 (by kernel_rfl) rfl #[.agg (pcells m' A1 c1), .agg (pcells m' A2 c2)] (by rfl) rfl rfl (by simp only [List.map_toArray, List.map_cons, List.map_nil]; rfl) ?_
      with_reducible refine (HK.out).mono ?_
      rintro e w2 ⟨rfl, hb⟩
      refine ⟨_, rfl, ?_⟩
      have HB2 := Aside0.mk hb
      clear hb
      refine hK.out _ _ ⟨HC.out.drew.below HB2.out, HC'.out.drew.below HB2.out⟩ (fun hHeld => ?_)
      clear hK K
      refine norm_ (a' := ?_) ?_ ?_
      rotate_left
      · show Act.put _ (some 25) _ = _
        simp only [Act.put, List.setIfInBounds_toArray, List.set_cons_zero, List.set_cons_succ, i64_w, i32_w]
        rfl
      refine pure_ (i := 9) (N := some 26) (v := ?_) (a' := ?_) #[Yy,Yy,Yy,Yy,Yy,Yy,Yy,Yy,Yy,Yy] rfl rfl (by kernel_rfl) (fun _ _ _ h => h) (Or.inl ⟨by rfl, ?_⟩) ?_ ?_
      rotate_left
      · intro w'
        go_simp
        with_reducible rfl
      rotate_left
      · simp only [Act.put, List.setIfInBounds_toArray, List.set_cons_zero, List.set_cons_succ, i64_w, i32_w]
        rfl
      refine done_ (by kernel_rfl) ?_
      go_wp2
      go_roundw
      case rel => exact ⟨k + 1, by go_num, by omega, ⟨below_step (below_drew1 HB.out) HB2.out⟩⟩
      case measure => simp [intOf]; omega
    · go_wp2
      go_ret
      exact ⟨rfl, HB.out⟩
end Go.Proofs.YtbenhcognapdpaaGreat
/- Walks: where a matrix leads a point. -/
set_option linter.unusedVariables false
set_option linter.unusedSimpArgs false
namespace Go.Proofs.YtbenhcognapdpaaGreat
open Go.RowKit Go.Proofs.YtbenhcognapdpaaGreatW.PrintWords Go.Proofs.YtbenhcognapdpaaGreatW.PrintLast Lin

theorem leadV_take (p : Int) (n : Nat) (x m : List Int) (j : Nat) (hj : j < n) : (leadV p n x m).take (j + 1) = (leadV p n x m).take j ++ [dotV x m j n % p] := by
  rw [take_succ_nt _ _ (by rw [leadV_len]; exact hj), leadV_nt _ _ _ _ hj]
set_option maxRecDepth 100000 in
set_option maxHeartbeats 1000000 in
theorem l02Lead_calls (p : Int) (n : Nat) (m : List Int) (A : Option Addr) (q c : Nat) (x : List Int) (w : World) (hr : kI.C w A q x) (hp : 0 < p) (hp2 : p ≤ 1000) (hn : n ≤ 3) (hm : IsM m) (hl : x.length = n) (hx : InR p x) :
    Calls Tryz.prog 225 #[.int .i64 p, .int .i64 n, .agg (mcells m), .slice A q c] w fun e w' => ∃ v, e = .returned v ∧ kI.R 2 w' w.heap.size (fun _ => True) v (leadV p n x m) ∧ Below w.heap.size w w' := by
  obtain rfl := Kd.C_len hr
  have HR := Aside0.mk hr
  have HM := Aside0.mk hm
  have HX := Aside0.mk (And.intro hl hx)
  have HD := Aside0.mk (fun j k => dotV_bd (k := k) hx hp hp2 hm j)
  clear hr hm hl hx
  go_enter Tryz.func225, Tryz.ntmps225
  go_wp2
  go_loopw [9, 10] (fun v9 v10 wr => ∃ j : Nat, v10 = .int .i64 j ∧ j ≤ n ∧ Aside0 (kI.R 2 wr w.heap.size (fun _ => True) v9 ((leadV p n x m).take j)) ∧ Aside0 (∀ b, v9.ownBlock = some b → w.heap.size < b) ∧ Blk wr w.heap.size 138 (mcells m) ∧ Aside0 (Below w.heap.size w wr)) (fun _ v10 _ => n - (intOf v10).toNat)
  case atStart => exact ⟨0, rfl, by omega, ⟨R_litAt kI _ _ _ (by rw [size_alloc]) (below_alloc (Below.refl _ _) _).size⟩, ⟨fun b hb => by simp [Value.ownBlock] at hb; omega⟩, (Blk.new _ _ _).alloc _, ⟨below_alloc (below_alloc (Below.refl _ _) _) _⟩⟩
  case round =>
    obtain ⟨j, rfl, hj, HO, HV, H1, HB⟩ := hrel
    by_cases hlt : j < n
    · have hd3 : decide ((j : Int) < n) = true := decide_eq_true (by omega)
      go_wp2
      obtain ⟨wo, rfl⟩ : ∃ wo, wo = wr := ⟨_, rfl⟩
      go_loopw [11, 12] (fun v11 v12 wr => ∃ k : Nat, v12 = .int .i64 k ∧ v11 = .int .i64 (dotV x m j k) ∧ k ≤ n ∧ Aside0 (kI.R 2 wr w.heap.size (fun _ => True) u9 ((leadV p n x m).take j)) ∧ Blk wr w.heap.size 138 (mcells m) ∧ Aside0 (Below w.heap.size w wr)) (fun _ v12 _ => n - (intOf v12).toNat)
      case atStart => exact ⟨0, rfl, rfl, by omega, HO, H1, HB⟩
      case round =>
        clear HO H1 HB
        obtain ⟨k, rfl, rfl, hk, HO, H1, HB⟩ := hrel
        have hd := HD.out j k
        have hdu : dotV x m j k ≤ 3 * 255000 := by omega
        have hd1 := hd.1
        clear hd
        by_cases hkl : k < n
        · obtain ⟨ad, rfl, hc⟩ := at_nt HR.out k (by have := HX.out.1; omega)
          have hw := ((HB.out.cell (World.block_lt_of_cell? _ _ hc)).trans hc)
          have hkx : k < x.length := by have := HX.out.1; omega
          have c1 := H1.cell (k * 3 + j) (mcells_get m _ (by have := HM.out.1; omega))
          have e1 := HX.out.2.nt hp k
          have e2 := HM.out.nt (k * 3 + j)
          have m1 : 0 ≤ nt x k * nt m (k * 3 + j) := Int.mul_nonneg e1.1 e2.1
          have m2 : nt x k * nt m (k * 3 + j) ≤ 1000 * 255 := Int.mul_le_mul (by omega) e2.2 e2.1 (by omega)
          go_wp2
          go_quiet (fail)
          go_wp2
          go_roundw
          case rel => exact ⟨k + 1, by go_num, by go_num, by omega, ⟨Kd.R_drewN HO.out _⟩, H1.drewN _, ⟨pw_below_drewN HB.out _⟩⟩
          case measure => simp [intOf]; omega
        · obtain rfl : k = n := by omega
          have hp0 : (p == 0) = false := by rw [beq_eq_false_iff_ne]; omega
          have HLE : Aside0 (((leadV p k x m).take j).length < 17592186044416) := ⟨by rw [List.length_take]; omega⟩
          go_wp2_with ((at_builtin; go_must (refine app_int (w0 := w) rfl _ _ _ rfl Tryz.underlying84 infoI u9 ((leadV p k x m).take j) _ rfl rfl HO.out HB.out HLE.out ?_); intro v1 w1 HO1 HB1 hg9 hat9; have HO1 := Aside0.mk HO1; have HB1 := Aside0.mk HB1; have HH := Aside0.mk (And.intro hg9 hat9); clear hg9 hat9))
          obtain ⟨hg9, hat9⟩ := HH.out
          have hne1 : some w.heap.size ≠ u9.ownBlock := fun h => by have := HV.out _ h.symm; omega
          have hsz := H1.lt
          go_roundw
          case rel => exact ⟨j + 1, by go_num, by omega, ⟨by rw [leadV_take p k x m j hlt]; exact HO1.out⟩, ⟨fun b hb => by rcases hat9 with h | ⟨b', h1, h2⟩; exact HV.out b (h ▸ hb); rw [h1] at hb; cases hb; omega⟩, H1.grown hg9 hne1, HB1⟩
          case measure => simp [intOf]; omega
    · go_wp2
      go_ret
      exact ⟨_, rfl, by rw [show leadV p n x m = (leadV p n x m).take j from (List.take_of_length_le (by rw [leadV_len]; omega)).symm]; exact HO.out, HB.out⟩
end Go.Proofs.YtbenhcognapdpaaGreat
/- Walks: where a matrix leads a point, in the program. -/
set_option linter.unusedVariables false
set_option linter.unusedSimpArgs false
namespace Go.Proofs.YtbenhcognapdpaaGreat
open Go.RowKit Go.Proofs.YtbenhcognapdpaaGreatW.PrintWords Go.Proofs.YtbenhcognapdpaaGreatW.PrintLast Lin

/-- The numbers while the program sums them: the rows below i are in, and of the row i those below j. -/
def ledF (p : Int) (x m : List Int) (i j c : Nat) : Int := (if c < j then dotV x m c (i + 1) else dotV x m c i) % p
def ledL (p : Int) (n : Nat) (x m : List Int) (i j : Nat) : List Int := (List.range n).map (ledF p x m i j)
theorem ledL_len (p : Int) (n : Nat) (x m : List Int) (i j : Nat) : (ledL p n x m i j).length = n := by simp [ledL]
theorem ledL_nt (p : Int) (n : Nat) (x m : List Int) (i j : Nat) {c : Nat} (hc : c < n) : nt (ledL p n x m i j) c = ledF p x m i j c := by
  rw [nt_eq _ _ (by rw [ledL_len]; exact hc)]
  simp [ledL]
theorem ledL_zero (p : Int) (n : Nat) (x m : List Int) : List.replicate n 0 = ledL p n x m 0 0 := by
  refine row_ext (by simp [ledL_len]) fun c hc => ?_
  rw [List.length_replicate] at hc
  rw [ledL_nt _ _ _ _ _ _ hc, nt_eq _ _ (by simpa using hc)]
  simp [ledF, dotV]
theorem ledL_set (p : Int) (n : Nat) (x m : List Int) (i j : Nat) (hj : j < n) : (ledL p n x m i j).set j ((nt (ledL p n x m i j) j + nt x i * nt m (i * 3 + j)) % p) = ledL p n x m i (j + 1) := by
  refine row_ext (by simp [ledL_len]) fun c hc => ?_
  rw [List.length_set, ledL_len] at hc
  rw [nt_set (by rw [ledL_len]; omega), ledL_nt _ _ _ _ _ _ hc, ledL_nt _ _ _ _ _ _ hc, ledL_nt _ _ _ _ _ _ hj]
  by_cases h : c = j
  · subst h
    rw [if_pos rfl]
    simp only [ledF]
    rw [if_neg (by omega), if_pos (by omega), Int.emod_add_emod]
    rfl
  · rw [if_neg h]
    unfold ledF
    by_cases h2 : c < j
    · rw [if_pos h2, if_pos (by omega)]
    · rw [if_neg h2, if_neg (by omega)]
theorem ledL_next (p : Int) (n : Nat) (x m : List Int) (i : Nat) : ledL p n x m i n = ledL p n x m (i + 1) 0 := by
  refine row_ext (by simp [ledL_len]) fun c hc => ?_
  rw [ledL_len] at hc
  rw [ledL_nt _ _ _ _ _ _ hc, ledL_nt _ _ _ _ _ _ hc]
  unfold ledF
  rw [if_pos hc, if_neg (by omega)]
theorem ledL_done (p : Int) (n : Nat) (x m : List Int) : ledL p n x m n 0 = leadV p n x m := by
  refine row_ext (by rw [ledL_len, leadV_len]) fun c hc => ?_
  rw [ledL_len] at hc
  rw [ledL_nt _ _ _ _ _ _ hc, leadV_nt _ _ _ _ hc]
  unfold ledF
  rw [if_neg (by omega)]
theorem ledF_bd {p : Int} (hp : 0 < p) (x m : List Int) (i j c : Nat) : 0 ≤ ledF p x m i j c ∧ ledF p x m i j c < p := ⟨Int.emod_nonneg _ (by omega), Int.emod_lt_of_pos _ hp⟩

set_option maxRecDepth 100000 in
set_option maxHeartbeats 1000000 in
theorem led_calls (p : Int) (n : Nat) (A : Option Addr) (q c : Nat) (x m : List Int) (w : World) (hr : kI.C w A q x) (hp : 0 < p) (hp2 : p ≤ 1000) (hn1 : 1 ≤ n) (hn : n ≤ 3) (hm : IsM m) (hl : x.length = n) (hx : InR p x) :
    Calls Tryz.prog 174 #[.int .i64 p, .int .i64 n, .slice A q c, .agg (mcells m)] w fun e w' => ∃ v, e = .returned v ∧ kI.R 2 w' w.heap.size (fun _ => True) v (leadV p n x m) ∧ Below w.heap.size w w' := by
  obtain rfl := Kd.C_len hr
  have HR := Aside0.mk hr
  have HM := Aside0.mk hm
  have HX := Aside0.mk (And.intro hl hx)
  clear hr hm hl hx
  go_enter Tryz.func174, Tryz.ntmps174
  go_wp2_with ((refine make_int rfl rfl _ (.tmp 13) (.tmp 13) rfl n rfl rfl Tryz.underlying84 infoI (by omega) (by omega) ?_; intro v9 w1 ho1 hb1; rw [Int.toNat_natCast, ledL_zero p n x m] at ho1; obtain ⟨g, cap, hv9, hg1, hg2, cells, hcell⟩ := Kd.R_form ho1 (by rw [ledL_len]; omega); rw [ledL_len] at hv9; subst hv9; have HO1 := Aside0.mk ho1; have HB1 := Aside0.mk hb1; clear ho1 hb1 hcell))
  have H1 := (Blk.new w (mcells m) 138).keep HB1.out
  have hgs : w.heap.size < g := by rw [size_alloc] at hg1; omega
  have HS := Aside0.mk (Kd.R_lower HO1.out (show w.heap.size ≤ _ by rw [size_alloc]; omega))
  have HB := Aside0.mk (below_step (below_alloc (Below.refl w.heap.size w) _) HB1.out)
  clear HO1 HB1 hg1
  go_loopw [17] (fun v17 wr => ∃ i : Nat, v17 = .int .i64 i ∧ i ≤ x.length ∧ Aside0 (kI.R 2 wr w.heap.size (fun _ => True) (.slice (some ⟨g, 0, none⟩) n cap) (ledL p n x m i 0)) ∧ Blk wr w.heap.size 138 (mcells m) ∧ Aside0 (Below w.heap.size w wr)) (fun v17 _ => x.length - (intOf v17).toNat)
  case atStart => exact ⟨0, rfl, by omega, HS, H1, HB⟩
  case round =>
    clear HS H1 HB
    obtain ⟨i, rfl, hi, HS, H1, HB⟩ := hrel
    by_cases hlt : i < x.length
    · obtain ⟨ad, rfl, hc⟩ := at_nt HR.out i hlt
      have hw := ((HB.out.cell (World.block_lt_of_cell? _ _ hc)).trans hc)
      have hd3 : decide ((i : Int) < x.length) = true := decide_eq_true (by omega)
      have hin : i < n := by have := HX.out.1; omega
      go_wp2
      obtain ⟨wo, rfl⟩ : ∃ wo, wo = wr := ⟨_, rfl⟩
      clear hw
      go_loopw [23] (fun v23 wr => ∃ j : Nat, v23 = .int .i64 j ∧ j ≤ n ∧ Aside0 (kI.R 2 wr w.heap.size (fun _ => True) (.slice (some ⟨g, 0, none⟩) n cap) (ledL p n x m i j)) ∧ Blk wr w.heap.size 138 (mcells m) ∧ Aside0 (Below w.heap.size w wr)) (fun v23 _ => n - (intOf v23).toNat)
      case atStart => exact ⟨0, rfl, by omega, HS, H1, HB⟩
      case round =>
        clear HS H1 HB
        obtain ⟨j, rfl, hj, HS, H1, HB⟩ := hrel
        by_cases hjl : j < n
        · have hd4 : decide ((j : Int) < n) = true := decide_eq_true (by omega)
          obtain ⟨hj1, hj2⟩ := own_cell HS.out j hjl
          have hbd : 0 ≤ nt (ledL p n x m i j) j ∧ nt (ledL p n x m i j) j < p := by rw [ledL_nt _ _ _ _ _ _ hjl]; exact ledF_bd hp ..
          have hst := Aside0.mk (ledL_set p n x m i j hjl)
          generalize nt (ledL p n x m i j) j = z at *
          have c1 := H1.cell (i * 3 + j) (mcells_get m _ (by have := HM.out.1; omega))
          have e1 := HX.out.2.nt hp i
          have e2 := HM.out.nt (i * 3 + j)
          have m1 : 0 ≤ nt x i * nt m (i * 3 + j) := Int.mul_nonneg e1.1 e2.1
          have m2 : nt x i * nt m (i * 3 + j) ≤ 1000 * 255 := Int.mul_le_mul (by omega) e2.2 e2.1 (by omega)
          have hp0 : (p == 0) = false := by rw [beq_eq_false_iff_ne]; omega
          go_wp2
          go_region
          go_wp2
          go_roundw
          case rel => exact ⟨j + 1, by go_num, by omega, ⟨by rw [← hst.out]; exact Kd.R_drew (own_put HS.out j _)⟩, (H1.far (by dsimp only; omega) _).drew, ⟨below_drew (HB.out.setCell (by dsimp only; omega) _)⟩⟩
          case measure => simp [intOf]; omega
        · obtain rfl : j = n := by omega
          have HS2 := HS
          rw [ledL_next] at HS2
          go_wp2
          go_roundw
          case rel => exact ⟨i + 1, by go_num, by omega, HS2, H1, HB⟩
          case measure => simp [intOf]; omega
    · have hie : i = n := by have := HX.out.1; omega
      have HS2 := HS
      rw [hie, ledL_done] at HS2
      clear hie
      go_wp2
      go_ret
      exact ⟨_, rfl, HS2.out, HB.out⟩
end Go.Proofs.YtbenhcognapdpaaGreat
/- Walks: the specification's orbit of a point. -/
set_option linter.unusedVariables false
set_option linter.unusedSimpArgs false
namespace Go.Proofs.YtbenhcognapdpaaGreat
open Go.RowKit Go.Proofs.YtbenhcognapdpaaGreatW.PrintWords Go.Proofs.YtbenhcognapdpaaGreatW.PrintLast Lin

theorem orbitS_take (p : Int) (n : Nat) (l : List (List Int)) (x : List Int) (i : Nat) (hi : i < l.length) : orbitS p n (l.take (i + 1)) x = orbIns (leadV p n x (ntR l i)) (orbitS p n (l.take i) x) := by
  rw [take_succ_ntR l i hi]
  simp [orbitS]
theorem orbIns_len (own : List Int) (out : List (List Int)) : (orbIns own out).length ≤ out.length + 1 := by
  induction out with
  | nil => simp [orbIns]
  | cons r rs ih =>
    simp only [orbIns]
    split
    · simp; omega
    · split <;> simp
theorem orbitS_len (p : Int) (n : Nat) (l : List (List Int)) (x : List Int) : (orbitS p n l x).length ≤ l.length := by
  induction l using snoc_ind with
  | h0 => simp [orbitS]
  | h1 l a ih =>
    have : orbitS p n (l ++ [a]) x = orbIns (leadV p n x a) (orbitS p n l x) := by simp [orbitS]
    rw [this]
    have := orbIns_len (leadV p n x a) (orbitS p n l x)
    simp
    omega
theorem orbitS_rows {p : Int} {n : Nat} {l : List (List Int)} {x y : List Int} (h : y ∈ orbitS p n l x) : y.length = n := by
  obtain ⟨m, _, rfl⟩ := orbitS_mem.1 h
  exact leadV_len ..

set_option maxRecDepth 100000 in
set_option maxHeartbeats 4000000 in
theorem l02Orbit_calls (p : Int) (n : Nat) (A : Option Addr) (q c : Nat) (l : List (List Int)) (A' : Option Addr) (q' c' : Nat) (x : List Int) (w : World) (hr : kM.C w A q l) (hl : ∀ m ∈ l, IsM m) (hr' : kI.C w A' q' x)
    (hp : 0 < p) (hp2 : p ≤ 1000) (hn : n ≤ 3) (hx : Pt p n x) (hl48 : l.length ≤ 48) :
    Calls Tryz.prog 172 #[.agg #[.int .i64 p, .int .i64 n, .slice A q c], .slice A' q' c'] w fun e w' => ∃ v, e = .returned v ∧ kR.R 84 w' w.heap.size (fun _ => True) v (orbitS p n l x) ∧ Below w.heap.size w w' := by
  obtain rfl := Kd.C_len hr
  obtain rfl := Kd.C_len hr'
  have HR := Aside0.mk hr
  have HL := Aside0.mk hl
  have HR' := Aside0.mk hr'
  have HX := Aside0.mk (show x.length = n ∧ InR p x from hx)
  clear hr hl hr' hx
  go_enter Tryz.func172, Tryz.ntmps172
  go_wp2
  obtain ⟨wb, hwb⟩ : ∃ wb, wb = w.alloc (.cells #[.int .i64 p, .int .i64 n, .slice A l.length c] 37) := ⟨_, rfl⟩
  have H1b : Blk wb w.heap.size 37 #[.int .i64 p, .int .i64 n, .slice A l.length c] := hwb ▸ Blk.new w _ _
  have hwbs : wb.heap.size = w.heap.size + 1 := by rw [hwb, size_alloc]
  have HWB := Aside0.mk (show Below w.heap.size w wb from hwb ▸ below_alloc (Below.refl _ _) _)
  go_loopw [5, 6] (fun v5 v6 wr => ∃ i : Nat, v6 = .int .i64 i ∧ i ≤ l.length ∧ Aside0 (kR.R 84 wr wb.heap.size (fun _ => True) v5 (orbitS p n (l.take i) x)) ∧ Aside0 (Below wb.heap.size wb wr)) (fun _ v6 _ => l.length - (intOf v6).toNat)
  case atStart => exact ⟨0, rfl, by omega, ⟨by rw [hwbs]; exact R_litAt kR _ _ _ (by rw [size_alloc]) (by rw [size_alloc]; exact Nat.le_refl _)⟩, ⟨by rw [hwb]; exact below_alloc (Below.refl _ _) _⟩⟩
  case round =>
    obtain ⟨i, rfl, hi, HO, HB⟩ := hrel
    have H1 := H1b.keep HB.out
    have k0 := H1.cell 0 rfl
    have k1 := H1.cell 1 rfl
    have k2 := H1.cell 2 rfl
    have hlen := orbitS_len p n (l.take i) x
    rw [List.length_take] at hlen
    obtain ⟨out, hout⟩ : ∃ out, out = orbitS p n (l.take i) x := ⟨_, rfl⟩
    have HROW := Aside0.mk (show ∀ y ∈ out, y.length = n from fun y hy => orbitS_rows (hout ▸ hy))
    rw [← hout] at HO hlen
    have HE := Aside0.mk hout
    clear hout
    by_cases hlt : i < l.length
    · obtain ⟨ad, m, hmm, rfl, hm9, hc⟩ := mat_at HR.out i hlt
      have HM : Aside0 (IsM m) := ⟨HL.out m (hmm ▸ ntR_mem l i hlt)⟩
      have HC := Aside0.mk (hc.below (below_step HWB.out HB.out))
      have HX' := Aside0.mk (Kd.C_below HR'.out (below_step HWB.out HB.out))
      have HNX : Aside0 (orbitS p n (l.take (i + 1)) x = orbIns (leadV p n x m) out) := ⟨by rw [orbitS_take p n l x i hlt, ← hmm, ← HE.out]⟩
      clear hmm hc HE
      obtain ⟨A5, c5, rfl, hc5, hC5⟩ := Kd.R_reads HO.out
      clear hC5
      have hd3 : decide ((i : Int) < l.length) = true := decide_eq_true (by omega)
      go_wp2
      refine start_ (n := 13) (S := fun w' => w'.cell? ⟨w.heap.size, 0, none⟩ = some (.int .i64 p) ∧ w'.cell? ⟨w.heap.size, 1, none⟩ = some (.int .i64 n) ∧ w'.cell? ⟨w.heap.size, 2, none⟩ = some (.slice (some ad) l.length c) ∧ MAt w' (ad.add (i * 9)) m) (ds := []) #[Nn,Nn,Nn,Nn,Nn,Nn,Nn,Nn,Nn,Nn,Nn,Nn,Nn] (by kernel_rfl) rfl rfl ⟨k0, k1, k2, HC.out.drew⟩ (fun hHeld => ?_)
      refine pure_ (i := 0) (N := some 18) (v := ?_) (a' := ?_) #[Yy,Nn,Nn,Nn,Nn,Nn,Nn,Nn,Nn,Nn,Nn,Nn,Nn] rfl rfl (by kernel_rfl) (fun _ _ _ h => h) (Or.inl ⟨by rfl, ?_⟩) ?_ ?_
      rotate_left
      · intro w'
        go_simp
        with_reducible rfl
      rotate_left
      · simp only [Act.put, List.setIfInBounds_toArray, List.set_cons_zero, List.set_cons_succ, i64_w, i32_w]
        rfl
      refine pure_ (i := 2) (N := some 20) (v := ?_) (a' := ?_) #[Yy,Nn,Yy,Nn,Nn,Nn,Nn,Nn,Nn,Nn,Nn,Nn,Nn] rfl rfl (by kernel_rfl) (fun _ _ _ h => h) (Or.inl ⟨by rfl, ?_⟩) ?_ ?_
      rotate_left
      · intro w'
        go_simp
        with_reducible rfl
      rotate_left
      · simp only [Act.put, List.setIfInBounds_toArray, List.set_cons_zero, List.set_cons_succ, i64_w, i32_w]
        rfl
      refine pure_ (i := 4) (N := some 22) (v := ?_) (a' := ?_) #[Yy,Nn,Yy,Nn,Yy,Nn,Nn,Nn,Nn,Nn,Nn,Nn,Nn] rfl rfl (by kernel_rfl) (fun _ _ _ h => h) (Or.inl ⟨by rfl, ?_⟩) ?_ ?_
      rotate_left
      · intro w'
        go_simp
        with_reducible rfl
      rotate_left
      · simp only [Act.put, List.setIfInBounds_toArray, List.set_cons_zero, List.set_cons_succ, i64_w, i32_w]
        rfl
      refine pure_ (i := 6) (N := some 24) (v := ?_) (a' := ?_) #[Yy,Nn,Yy,Nn,Yy,Nn,Yy,Nn,Nn,Nn,Nn,Nn,Nn] rfl rfl (by kernel_rfl) (fun _ _ _ h => h) (Or.inl ⟨by rfl, ?_⟩) ?_ ?_
      rotate_left
      · intro w'
        go_simp
        with_reducible rfl
      rotate_left
      · simp only [Act.put, List.setIfInBounds_toArray, List.set_cons_zero, List.set_cons_succ, i64_w, i32_w]
        rfl
      refine pure_ (i := 9) (N := some 27) (v := ?_) (a' := ?_) #[Yy,Nn,Yy,Nn,Yy,Nn,Yy,Nn,Nn,Yy,Nn,Nn,Nn] rfl rfl (by kernel_rfl) (fun _ _ _ h => h) (Or.inl ⟨by rfl, ?_⟩) ?_ ?_
      rotate_left
      · intro w'
        go_simp
        with_reducible rfl
      rotate_left
      · simp only [Act.put, List.setIfInBounds_toArray, List.set_cons_zero, List.set_cons_succ, i64_w, i32_w]
        rfl
      refine take_ (i := 1) (N := some 19) (v := ?_) (a' := ?_) #[Yy,Yy,Yy,Nn,Yy,Nn,Yy,Nn,Nn,Yy,Nn,Nn,Nn] rfl rfl (by kernel_rfl) (fun _ _ _ h => h) (Or.inl ⟨by rfl, ?_⟩) hHeld ?_ ?_
      rotate_left
      · rintro w' ⟨s0, s1, s2, s3⟩
        go_simp
        with_reducible rfl
      rotate_left
      · simp only [Act.put, List.setIfInBounds_toArray, List.set_cons_zero, List.set_cons_succ, i64_w, i32_w]
        rfl
      refine take_ (i := 3) (N := some 21) (v := ?_) (a' := ?_) #[Yy,Yy,Yy,Yy,Yy,Nn,Yy,Nn,Nn,Yy,Nn,Nn,Nn] rfl rfl (by kernel_rfl) (fun _ _ _ h => h) (Or.inl ⟨by rfl, ?_⟩) hHeld ?_ ?_
      rotate_left
      · rintro w' ⟨s0, s1, s2, s3⟩
        go_simp
        with_reducible rfl
      rotate_left
      · simp only [Act.put, List.setIfInBounds_toArray, List.set_cons_zero, List.set_cons_succ, i64_w, i32_w]
        rfl
      refine take_ (i := 5) (N := some 23) (v := ?_) (a' := ?_) #[Yy,Yy,Yy,Yy,Yy,Yy,Yy,Nn,Nn,Yy,Nn,Nn,Nn] rfl rfl (by kernel_rfl) (fun _ _ _ h => h) (Or.inl ⟨by rfl, ?_⟩) hHeld ?_ ?_
      rotate_left
      · rintro w' ⟨s0, s1, s2, s3⟩
        go_simp
        with_reducible rfl
      rotate_left
      · simp only [Act.put, List.setIfInBounds_toArray, List.set_cons_zero, List.set_cons_succ, i64_w, i32_w]
        rfl
      refine pure_ (i := 7) (N := some 25) (v := ?_) (a' := ?_) #[Yy,Yy,Yy,Yy,Yy,Yy,Yy,Yy,Nn,Yy,Nn,Nn,Nn] rfl rfl (by kernel_rfl) (fun _ _ _ h => h) (Or.inl ⟨by rfl, ?_⟩) ?_ ?_
      rotate_left
      · intro w'
        go_simp
        with_reducible rfl
      rotate_left
      · simp only [Act.put, List.setIfInBounds_toArray, List.set_cons_zero, List.set_cons_succ, i64_w, i32_w]
        rfl
      refine take_ (i := 8) (N := some 26) (v := ?_) (a' := ?_) #[Yy,Yy,Yy,Yy,Yy,Yy,Yy,Yy,Yy,Yy,Nn,Nn,Nn] rfl rfl (by kernel_rfl) (fun _ _ _ h => h) (Or.inl ⟨by rfl, ?_⟩) hHeld ?_ ?_
      rotate_left
      · rintro w' ⟨s0, s1, s2, s3⟩
        refine Eq.trans (run_op_load' s3 (by rfl) (by rfl) Tryz.underlying138 rfl (sizeM_of hm9)) ?_
        with_reducible rfl
      rotate_left
      · simp only [Act.put, List.setIfInBounds_toArray, List.set_cons_zero, List.set_cons_succ, i64_w, i32_w]
        rfl
      refine one_ (i := 10) (N := some 28) #[Yy,Yy,Yy,Yy,Yy,Yy,Yy,Yy,Yy,Yy,Yy,Nn,Nn] rfl rfl (by kernel_rfl) (by decide) (fun K hK => ?_)
      refine goes_ Tryz.func225 (by kernel_rfl) rfl #[.int .i64 p, .int .i64 n, .agg (mcells m), .slice A' x.length c'] (by rfl) rfl rfl (by simp only [List.map_toArray, List.map_cons, List.map_nil]; rfl) ?_
      with_reducible refine (l02Lead_calls p n m A' x.length c' x _ (Kd.C_drew HX'.out) hp hp2 hn HM.out HX.out.1 HX.out.2).mono ?_
      rintro e w2 ⟨v7, rfl, ho, hb⟩
      refine ⟨_, rfl, ?_⟩
      obtain ⟨A7, c7, rfl⟩ := Kd.R_slice ho
      have HS0 := Aside0.mk ho
      have HB2 := Aside0.mk hb
      clear ho hb
      replace H1 := H1.drew.keep HB2.out
      refine hK.out _ _ ⟨H1.cell 0 rfl, H1.cell 1 rfl, H1.cell 2 rfl, HC.out.drew.below HB2.out⟩ (fun hHeld => ?_)
      clear hK K
      refine norm_ (a' := ?_) ?_ ?_
      rotate_left
      · show Act.put _ (some 28) _ = _
        simp only [Act.put, List.setIfInBounds_toArray, List.set_cons_zero, List.set_cons_succ, i64_w, i32_w]
        rfl
      refine pure_ (i := 11) (N := some 7) (v := ?_) (a' := ?_) #[Yy,Yy,Yy,Yy,Yy,Yy,Yy,Yy,Yy,Yy,Yy,Yy,Nn] rfl rfl (by kernel_rfl) (fun _ _ _ h => h) (Or.inl ⟨by rfl, ?_⟩) ?_ ?_
      rotate_left
      · intro w'
        go_simp
        with_reducible rfl
      rotate_left
      · simp only [Act.put, List.setIfInBounds_toArray, List.set_cons_zero, List.set_cons_succ, i64_w, i32_w]
        rfl
      refine pure_ (i := 12) (N := some 8) (v := ?_) (a' := ?_) #[Yy,Yy,Yy,Yy,Yy,Yy,Yy,Yy,Yy,Yy,Yy,Yy,Yy] rfl rfl (by kernel_rfl) (fun _ _ _ h => h) (Or.inl ⟨by rfl, ?_⟩) ?_ ?_
      rotate_left
      · intro w'
        go_simp
        with_reducible rfl
      rotate_left
      · simp only [Act.put, List.setIfInBounds_toArray, List.set_cons_zero, List.set_cons_succ, i64_w, i32_w]
        rfl
      refine done_ (by kernel_rfl) ?_
      obtain ⟨own, hown⟩ : ∃ own, own = leadV p n x m := ⟨_, rfl⟩
      have hownl := leadV_len p n x m
      rw [← hown] at HS0 HNX hownl ⊢
      have HOL := Aside0.mk hownl
      have HS := Aside0.mk (Kd.R_lower HS0.out (below_drew1 HB.out).size)
      replace HO := Aside0.mk (Kd.R_below (Kd.R_drew HO.out) HB2.out)
      replace HB := Aside0.mk (below_step (below_drew1 HB.out) HB2.out)
      clear HS0 hownl hown HB2 HC HX' k0 k1 k2
      have hi0 := info_parts infoR
      obtain ⟨iR, hiR, _, hszR, _⟩ := hi0
      go_wp2
      go_loopw [8] (fun v8 wr => ∃ k : Nat, v8 = .int .i64 k ∧ k ≤ out.length ∧ Aside0 (∀ j < k, cmpL (ntR out j) own < 0) ∧ Aside0 (kR.R 84 wr wb.heap.size (fun _ => True) (.slice A5 out.length c5) out) ∧ Aside0 (kI.R 2 wr wb.heap.size (fun _ => True) (.slice A7 own.length c7) own) ∧ Aside0 (Below wb.heap.size wb wr)) (fun v8 _ => out.length - (intOf v8).toNat)
      case atStart => exact ⟨0, rfl, by omega, ⟨fun j hj => by omega⟩, HO, HS, HB⟩
      case round =>
        clear HO HS HB H1
        obtain ⟨k, rfl, hk, HK, HO, HS, HB⟩ := hrel
        have hcut1 := cut_from (P := Tryz.prog) 41 84 .i64 Tryz.underlying41 hiR 1 hszR A5 out.length c5 k (by omega) (by omega)
        have hcut2 := cut_to (P := Tryz.prog) 41 84 .i64 Tryz.underlying41 hiR A5 out.length c5 k (by omega) (by omega) hc5
        rw [Int.toNat_natCast] at hcut1 hcut2
        obtain ⟨AD, hAD⟩ : ∃ AD, AD = (if c5 = k then A5 else A5.map (·.add (k * 1))) := ⟨_, rfl⟩
        obtain ⟨cd, hcd⟩ : ∃ cd, cd = c5 - k := ⟨_, rfl⟩
        rw [← hAD, ← hcd] at hcut1
        replace hAD := Aside0.mk hAD.symm
        clear hcd
        by_cases hkl : k < out.length
        · obtain ⟨ad5, A6, c6, r, hrk, rfl, hc5k, hc6, hC6⟩ := at_row (Kd.R_reads' HO.out).2.2 k hkl
          have HC6 := Aside0.mk hC6
          have HCO := Aside0.mk (Kd.R_reads' HS.out).2.2
          have HRL : Aside0 (r.length = own.length) := ⟨by rw [HOL.out, hrk]; exact HROW.out _ (ntR_mem out k hkl)⟩
          have HRK := Aside0.mk hrk
          clear hC6 hrk
          have hkd : decide ((k : Int) < out.length) = true := decide_eq_true (by omega)
          rcases Int.lt_trichotomy (cmpL r own) 0 with h | h | h
          · have hb1 : decide (cmpL r own < 0) = true := decide_eq_true h
            have HK2 : Aside0 (∀ j < k + 1, cmpL (ntR out j) own < 0) := ⟨fun j hj => by
              rcases Nat.lt_succ_iff_lt_or_eq.1 hj with h' | h'
              · exact HK.out j h'
              · subst h'; rw [← HRK.out]; exact h⟩
            clear h
            go_wp2_with (first
              | (go_at_call 216; refine (l02Compare_calls A6 r.length c6 r A7 own.length c7 own _ HC6.out HCO.out HRL.out).mono ?_; rintro e wN ⟨rfl, hdr⟩; have hb := hdr.below; clear hdr; replace HO := Aside0.mk (Kd.R_below HO.out hb); replace HS := Aside0.mk (Kd.R_below HS.out hb); replace HB := Aside0.mk (below_step HB.out hb); replace HC6 := Aside0.mk (Kd.C_below HC6.out hb); replace HCO := Aside0.mk (Kd.C_below HCO.out hb); replace hc5k := (hb.cell (World.block_lt_of_cell? _ _ hc5k)).trans hc5k; clear hb))
            go_roundw
            case rel => exact ⟨k + 1, by go_num, by omega, HK2, HO, HS, HB⟩
            case measure => simp [intOf]; omega
          · have hb1 : decide (cmpL r own < 0) = false := decide_eq_false (by omega)
            have hb2 : (cmpL r own == 0) = true := by simpa using h
            have HIN : Aside0 (orbIns own out = out) := ⟨by rw [orbIns_at own out k hk HK.out (fun _ => by have := HRK.out; unfold ntR at this; rw [← this, h]; omega), if_pos ⟨hkl, by have := HRK.out; unfold ntR at this; rw [← this]; exact h⟩]⟩
            clear h
            go_wp2_with (first
              | (go_at_call 216; refine (l02Compare_calls A6 r.length c6 r A7 own.length c7 own _ HC6.out HCO.out HRL.out).mono ?_; rintro e wN ⟨rfl, hdr⟩; have hb := hdr.below; clear hdr; replace HO := Aside0.mk (Kd.R_below HO.out hb); replace HS := Aside0.mk (Kd.R_below HS.out hb); replace HB := Aside0.mk (below_step HB.out hb); replace HC6 := Aside0.mk (Kd.C_below HC6.out hb); replace HCO := Aside0.mk (Kd.C_below HCO.out hb); replace hc5k := (hb.cell (World.block_lt_of_cell? _ _ hc5k)).trans hc5k; clear hb))
            go_roundw
            case rel => exact ⟨i + 1, by go_num, by omega, ⟨by rw [HNX.out, HIN.out]; exact HO.out⟩, HB⟩
            case measure => simp [intOf]; omega
          · have hb1 : decide (cmpL r own < 0) = false := decide_eq_false (by omega)
            have hb2 : (cmpL r own == 0) = false := by rw [beq_eq_false_iff_ne]; omega
            have HIN : Aside0 (orbIns own out = out.take k ++ ([own] ++ out.drop k)) := ⟨by rw [orbIns_at own out k hk HK.out (fun _ => by have := HRK.out; unfold ntR at this; rw [← this]; omega), if_neg (fun h' => by have := HRK.out; unfold ntR at this; rw [← this] at h'; omega)]⟩
            clear h
            go_wp2_with (first
              | (go_at_call 216; refine (l02Compare_calls A6 r.length c6 r A7 own.length c7 own _ HC6.out HCO.out HRL.out).mono ?_; rintro e wN ⟨rfl, hdr⟩; have hb := hdr.below; clear hdr; replace HO := Aside0.mk (Kd.R_below HO.out hb); replace HS := Aside0.mk (Kd.R_below HS.out hb); replace HB := Aside0.mk (below_step HB.out hb); replace HC6 := Aside0.mk (Kd.C_below HC6.out hb); replace HCO := Aside0.mk (Kd.C_below HCO.out hb); replace hc5k := (hb.cell (World.block_lt_of_cell? _ _ hc5k)).trans hc5k; clear hb)
              | (at_builtin; refine app_rows (w0 := wb) rfl (.tmp 58) (.tmp 61) _ rfl Tryz.underlying41 infoR _ [own] (out.drop k) AD (out.length - k) cd _ rfl rfl (R_lit1 kR _ _ _ (Kd.M_row HS.out) HB.out.size) (hAD.out ▸ rows_drop (R_rows' (R_fresh HO.out _ 1 1)).2.2 hk hc5) (fun _ h => h.1) (below_alloc HB.out _) (by simp; omega) ?_; intro v62 w62 ho hb hg hat; replace HO := Aside0.mk (R_next (R_fresh HO.out _ 1 1) hg hat); obtain ⟨L2, hL2⟩ : ∃ L2, L2 = [own] ++ out.drop k := ⟨_, rfl⟩; have hLL : L2.length ≤ 50 := (by rw [hL2]; simp; omega); rw [← hL2] at ho; have HL2 := Aside0.mk hL2; clear hL2; obtain ⟨A62, c62, hv62, hle62, _⟩ := R_rows ho; subst hv62; have H62 := Aside0.mk ho; replace HB := Aside0.mk hb; clear ho hb hg hat hle62)
              | (at_builtin; refine app_rows (w0 := wb) rfl (.tmp 63) (.tmp 66) _ rfl Tryz.underlying41 infoR _ [] (out.take k) _ k c5 _ rfl rfl (R_lit0 kR _ _ _ HB.out.size) (rows_take (R_rows' (R_fresh (R_any HO.out) _ 0 0)).2.2 hk) (fun _ h => h.1) (below_alloc HB.out _) (by simp; omega) ?_; intro v67 w67 ho hb hg hat; replace H62 := Aside0.mk (R_next (R_fresh H62.out _ 0 0) hg hat); have H67 := Aside0.mk ho; replace HB := Aside0.mk hb; clear ho hb hg hat)
              | (at_builtin; refine app_rows (w0 := wb) rfl (.tmp 67) (.tmp 68) _ rfl Tryz.underlying41 infoR v67 ([] ++ out.take k) L2 A62 L2.length c62 _ rfl rfl H67.out (R_rows' H62.out).2.2 (fun _ h => h.1) HB.out (by simp; omega) ?_; intro v69 w69 ho hb hg hat; have H69 := Aside0.mk ho; replace HB := Aside0.mk hb; clear ho hb hg hat))
            go_roundw
            case rel => exact ⟨i + 1, by go_num, by omega, ⟨by rw [HNX.out, HIN.out, ← HL2.out]; exact H69.out⟩, HB⟩
            case measure => simp [intOf]; omega
        · have hkd : decide ((k : Int) < out.length) = false := decide_eq_false (by omega)
          have HIN : Aside0 (orbIns own out = out.take k ++ ([own] ++ out.drop k)) := ⟨by rw [orbIns_at own out k hk HK.out (fun h => absurd h hkl), if_neg (fun h => hkl h.1)]⟩
          go_wp2_with (first
            | (at_builtin; refine app_rows (w0 := wb) rfl (.tmp 58) (.tmp 61) _ rfl Tryz.underlying41 infoR _ [own] (out.drop k) AD (out.length - k) cd _ rfl rfl (R_lit1 kR _ _ _ (Kd.M_row HS.out) HB.out.size) (hAD.out ▸ rows_drop (R_rows' (R_fresh HO.out _ 1 1)).2.2 hk hc5) (fun _ h => h.1) (below_alloc HB.out _) (by simp; omega) ?_; intro v62 w62 ho hb hg hat; replace HO := Aside0.mk (R_next (R_fresh HO.out _ 1 1) hg hat); obtain ⟨L2, hL2⟩ : ∃ L2, L2 = [own] ++ out.drop k := ⟨_, rfl⟩; have hLL : L2.length ≤ 50 := (by rw [hL2]; simp; omega); rw [← hL2] at ho; have HL2 := Aside0.mk hL2; clear hL2; obtain ⟨A62, c62, hv62, hle62, _⟩ := R_rows ho; subst hv62; have H62 := Aside0.mk ho; replace HB := Aside0.mk hb; clear ho hb hg hat hle62)
            | (at_builtin; refine app_rows (w0 := wb) rfl (.tmp 63) (.tmp 66) _ rfl Tryz.underlying41 infoR _ [] (out.take k) _ k c5 _ rfl rfl (R_lit0 kR _ _ _ HB.out.size) (rows_take (R_rows' (R_fresh (R_any HO.out) _ 0 0)).2.2 hk) (fun _ h => h.1) (below_alloc HB.out _) (by simp; omega) ?_; intro v67 w67 ho hb hg hat; replace H62 := Aside0.mk (R_next (R_fresh H62.out _ 0 0) hg hat); have H67 := Aside0.mk ho; replace HB := Aside0.mk hb; clear ho hb hg hat)
            | (at_builtin; refine app_rows (w0 := wb) rfl (.tmp 67) (.tmp 68) _ rfl Tryz.underlying41 infoR v67 ([] ++ out.take k) L2 A62 L2.length c62 _ rfl rfl H67.out (R_rows' H62.out).2.2 (fun _ h => h.1) HB.out (by simp; omega) ?_; intro v69 w69 ho hb hg hat; have H69 := Aside0.mk ho; replace HB := Aside0.mk hb; clear ho hb hg hat))
          go_roundw
          case rel => exact ⟨i + 1, by go_num, by omega, ⟨by rw [HNX.out, HIN.out, ← HL2.out]; exact H69.out⟩, HB⟩
          case measure => simp [intOf]; omega
    · have HN : Aside0 (orbitS p n l x = out) := ⟨by rw [HE.out, List.take_of_length_le (by omega)]⟩
      go_wp2
      go_ret
      exact ⟨_, rfl, by rw [HN.out]; exact Kd.R_lower HO.out (by omega), below_step HWB.out HB.out⟩
end Go.Proofs.YtbenhcognapdpaaGreat
/- Walk: the program's orbit of a point. -/
set_option linter.unusedVariables false
set_option linter.unusedSimpArgs false
namespace Go.Proofs.YtbenhcognapdpaaGreat
open Go.RowKit Go.Proofs.YtbenhcognapdpaaGreatW.PrintWords Go.Proofs.YtbenhcognapdpaaGreatW.PrintLast Lin

/-- What sorting and compacting the led points leaves is the orbit. -/
theorem orbit_eq {p : Int} {n : Nat} {l : List (List Int)} {x : List Int} {ys zs : List (List Int)} (h1 : ys.Perm (l.map (leadV p n x))) (h2 : Sorted zs) (h3 : ∀ r, r ∈ zs ↔ r ∈ ys) : zs = orbitS p n l x := by
  refine sorted_ext h2 (orbitS_sorted ..) fun r => ?_
  rw [h3, h1.mem_iff, orbitS_mem, List.mem_map]
  simp [eq_comm]

set_option maxRecDepth 100000 in
set_option maxHeartbeats 4000000 in
theorem orbitOfPoint_calls (p : Int) (n : Nat) (A : Option Addr) (q c : Nat) (l : List (List Int)) (A' : Option Addr) (q' c' : Nat) (x : List Int) (w : World) (hr : kM.C w A q l) (hl : ∀ m ∈ l, IsM m) (hr' : kI.C w A' q' x)
    (hp : 0 < p) (hp2 : p ≤ 1000) (hn1 : 1 ≤ n) (hn : n ≤ 3) (hx : Pt p n x) (hl48 : l.length ≤ 48) (hl1 : 1 ≤ l.length) :
    Calls Tryz.prog 93 #[.agg #[.int .i64 p, .int .i64 n, .slice A q c], .slice A' q' c'] w fun e w' => ∃ A2 c2, e = .returned (.slice A2 (orbitS p n l x).length c2) ∧ kR.C w' A2 (orbitS p n l x).length (orbitS p n l x) ∧ Below w.heap.size w w' := by
  obtain rfl := Kd.C_len hr
  obtain rfl := Kd.C_len hr'
  have HR := Aside0.mk hr
  have HL := Aside0.mk hl
  have HR' := Aside0.mk hr'
  have HX := Aside0.mk (show x.length = n ∧ InR p x from hx)
  clear hr hl hr' hx
  obtain ⟨wb, hwb⟩ : ∃ wb, wb = w.alloc (.cells #[.int .i64 p, .int .i64 n, .slice A l.length c] 37) := ⟨_, rfl⟩
  have H1b : Blk wb w.heap.size 37 #[.int .i64 p, .int .i64 n, .slice A l.length c] := hwb ▸ Blk.new w _ _
  have hwbs : wb.heap.size = w.heap.size + 1 := by rw [hwb, size_alloc]
  have HWB := Aside0.mk (show Below w.heap.size w wb from hwb ▸ below_alloc (Below.refl _ _) _)
  have H00 := Blk.new w #[.int .i64 p, .int .i64 n, .slice A l.length c] 37
  go_enter Tryz.func93, Tryz.ntmps93
  go_wp2
  clear H00
  go_loopw [5, 12] (fun v5 v12 wr => ∃ i : Nat, v12 = .int .i64 i ∧ i ≤ l.length ∧ Aside0 (kR.R 84 wr wb.heap.size (fun _ => True) v5 ((l.take i).map (leadV p n x))) ∧ Aside0 (Below wb.heap.size wb wr)) (fun _ v12 _ => l.length - (intOf v12).toNat)
  case atStart => exact ⟨0, rfl, by omega, ⟨by rw [hwbs]; exact R_litAt kR _ _ _ (by rw [size_alloc]) (by rw [size_alloc]; exact Nat.le_refl _)⟩, ⟨by rw [hwb]; exact below_alloc (Below.refl _ _) _⟩⟩
  case round =>
    obtain ⟨i, rfl, hi, HO, HB⟩ := hrel
    have H1 := H1b.keep HB.out
    by_cases hlt : i < l.length
    · obtain ⟨ad, m, hmm, rfl, hm9, hc⟩ := mat_at HR.out i hlt
      have HM : Aside0 (IsM m) := ⟨HL.out m (hmm ▸ ntR_mem l i hlt)⟩
      have HC := Aside0.mk (hc.below (below_step HWB.out HB.out))
      have HNX : Aside0 ((l.take (i + 1)).map (leadV p n x) = (l.take i).map (leadV p n x) ++ [leadV p n x m]) := ⟨by rw [take_succ_ntR l i hlt, List.map_append, ← hmm]; rfl⟩
      clear hmm hc
      obtain ⟨out, hout⟩ : ∃ out, out = (l.take i).map (leadV p n x) := ⟨_, rfl⟩
      have hol : out.length ≤ 48 := by rw [hout, List.length_map, List.length_take]; omega
      rw [← hout] at HO HNX
      clear hout
      obtain ⟨A5, c5, rfl, hc5, hC5⟩ := Kd.R_reads HO.out
      clear hC5
      have hd3 : decide ((i : Int) < l.length) = true := decide_eq_true (by omega)
      have Hz := Blk.new wr (mcells [0, 0, 0, 0, 0, 0, 0, 0, 0]) 138
      have H7 := Hz.setRow (mcells m)
      have hb4 := below_setRow (below_alloc (Below.refl wr.heap.size wr) (.cells (mcells [0, 0, 0, 0, 0, 0, 0, 0, 0]) 138)) (Nat.le_refl _) (mcells m)
      have HO4 := Aside0.mk (Kd.R_below HO.out hb4)
      replace H1 := H1.keep hb4
      replace HB := Aside0.mk (below_step HB.out hb4)
      have k0 : ((wr.alloc (.cells #[.int .u8 0, .int .u8 0, .int .u8 0, .int .u8 0, .int .u8 0, .int .u8 0, .int .u8 0, .int .u8 0, .int .u8 0] 138)).setRow wr.heap.size (mcells m)).cell? ⟨w.heap.size, 0, none⟩ = some (.int .i64 p) := H1.cell 0 rfl
      have k1 : ((wr.alloc (.cells #[.int .u8 0, .int .u8 0, .int .u8 0, .int .u8 0, .int .u8 0, .int .u8 0, .int .u8 0, .int .u8 0, .int .u8 0] 138)).setRow wr.heap.size (mcells m)).cell? ⟨w.heap.size, 1, none⟩ = some (.int .i64 n) := H1.cell 1 rfl
      have HX' := Aside0.mk (Kd.C_below HR'.out (below_step HWB.out HB.out))
      clear hb4 HO
      go_wp2_with (first
        | (refine store_blk rfl _ 7 _ rfl Hz rfl rfl (sizeM_of hm9) (by rw [mcells_size, mcells_size, hm9]; rfl) (mcells_one _) ?_)
        | (refine load_agg rfl _ 14 rfl (ad.add (i * 9)) HC.out rfl _ Tryz.underlying138 rfl (sizeM_of hm9) ?_)
        | (refine load_blk rfl _ 7 rfl H7 rfl _ Tryz.underlying138 rfl (sizeM_of hm9) ?_)
        | (go_at_call 174; refine (led_calls p n A' x.length c' x m _ HX'.out hp hp2 hn1 hn HM.out HX.out.1 HX.out.2).mono ?_; rintro e w5 ⟨v23, rfl, ho, hb⟩; obtain ⟨A23, c23, rfl⟩ := Kd.R_slice ho; have HP := Aside0.mk (Kd.R_lower (Kd.R_mono (Kd.R_newR ho HO4.out) (fun _ h => h.2)) HB.out.size); replace HO4 := Aside0.mk (Kd.R_below HO4.out hb); replace HB := Aside0.mk (below_step HB.out hb); clear ho hb)
        | (at_builtin; go_must (refine app_row (w0 := wb) rfl (.tmp 16) (.tmp 24) _ rfl Tryz.underlying41 infoR (.slice A5 out.length c5) out (.slice A23 (leadV p n x m).length c23) (leadV p n x m) rfl rfl HP.out HO4.out HB.out (by omega) ?_); intro v9 w9 ho hb _ _; have H9 := Aside0.mk ho; replace HB := Aside0.mk hb; clear ho hb))
      go_roundw
      case rel => exact ⟨i + 1, by go_num, by omega, ⟨by rw [HNX.out]; exact H9.out⟩, HB⟩
      case measure => simp [intOf]; omega
    · obtain rfl : i = l.length := by omega
      rw [List.take_length] at HO
      have HE := Aside0.mk (rfl : l.map (leadV p n x) = l.map (leadV p n x))
      obtain ⟨out, hout⟩ : ∃ out, out = l.map (leadV p n x) := ⟨_, rfl⟩
      have hol : 1 ≤ out.length ∧ out.length ≤ 48 := by rw [hout, List.length_map]; omega
      rw [← hout] at HO
      have HOUT := Aside0.mk hout
      clear hout HE
      obtain ⟨g, cap, rfl, hg1, hg2, cells, hcell⟩ := Kd.R_form HO.out (by omega)
      clear hcell hg2
      have HBS := Aside0.mk HB.out.size
      go_wp2_with (first
        | (go_at_call 132; refine (sortRows_calls HO.out (by omega) HBS.out).mono ?_; rintro e w5 ⟨rfl, ys, hperm, hpw, hR, hb⟩; have HY := Aside0.mk hR; have HPW := Aside0.mk hpw; have HPM := Aside0.mk hperm; replace HB := Aside0.mk (HB.out.trans hb); clear hR hpw hperm hb)
        | (go_at_call 171; refine (compactFunc_calls HY.out HPW.out (by omega)).mono ?_; rintro e w6 ⟨zs, rfl, hs, hmem, hC, hb⟩; have HZ := Aside0.mk (And.intro hs (And.intro hmem hC)); replace HB := Aside0.mk (HB.out.trans hb); clear hs hmem hC hb))
      go_ret
      obtain ⟨hs, hmem, hC⟩ := HZ.out
      obtain rfl := orbit_eq (by rw [← HOUT.out]; exact HPM.out) hs hmem
      exact ⟨_, _, rfl, hC, below_step HWB.out HB.out⟩
end Go.Proofs.YtbenhcognapdpaaGreat
