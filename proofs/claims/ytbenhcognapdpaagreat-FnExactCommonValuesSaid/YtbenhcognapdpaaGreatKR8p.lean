/- Own texts of this claim, in one file: Law9, F8, Open, OpenG, OpenP. -/
import Derived.Test.YtbenhcognapdpaaGreatKR8o
import Derived.Test.YtbenhcognapdpaaGreatKR8j
import Derived.WalkKit
import Derived.ProofKit
import Derived.OpenShut
import Derived.Deep.Slices
import Derived.Deep.Strs
import Derived.Test.YtbenhcognapdpaaGreatKR8c
/- Walks: the laws' measures and comparisons of lists of polynomials. -/
set_option linter.unusedVariables false
set_option linter.unusedSimpArgs false
namespace Go.Proofs.YtbenhcognapdpaaGreat
open Go.RowKit Go.Proofs.YtbenhcognapdpaaGreatW.PrintWords Go.Proofs.YtbenhcognapdpaaGreatW.PrintLast Lin

theorem szTermS_calls (A : Option Addr) (n c : Nat) (left : Int) (w : World) (hl : 0 ≤ left ∧ left ≤ 1048576) (hn : n ≤ 9223372036854775807) :
    Calls Tryz.prog 105 #[.slice A n c, .int .i64 left] w fun e w' => e = .returned (.int .i64 (szL n left)) ∧ w = w' := by
  by_cases h : left < n
  · have HN : Aside0 (szL n left = -1) := ⟨by unfold szL; rw [if_pos h]⟩
    have hb : decide (left - (n : Int) < 0) = true := decide_eq_true (by omega)
    go_enter Tryz.func105, Tryz.ntmps105
    go_wp2
    go_ret
    exact ⟨ret_i HN.out.symm, rfl⟩
  · have HN : Aside0 (szL n left = left - n) := ⟨by unfold szL; rw [if_neg h]⟩
    have hb : decide (left - (n : Int) < 0) = false := decide_eq_false (by omega)
    go_enter Tryz.func105, Tryz.ntmps105
    go_wp2
    go_ret
    exact ⟨ret_i HN.out.symm, rfl⟩
theorem szPoly_calls (p m : Int) (A : Option Addr) (n c : Nat) (left : Int) (w : World) (hl : 0 ≤ left ∧ left ≤ 1048576) (hn : n ≤ 9223372036854775807) :
    Calls Tryz.prog 42 #[.agg #[.int .i64 p, .int .i64 m, .slice A n c], .int .i64 left] w fun e w' => e = .returned (.int .i64 (szL n left)) ∧ Below w.heap.size w w' := by
  by_cases h : left < n
  · have HN : Aside0 (szL n left = -1) := ⟨by unfold szL; rw [if_pos h]⟩
    go_enter Tryz.func42, Tryz.ntmps42
    go_wp2_with ((go_at_call 105; refine (szTermS_calls A n c left _ hl hn).mono ?_; rw [HN.out]; rintro e w' ⟨rfl, rfl⟩))
    go_ret
    exact ⟨ret_i HN.out.symm, below_alloc (Below.refl _ _) _⟩
  · have HN : Aside0 (szL n left = left - n) := ⟨by unfold szL; rw [if_neg h]⟩
    have hb : decide (left - (n : Int) < 0) = false := decide_eq_false (by omega)
    go_enter Tryz.func42, Tryz.ntmps42
    go_wp2_with ((go_at_call 105; refine (szTermS_calls A n c left _ hl hn).mono ?_; rw [HN.out]; rintro e w' ⟨rfl, rfl⟩))
    go_ret
    exact ⟨ret_i HN.out.symm, below_alloc (Below.refl _ _) _⟩
/-- What szPolyS answers: -1, or what is left, and then all the lists are short. -/
def SzOut (l : List Pv) (left r : Int) : Prop := r = -1 ∨ (0 ≤ r ∧ r ≤ left ∧ l.length ≤ left ∧ ∀ P ∈ l, P.2.2.length ≤ left)
set_option maxRecDepth 100000 in
set_option maxHeartbeats 1000000 in
theorem szPolyS_calls (A : Option Addr) (n c : Nat) (l : List Pv) (left : Int) (w : World) (hr : kP.C w A n l) (hl : 0 ≤ left ∧ left ≤ 1048576) :
    Calls Tryz.prog 11 #[.slice A n c, .int .i64 left] w fun e w' => ∃ r, e = .returned (.int .i64 r) ∧ SzOut l left r ∧ Below w.heap.size w w' := by
  obtain rfl := Kd.C_len hr
  have hmx := Kd.C_max hr
  have HR := Aside0.mk hr
  clear hr
  by_cases h : left < l.length
  · have hb : decide (left - (l.length : Int) < 0) = true := decide_eq_true (by omega)
    go_enter Tryz.func11, Tryz.ntmps11
    go_wp2
    go_ret
    exact ⟨_, rfl, .inl rfl, Below.refl _ _⟩
  · have hb : decide (left - (l.length : Int) < 0) = false := decide_eq_false (by omega)
    go_enter Tryz.func11, Tryz.ntmps11
    go_wp2
    go_loopw [1, 5] (fun v1 v5 wr => ∃ (r : Int) (k : Nat), v1 = .int .i64 r ∧ v5 = .int .i64 k ∧ k ≤ l.length ∧ 0 ≤ r ∧ r ≤ left ∧ Aside0 (∀ j < k, (pvR l j).2.2.length ≤ left) ∧ Aside0 (Below w.heap.size w wr)) (fun _ v5 _ => l.length - (intOf v5).toNat)
    case atStart => exact ⟨left - l.length, 0, rfl, rfl, by omega, by omega, by omega, ⟨fun j hj => by omega⟩, ⟨Below.refl _ _⟩⟩
    case round =>
      obtain ⟨r, k, rfl, rfl, hk, hr0, hr1, HZ, HB⟩ := hrel
      by_cases hlt : k < l.length
      · obtain ⟨ad, m, A', c', hmm, rfl, hc', hC', hc⟩ := poly_at (Kd.C_below HR.out HB.out) k hlt
        have hmax := Kd.C_max hC'
        have HC := Aside0.mk hc
        have HPP := Aside0.mk hmm
        clear hmm hc hC'
        by_cases hle : r < m.2.2.length
        · have HN : Aside0 (szL m.2.2.length r = -1) := ⟨by unfold szL; rw [if_pos hle]⟩
          have HK := Aside0.mk (szPoly_calls m.1 m.2.1 A' m.2.2.length c' r wr ⟨hr0, by omega⟩ hmax)
          rw [HN.out] at HK
          go_wp2_with (first
            | (refine load_agg rfl _ 20 rfl (ad.add (k * 3)) HC.out rfl _ Tryz.underlying49 rfl sizePL ?_)
            | (go_at_call 42; refine HK.out.mono ?_; rintro e w2 ⟨rfl, hb⟩; replace HB := Aside0.mk (below_step HB.out hb); clear hb))
          go_ret
          exact ⟨_, rfl, .inl rfl, HB.out⟩
        · have HN : Aside0 (szL m.2.2.length r = r - m.2.2.length) := ⟨by unfold szL; rw [if_neg hle]⟩
          have HK := Aside0.mk (szPoly_calls m.1 m.2.1 A' m.2.2.length c' r wr ⟨hr0, by omega⟩ hmax)
          rw [HN.out] at HK
          obtain ⟨z, hz⟩ : ∃ z, z = r - (m.2.2.length : Int) := ⟨_, rfl⟩
          rw [← hz] at HK
          have hz0 : 0 ≤ z ∧ z ≤ r := by omega
          have HZ2 : Aside0 ((m.2.2.length : Int) ≤ left) := ⟨by omega⟩
          have hb2 : decide (z < 0) = false := decide_eq_false (by omega)
          clear hz hle
          go_wp2_with (first
            | (refine load_agg rfl _ 20 rfl (ad.add (k * 3)) HC.out rfl _ Tryz.underlying49 rfl sizePL ?_)
            | (go_at_call 42; refine HK.out.mono ?_; rintro e w2 ⟨rfl, hb⟩; replace HB := Aside0.mk (below_step HB.out hb); clear hb))
          go_roundw
          case rel => exact ⟨z, k + 1, rfl, by go_num, by omega, hz0.1, by omega, ⟨fun j hj => by rcases Nat.lt_succ_iff_lt_or_eq.1 hj with h | h; exact HZ.out j h; subst h; rw [← HPP.out]; exact HZ2.out⟩, HB⟩
          case measure => simp [intOf]; omega
      · have HE := Aside0.mk (show k = l.length by omega)
        go_wp2
        go_ret
        refine ⟨_, rfl, .inr ⟨hr0, hr1, by omega, fun P hP => ?_⟩, HB.out⟩
        obtain ⟨j, hj, rfl⟩ := List.mem_iff_getElem.1 hP
        have := HZ.out j (by rw [HE.out]; exact hj)
        simpa [pvR, List.getD_eq_getElem?_getD, List.getElem?_eq_getElem hj] using this

set_option maxRecDepth 100000 in
set_option maxHeartbeats 400000 in
theorem eqExps_same (a : List Int) (w : World) (ha : a.length = 3) :
    Calls Tryz.prog 239 #[.agg (mcells a), .agg (mcells a)] w fun e w' => e = .returned (.bool true) ∧ Below w.heap.size w w' := by
  go_enter Tryz.func239, Tryz.ntmps239
  go_wp2
  go_loopw [5] (fun v wr => ∃ k : Nat, v = .int .i64 k ∧ k ≤ 3 ∧ Blk wr w.heap.size 83 (mcells a) ∧ Blk wr (w.heap.size + 1) 83 (mcells a) ∧ Aside0 (Below w.heap.size w wr)) (fun v _ => 3 - (intOf v).toNat)
  case atStart => exact ⟨0, rfl, by omega, (Blk.new _ _ _).alloc _, Blk.new1 _ _ _ _, ⟨below_alloc (below_alloc (Below.refl _ _) _) _⟩⟩
  case round =>
    obtain ⟨k, rfl, hk, H1, H2, HB⟩ := hrel
    by_cases hlt : k < 3
    · have c1 := H1.cell k (mcells_get a k (by omega))
      have c2 := H2.cell k (mcells_get a k (by omega))
      have hb : (nt a k != nt a k) = false := by simp
      have hd3 : decide ((k : Int) < 3) = true := decide_eq_true (by omega)
      go_wp2
      go_quiet (fail)
      go_wp2
      go_roundw
      case rel => exact ⟨k + 1, by go_num, by omega, H1.drewN _, H2.drewN _, ⟨(by repeat (first | (with_reducible first | exact HB.out | apply below_alloc | apply pw_below_drewN | apply below_drew1) | exact HB.out | exact Below.refl _ _))⟩⟩
      case measure => simp [intOf]; omega
    · go_wp2
      go_ret
      exact ⟨rfl, HB.out⟩
set_option maxRecDepth 100000 in
set_option maxHeartbeats 1000000 in
theorem eqTerm_same (t : List Int × Int) (w : World) (h : t.1.length = 3) :
    Calls Tryz.prog 195 #[.agg (tcells t), .agg (tcells t)] w fun e w' => e = .returned (.bool true) ∧ Below w.heap.size w w' := by
  have H0 := (Blk.new w (tcells t) 151).alloc (.cells (tcells t) 151)
  have H1 := Blk.new1 w (.cells (tcells t) 151) (tcells t) 151
  have HB := Aside0.mk (below_alloc (below_alloc (Below.refl w.heap.size w) (.cells (tcells t) 151)) (.cells (tcells t) 151))
  have HA0 := Aside0.mk (H0.at.exps h)
  have HA1 := Aside0.mk (H1.at.exps h)
  have HK := Aside0.mk (fun W => eqExps_same t.1 W h)
  have hb : (t.2 != t.2) = false := by simp
  go_enter Tryz.func195, Tryz.ntmps195
  go_wp2_with (first
    | (refine load_agg rfl _ 5 rfl ⟨w.heap.size, 0, none⟩ HA0.out rfl _ Tryz.underlying83 rfl (sizeE_of h) ?_)
    | (refine load_agg rfl _ 7 rfl ⟨w.heap.size + 1, 0, none⟩ HA1.out rfl _ Tryz.underlying83 rfl (sizeE_of h) ?_)
    | (go_at_call 239; refine (HK.out _).mono ?_; rintro e w2 ⟨rfl, hb⟩; have c3 := (H0.keep hb).cell 3 (tcells_val h); have d3 := (H1.keep hb).cell 3 (tcells_val h); replace HB := Aside0.mk (below_step HB.out hb); clear hb))
  go_ret
  exact ⟨rfl, HB.out⟩
set_option maxRecDepth 100000 in
set_option maxHeartbeats 400000 in
theorem eqTermS_same (A : Option Addr) (n c : Nat) (A' : Option Addr) (n' c' : Nat) (l : List (List Int × Int)) (w : World) (hr : kT.C w A n l) (hr' : kT.C w A' n' l) :
    Calls Tryz.prog 115 #[.slice A n c, .slice A' n' c'] w fun e w' => e = .returned (.bool true) ∧ Below w.heap.size w w' := by
  obtain rfl := Kd.C_len hr
  obtain rfl := Kd.C_len hr'
  have hmx := Kd.C_max hr
  have HR := Aside0.mk hr
  have HR' := Aside0.mk hr'
  clear hr hr'
  go_enter Tryz.func115, Tryz.ntmps115
  go_wp2
  go_loopw [5] (fun v wr => ∃ k : Nat, v = .int .i64 k ∧ k ≤ l.length ∧ Aside0 (Below w.heap.size w wr)) (fun v _ => l.length - (intOf v).toNat)
  case atStart => exact ⟨0, rfl, by omega, ⟨Below.refl _ _⟩⟩
  case round =>
    obtain ⟨k, rfl, hk, HB⟩ := hrel
    by_cases hlt : k < l.length
    · obtain ⟨ad, m, hmm, rfl, hm9, hc⟩ := term_at HR.out k hlt
      obtain ⟨ad', m', hmm', rfl, hm9', hc'⟩ := term_at HR'.out k hlt
      obtain rfl : m' = m := hmm'.trans hmm.symm
      have HC := Aside0.mk (hc.below HB.out)
      have HC' := Aside0.mk (hc'.below HB.out)
      have HK := Aside0.mk (fun W => eqTerm_same m' W hm9)
      clear hmm hmm' hc hc'
      go_wp2
      refine start_ (n := 10) (S := fun w' => At w' (ad.add (k * 4)) (tcells m') ∧ At w' (ad'.add (k * 4)) (tcells m')) (ds := []) #[false, false, false, false, false, false, false, false, false, false] (by kernel_rfl) rfl rfl ⟨HC.out.drew, HC'.out.drew⟩ (fun hHeld => ?_)
      refine pure_ (i := 0) (N := some 17) (v := ?_) (a' := ?_) #[true, false, false, false, false, false, false, false, false, false] rfl rfl (by kernel_rfl) (fun _ _ _ h => h) (Or.inl ⟨by rfl, ?_⟩) ?_ ?_
      rotate_left
      · intro w'
        go_simp
        with_reducible rfl
      rotate_left
      · simp only [Act.put, List.setIfInBounds_toArray, List.set_cons_zero, List.set_cons_succ, i64_w, i32_w]
        rfl
      refine pure_ (i := 1) (N := some 18) (v := ?_) (a' := ?_) #[true, true, false, false, false, false, false, false, false, false] rfl rfl (by kernel_rfl) (fun _ _ _ h => h) (Or.inl ⟨by rfl, ?_⟩) ?_ ?_
      rotate_left
      · intro w'
        go_simp
        with_reducible rfl
      rotate_left
      · simp only [Act.put, List.setIfInBounds_toArray, List.set_cons_zero, List.set_cons_succ, i64_w, i32_w]
        rfl
      refine pure_ (i := 2) (N := some 19) (v := ?_) (a' := ?_) #[true, true, true, false, false, false, false, false, false, false] rfl rfl (by kernel_rfl) (fun _ _ _ h => h) (Or.inl ⟨by rfl, ?_⟩) ?_ ?_
      rotate_left
      · intro w'
        go_simp
        with_reducible rfl
      rotate_left
      · simp only [Act.put, List.setIfInBounds_toArray, List.set_cons_zero, List.set_cons_succ, i64_w, i32_w]
        rfl
      refine pure_ (i := 4) (N := some 21) (v := ?_) (a' := ?_) #[true, true, true, false, true, false, false, false, false, false] rfl rfl (by kernel_rfl) (fun _ _ _ h => h) (Or.inl ⟨by rfl, ?_⟩) ?_ ?_
      rotate_left
      · intro w'
        go_simp
        with_reducible rfl
      rotate_left
      · simp only [Act.put, List.setIfInBounds_toArray, List.set_cons_zero, List.set_cons_succ, i64_w, i32_w]
        rfl
      refine pure_ (i := 5) (N := some 22) (v := ?_) (a' := ?_) #[true, true, true, false, true, true, false, false, false, false] rfl rfl (by kernel_rfl) (fun _ _ _ h => h) (Or.inl ⟨by rfl, ?_⟩) ?_ ?_
      rotate_left
      · intro w'
        go_simp
        with_reducible rfl
      rotate_left
      · simp only [Act.put, List.setIfInBounds_toArray, List.set_cons_zero, List.set_cons_succ, i64_w, i32_w]
        rfl
      refine pure_ (i := 6) (N := some 23) (v := ?_) (a' := ?_) #[true, true, true, false, true, true, true, false, false, false] rfl rfl (by kernel_rfl) (fun _ _ _ h => h) (Or.inl ⟨by rfl, ?_⟩) ?_ ?_
      rotate_left
      · intro w'
        go_simp
        with_reducible rfl
      rotate_left
      · simp only [Act.put, List.setIfInBounds_toArray, List.set_cons_zero, List.set_cons_succ, i64_w, i32_w]
        rfl
      refine take_ (i := 3) (N := some 20) (v := ?_) (a' := ?_) #[true, true, true, true, true, true, true, false, false, false] rfl rfl (by kernel_rfl) (fun _ _ _ h => h) (Or.inl ⟨by rfl, ?_⟩) hHeld ?_ ?_
      rotate_left
      · rintro w' ⟨s0, s1⟩
        refine Eq.trans (run_op_load' s0 (by rfl) (by rfl) Tryz.underlying151 rfl (sizeT_of hm9)) ?_
        with_reducible rfl
      rotate_left
      · simp only [Act.put, List.setIfInBounds_toArray, List.set_cons_zero, List.set_cons_succ, i64_w, i32_w]
        rfl
      refine take_ (i := 7) (N := some 24) (v := ?_) (a' := ?_) #[true, true, true, true, true, true, true, true, false, false] rfl rfl (by kernel_rfl) (fun _ _ _ h => h) (Or.inl ⟨by rfl, ?_⟩) hHeld ?_ ?_
      rotate_left
      · rintro w' ⟨s0, s1⟩
        refine Eq.trans (run_op_load' s1 (by rfl) (by rfl) Tryz.underlying151 rfl (sizeT_of hm9)) ?_
        with_reducible rfl
      rotate_left
      · simp only [Act.put, List.setIfInBounds_toArray, List.set_cons_zero, List.set_cons_succ, i64_w, i32_w]
        rfl
      refine one_ (i := 8) (N := some 25) #[true, true, true, true, true, true, true, true, true, false] rfl rfl (by kernel_rfl) (by decide) (fun K hK => ?_)
      refine goes_ Tryz.func195 (by kernel_rfl) rfl #[.agg (tcells m'), .agg (tcells m')] (by rfl) rfl rfl (by simp only [List.map_toArray, List.map_cons, List.map_nil]; rfl) ?_
      with_reducible refine (HK.out _).mono ?_
      rintro e w2 ⟨rfl, hb⟩
      refine ⟨_, rfl, ?_⟩
      have HB2 := Aside0.mk hb
      clear hb
      refine hK.out _ _ ⟨HC.out.drew.below HB2.out, HC'.out.drew.below HB2.out⟩ (fun hHeld => ?_)
      clear hK K
      refine norm_ (a' := ?_) ?_ ?_
      rotate_left
      · show Act.put _ (some 25) _ = _
        simp only [Act.put, List.setIfInBounds_toArray, List.set_cons_zero, List.set_cons_succ, i64_w, i32_w]
        rfl
      refine pure_ (i := 9) (N := some 26) (v := ?_) (a' := ?_) #[true, true, true, true, true, true, true, true, true, true] rfl rfl (by kernel_rfl) (fun _ _ _ h => h) (Or.inl ⟨by rfl, ?_⟩) ?_ ?_
      rotate_left
      · intro w'
        go_simp
        with_reducible rfl
      rotate_left
      · simp only [Act.put, List.setIfInBounds_toArray, List.set_cons_zero, List.set_cons_succ, i64_w, i32_w]
        rfl
      refine done_ (by kernel_rfl) ?_
      go_wp2
      go_roundw
      case rel => exact ⟨k + 1, by go_num, by omega, ⟨below_step (below_drew1 HB.out) HB2.out⟩⟩
      case measure => simp [intOf]; omega
    · go_wp2
      go_ret
      exact ⟨rfl, HB.out⟩
set_option maxRecDepth 100000 in
set_option maxHeartbeats 1000000 in
theorem eqPoly_same (p n : Int) (A : Option Addr) (q c : Nat) (A' : Option Addr) (q' c' : Nat) (l : List (List Int × Int)) (w : World) (hr : kT.C w A q l) (hr' : kT.C w A' q' l) :
    Calls Tryz.prog 48 #[.agg #[.int .i64 p, .int .i64 n, .slice A q c], .agg #[.int .i64 p, .int .i64 n, .slice A' q' c']] w fun e w' => e = .returned (.bool true) ∧ Below w.heap.size w w' := by
  have hb0 := below_alloc (below_alloc (Below.refl w.heap.size w) (.cells #[.int .i64 p, .int .i64 n, .slice A q c] 58)) (.cells #[.int .i64 p, .int .i64 n, .slice A' q' c'] 58)
  have HK := Aside0.mk (eqTermS_same A q c A' q' c' l _ (Kd.C_below hr hb0) (Kd.C_below hr' hb0))
  have HB0 := Aside0.mk hb0
  clear hr hr' hb0
  go_enter Tryz.func48, Tryz.ntmps48
  go_wp2_with ((go_at_call 115; refine HK.out.mono ?_; rintro e w2 ⟨rfl, hb⟩; have HB := Aside0.mk hb; clear hb))
  go_ret
  exact ⟨rfl, below_step HB0.out HB.out⟩
theorem eqPoly_pv (P : Pv) (A : Option Addr) (c : Nat) (A' : Option Addr) (c' : Nat) (w : World) (hr : kT.C w A P.2.2.length P.2.2) (hr' : kT.C w A' P.2.2.length P.2.2) :
    Calls Tryz.prog 48 #[.agg (pcells P A c), .agg (pcells P A' c')] w fun e w' => e = .returned (.bool true) ∧ Below w.heap.size w w' :=
  eqPoly_same P.1 P.2.1 A P.2.2.length c A' P.2.2.length c' P.2.2 w hr hr'
set_option maxRecDepth 100000 in
set_option maxHeartbeats 400000 in
theorem eqPolyS_same (A : Option Addr) (n c : Nat) (A' : Option Addr) (n' c' : Nat) (l : List Pv) (w : World) (hr : kP.C w A n l) (hr' : kP.C w A' n' l) :
    Calls Tryz.prog 15 #[.slice A n c, .slice A' n' c'] w fun e w' => e = .returned (.bool true) ∧ Below w.heap.size w w' := by
  obtain rfl := Kd.C_len hr
  obtain rfl := Kd.C_len hr'
  have hmx := Kd.C_max hr
  have HR := Aside0.mk hr
  have HR' := Aside0.mk hr'
  clear hr hr'
  go_enter Tryz.func15, Tryz.ntmps15
  go_wp2
  go_loopw [5] (fun v wr => ∃ k : Nat, v = .int .i64 k ∧ k ≤ l.length ∧ Aside0 (Below w.heap.size w wr)) (fun v _ => l.length - (intOf v).toNat)
  case atStart => exact ⟨0, rfl, by omega, ⟨Below.refl _ _⟩⟩
  case round =>
    obtain ⟨k, rfl, hk, HB⟩ := hrel
    by_cases hlt : k < l.length
    · obtain ⟨ad, m, A1, c1, hmm, rfl, _, hC1, hc⟩ := poly_at (Kd.C_below HR.out HB.out) k hlt
      obtain ⟨ad', m', A2, c2, hmm', rfl, _, hC2, hc'⟩ := poly_at (Kd.C_below HR'.out HB.out) k hlt
      obtain rfl : m' = m := hmm'.trans hmm.symm
      have HC := Aside0.mk hc
      have HC' := Aside0.mk hc'
      have HK := Aside0.mk (eqPoly_pv m' A1 c1 A2 c2 _ (Kd.C_drew hC1) (Kd.C_drew hC2))
      clear hmm hmm' hc hc' hC1 hC2
      go_wp2
      refine start_ (n := 10) (S := fun w' => At w' (ad.add (k * 3)) (pcells m' A1 c1) ∧ At w' (ad'.add (k * 3)) (pcells m' A2 c2)) (ds := []) #[false, false, false, false, false, false, false, false, false, false] (by kernel_rfl) rfl rfl ⟨HC.out.drew, HC'.out.drew⟩ (fun hHeld => ?_)
      refine pure_ (i := 0) (N := some 17) (v := ?_) (a' := ?_) #[true, false, false, false, false, false, false, false, false, false] rfl rfl (by kernel_rfl) (fun _ _ _ h => h) (Or.inl ⟨by rfl, ?_⟩) ?_ ?_
      rotate_left
      · intro w'
        go_simp
        with_reducible rfl
      rotate_left
      · simp only [Act.put, List.setIfInBounds_toArray, List.set_cons_zero, List.set_cons_succ, i64_w, i32_w]
        rfl
      refine pure_ (i := 1) (N := some 18) (v := ?_) (a' := ?_) #[true, true, false, false, false, false, false, false, false, false] rfl rfl (by kernel_rfl) (fun _ _ _ h => h) (Or.inl ⟨by rfl, ?_⟩) ?_ ?_
      rotate_left
      · intro w'
        go_simp
        with_reducible rfl
      rotate_left
      · simp only [Act.put, List.setIfInBounds_toArray, List.set_cons_zero, List.set_cons_succ, i64_w, i32_w]
        rfl
      refine pure_ (i := 2) (N := some 19) (v := ?_) (a' := ?_) #[true, true, true, false, false, false, false, false, false, false] rfl rfl (by kernel_rfl) (fun _ _ _ h => h) (Or.inl ⟨by rfl, ?_⟩) ?_ ?_
      rotate_left
      · intro w'
        go_simp
        with_reducible rfl
      rotate_left
      · simp only [Act.put, List.setIfInBounds_toArray, List.set_cons_zero, List.set_cons_succ, i64_w, i32_w]
        rfl
      refine pure_ (i := 4) (N := some 21) (v := ?_) (a' := ?_) #[true, true, true, false, true, false, false, false, false, false] rfl rfl (by kernel_rfl) (fun _ _ _ h => h) (Or.inl ⟨by rfl, ?_⟩) ?_ ?_
      rotate_left
      · intro w'
        go_simp
        with_reducible rfl
      rotate_left
      · simp only [Act.put, List.setIfInBounds_toArray, List.set_cons_zero, List.set_cons_succ, i64_w, i32_w]
        rfl
      refine pure_ (i := 5) (N := some 22) (v := ?_) (a' := ?_) #[true, true, true, false, true, true, false, false, false, false] rfl rfl (by kernel_rfl) (fun _ _ _ h => h) (Or.inl ⟨by rfl, ?_⟩) ?_ ?_
      rotate_left
      · intro w'
        go_simp
        with_reducible rfl
      rotate_left
      · simp only [Act.put, List.setIfInBounds_toArray, List.set_cons_zero, List.set_cons_succ, i64_w, i32_w]
        rfl
      refine pure_ (i := 6) (N := some 23) (v := ?_) (a' := ?_) #[true, true, true, false, true, true, true, false, false, false] rfl rfl (by kernel_rfl) (fun _ _ _ h => h) (Or.inl ⟨by rfl, ?_⟩) ?_ ?_
      rotate_left
      · intro w'
        go_simp
        with_reducible rfl
      rotate_left
      · simp only [Act.put, List.setIfInBounds_toArray, List.set_cons_zero, List.set_cons_succ, i64_w, i32_w]
        rfl
      refine take_ (i := 3) (N := some 20) (v := ?_) (a' := ?_) #[true, true, true, true, true, true, true, false, false, false] rfl rfl (by kernel_rfl) (fun _ _ _ h => h) (Or.inl ⟨by rfl, ?_⟩) hHeld ?_ ?_
      rotate_left
      · rintro w' ⟨s0, s1⟩
        refine Eq.trans (run_op_load' s0 (by rfl) (by rfl) Tryz.underlying58 rfl sizeP) ?_
        with_reducible rfl
      rotate_left
      · simp only [Act.put, List.setIfInBounds_toArray, List.set_cons_zero, List.set_cons_succ, i64_w, i32_w]
        rfl
      refine take_ (i := 7) (N := some 24) (v := ?_) (a' := ?_) #[true, true, true, true, true, true, true, true, false, false] rfl rfl (by kernel_rfl) (fun _ _ _ h => h) (Or.inl ⟨by rfl, ?_⟩) hHeld ?_ ?_
      rotate_left
      · rintro w' ⟨s0, s1⟩
        refine Eq.trans (run_op_load' s1 (by rfl) (by rfl) Tryz.underlying58 rfl sizeP) ?_
        with_reducible rfl
      rotate_left
      · simp only [Act.put, List.setIfInBounds_toArray, List.set_cons_zero, List.set_cons_succ, i64_w, i32_w]
        rfl
      refine one_ (i := 8) (N := some 25) #[true, true, true, true, true, true, true, true, true, false] rfl rfl (by kernel_rfl) (by decide) (fun K hK => ?_)
      refine goes_ Tryz.func48 (by kernel_rfl) rfl #[.agg (pcells m' A1 c1), .agg (pcells m' A2 c2)] (by rfl) rfl rfl (by simp only [List.map_toArray, List.map_cons, List.map_nil]; rfl) ?_
      with_reducible refine (HK.out).mono ?_
      rintro e w2 ⟨rfl, hb⟩
      refine ⟨_, rfl, ?_⟩
      have HB2 := Aside0.mk hb
      clear hb
      refine hK.out _ _ ⟨HC.out.drew.below HB2.out, HC'.out.drew.below HB2.out⟩ (fun hHeld => ?_)
      clear hK K
      refine norm_ (a' := ?_) ?_ ?_
      rotate_left
      · show Act.put _ (some 25) _ = _
        simp only [Act.put, List.setIfInBounds_toArray, List.set_cons_zero, List.set_cons_succ, i64_w, i32_w]
        rfl
      refine pure_ (i := 9) (N := some 26) (v := ?_) (a' := ?_) #[true, true, true, true, true, true, true, true, true, true] rfl rfl (by kernel_rfl) (fun _ _ _ h => h) (Or.inl ⟨by rfl, ?_⟩) ?_ ?_
      rotate_left
      · intro w'
        go_simp
        with_reducible rfl
      rotate_left
      · simp only [Act.put, List.setIfInBounds_toArray, List.set_cons_zero, List.set_cons_succ, i64_w, i32_w]
        rfl
      refine done_ (by kernel_rfl) ?_
      go_wp2
      go_roundw
      case rel => exact ⟨k + 1, by go_num, by omega, ⟨below_step (below_drew1 HB.out) HB2.out⟩⟩
      case measure => simp [intOf]; omega
    · go_wp2
      go_ret
      exact ⟨rfl, HB.out⟩
end Go.Proofs.YtbenhcognapdpaaGreat
/- Walk: the law FnExactCommonValues answers true. -/
set_option linter.unusedVariables false
set_option linter.unusedSimpArgs false
namespace Go.Proofs.YtbenhcognapdpaaGreat
open Go.RowKit Go.Proofs.YtbenhcognapdpaaGreatW.PrintWords Go.Proofs.YtbenhcognapdpaaGreatW.PrintLast Lin

theorem sizeGLz : (Tryz.prog.info? 32).map (·.size) = some 3 := by kernel_rfl
set_option maxRecDepth 100000 in
set_option maxHeartbeats 2000000 in
theorem fnCommon_calls (p n : Int) (A : Option Addr) (q c : Nat) (l : List (List Int)) (A1 : Option Addr) (q1 c1 : Nat) (ps : List Pv) (w : World) (hr : kM.C w A q l) (hl : ∀ m ∈ l, IsM m) (hr1 : kP.C w A1 q1 ps) (ht : ∀ P ∈ ps, IsPv P) :
    Calls Tryz.prog 8 #[.agg #[.int .i64 p, .int .i64 n, .slice A q c], .slice A1 q1 c1] w fun e w' => e = .returned (.bool true) ∧ Below w.heap.size w w' := by
  obtain rfl := Kd.C_len hr
  obtain rfl := Kd.C_len hr1
  have hm0 := Kd.C_max hr
  have hm1 := Kd.C_max hr1
  have HB0 := Aside0.mk (below_alloc (Below.refl w.heap.size w) (.cells #[.int .i64 p, .int .i64 n, .slice A l.length c] 32))
  have H1 := Blk.new w #[.int .i64 p, .int .i64 n, .slice A l.length c] 32
  by_cases hll : l.length ≤ 1048576
  rotate_left
  · have HN : Aside0 (szL l.length 1048576 = -1) := ⟨by unfold szL; rw [if_pos (by omega)]⟩
    go_enter Tryz.func8, Tryz.ntmps8
    go_wp2_with (refine load_blk rfl _ 2 rfl H1 rfl _ Tryz.underlying32 rfl sizeGLz ?_)
    go_at_call 16
    refine (szGroup_calls p n A l.length c 1048576 _ (by omega) hm0).mono ?_
    rw [HN.out]
    rintro e w1 ⟨rfl, hb⟩
    have HB := Aside0.mk (below_step HB0.out hb)
    clear hb
    go_wp2
    go_ret
    exact ⟨rfl, HB.out⟩
  have HN : Aside0 (szL l.length 1048576 = 1048576 - l.length) := ⟨by unfold szL; rw [if_neg (by omega)]⟩
  have hbl : decide ((1048576 : Int) - l.length < 0) = false := decide_eq_false (by omega)
  have HR := Aside0.mk hr
  have HL := Aside0.mk hl
  have HR1 := Aside0.mk hr1
  have HTA := Aside0.mk ht
  clear hr hl hr1 ht
  go_enter Tryz.func8, Tryz.ntmps8
  go_wp2_with (refine load_blk rfl _ 2 rfl H1 rfl _ Tryz.underlying32 rfl sizeGLz ?_)
  go_at_call 16
  refine (szGroup_calls p n A l.length c 1048576 _ (by omega) hm0).mono ?_
  rw [HN.out]
  rintro e w1 ⟨rfl, hb⟩
  replace H1 := H1.keep hb
  have HB := Aside0.mk (below_step HB0.out hb)
  clear hb
  go_wp2_with fail
  go_at_call 11
  refine (szPolyS_calls A1 ps.length c1 ps (1048576 - l.length) _ (Kd.C_below HR1.out HB.out) (by omega)).mono ?_
  rintro e w1a ⟨r, rfl, hz, hb⟩
  replace H1 := H1.keep hb
  replace HB := Aside0.mk (below_step HB.out hb)
  clear hb
  rcases hz with rfl | hz
  · go_wp2
    go_ret
    exact ⟨rfl, HB.out⟩
  have hpl : ps.length ≤ 1048576 := by have := hz.2.2.1; omega
  have HSZ : Aside0 (∀ P ∈ ps, P.2.2.length ≤ 1048576) := ⟨fun P hP => by have := hz.2.2.2 P hP; omega⟩
  have hrr : decide (r < 0) = false := decide_eq_false (by omega)
  clear hz
  obtain ⟨sb, sc, hs⟩ : ∃ sb sc, commonR p n l ps = (sb, sc) := ⟨_, _, rfl⟩
  have HS := Aside0.mk hs
  clear hs
  go_wp2_with (refine load_blk rfl _ 2 rfl H1 rfl _ Tryz.underlying32 rfl sizeGLz ?_)
  go_at_call 18
  refine (toGroup_calls p n A l.length c l _ (Kd.C_below HR.out HB.out) hll).mono ?_
  rintro e w2 ⟨A3, c3, rfl, hC, hb⟩
  have HG3 := Aside0.mk hC
  replace H1 := H1.keep hb
  replace HB := Aside0.mk (below_step HB.out hb)
  clear hb hC
  go_wp2_with fail
  go_at_call 13
  refine (toPolyS_calls A1 ps.length c1 ps _ (Kd.C_below HR1.out HB.out) hpl HSZ.out).mono ?_
  rintro e w3 ⟨v4, rfl, ho, hb⟩
  obtain ⟨A4, c4, rfl, hc4, hC4⟩ := Kd.R_reads ho
  have HX3 := Aside0.mk hC4
  replace HG3 := Aside0.mk (Kd.C_below HG3.out hb)
  replace H1 := H1.keep hb
  replace HB := Aside0.mk (below_step HB.out hb)
  clear hb ho hC4
  go_wp2_with fail
  go_at_call 34
  refine (specCommon_calls p n A3 l.length c3 l A4 ps.length c4 ps _ HG3.out HL.out HX3.out HTA.out HSZ.out).mono ?_
  rw [HS.out]
  rintro e w5 ⟨rfl, hb⟩
  replace H1 := H1.keep hb
  replace HB := Aside0.mk (below_step HB.out hb)
  clear hb HG3 HX3
  go_wp2_with (refine load_blk rfl _ 2 rfl H1 rfl _ Tryz.underlying32 rfl sizeGLz ?_)
  go_at_call 18
  refine (toGroup_calls p n A l.length c l _ (Kd.C_below HR.out HB.out) hll).mono ?_
  rintro e w6 ⟨A6, c6, rfl, hC, hb⟩
  have hb6 := below_alloc (Below.refl w6.heap.size w6) (.cells #[.int .i64 p, .int .i64 n, .slice A6 l.length c6] 37)
  have HG := Aside0.mk (Kd.C_below hC hb6)
  have H10 := Blk.new w6 #[.int .i64 p, .int .i64 n, .slice A6 l.length c6] 37
  replace H1 := (H1.keep hb).keep hb6
  replace HB := Aside0.mk (below_step (below_step HB.out hb) hb6)
  clear hb hb6 hC
  go_wp2_with (refine gate_ (.store 37 (.tmp 8) (.tmp 31)) rfl ?_; go_must (refine store_blk (cs := #[.int .i64 p, .int .i64 n, .slice A6 l.length c6]) rfl _ 8 _ rfl (Blk.new w6 #[.int .i64 0, .int .i64 0, .slice none 0 0] 37) rfl rfl sizeG rfl (by simp [Value.oneCell']) ?_; rw [World.setRow_alloc_new]))
  go_at_call 13
  refine (toPolyS_calls A1 ps.length c1 ps _ (Kd.C_below HR1.out HB.out) hpl HSZ.out).mono ?_
  rintro e w7 ⟨v7, rfl, ho, hb⟩
  obtain ⟨A7, c7, rfl, hc7, hC7⟩ := Kd.R_reads ho
  have HX := Aside0.mk hC7
  replace HG := Aside0.mk (Kd.C_below HG.out hb)
  replace H1 := H1.keep hb
  replace H10 := H10.keep hb
  replace HB := Aside0.mk (below_step HB.out hb)
  clear hb ho hC7
  go_wp2_with (refine load_blk rfl _ 8 rfl H10 rfl _ Tryz.underlying37 rfl sizeG ?_)
  go_at_call 35
  refine (implCommon_calls p n A6 l.length c6 l A7 ps.length c7 ps _ HG.out HL.out HX.out HTA.out HSZ.out).mono ?_
  rw [HS.out]
  rintro e w9 ⟨rfl, hb⟩
  replace HG := Aside0.mk (Kd.C_below HG.out hb)
  replace HX := Aside0.mk (Kd.C_below HX.out hb)
  replace H1 := H1.keep hb
  replace H10 := H10.keep hb
  replace HB := Aside0.mk (below_step HB.out hb)
  clear hb
  have hbb : (sb != sb) = false := by simp
  have hbc : (sc != sc) = false := by simp
  go_wp2_with fail
  have HKT := Aside0.mk (fun W (h : Below w.heap.size w W) => toGroup_calls p n A l.length c l W (Kd.C_below HR.out h) hll)
  refine start_ (n := 5) (S := fun w' => At w' ⟨w6.heap.size, 0, none⟩ #[.int .i64 p, .int .i64 n, .slice A6 l.length c6] ∧ At w' ⟨w.heap.size, 0, none⟩ #[.int .i64 p, .int .i64 n, .slice A l.length c]) (ds := []) #[false, false, false, false, false] (by kernel_rfl) rfl rfl ⟨H10.drew.at, H1.drew.at⟩ (fun hHeld => ?_)
  refine take_ (i := 0) (N := some 48) (v := ?_) (a' := ?_) #[true, false, false, false, false] rfl rfl (by kernel_rfl) (fun _ _ _ h => h) (Or.inl ⟨by rfl, ?_⟩) hHeld ?_ ?_
  rotate_left
  · rintro w' ⟨s0, s1⟩
    refine Eq.trans (run_op_load' s0 (by rfl) (by rfl) Tryz.underlying37 rfl sizeG) ?_
    with_reducible rfl
  rotate_left
  · simp only [Act.put, List.setIfInBounds_toArray, List.set_cons_zero, List.set_cons_succ, i64_w, i32_w]
    rfl
  refine take_ (i := 1) (N := some 49) (v := ?_) (a' := ?_) #[true, true, false, false, false] rfl rfl (by kernel_rfl) (fun _ _ _ h => h) (Or.inl ⟨by rfl, ?_⟩) hHeld ?_ ?_
  rotate_left
  · rintro w' ⟨s0, s1⟩
    refine Eq.trans (run_op_load' s1 (by rfl) (by rfl) Tryz.underlying32 rfl sizeGLz) ?_
    with_reducible rfl
  rotate_left
  · simp only [Act.put, List.setIfInBounds_toArray, List.set_cons_zero, List.set_cons_succ, i64_w, i32_w]
    rfl
  refine one_ (i := 2) (N := some 50) #[true, true, true, false, false] rfl rfl (by kernel_rfl) (by decide) (fun K hK => ?_)
  refine goes_ Tryz.func18 (by kernel_rfl) rfl #[.agg #[.int .i64 p, .int .i64 n, .slice A l.length c]] (by rfl) rfl rfl (by simp only [List.map_toArray, List.map_cons, List.map_nil]; rfl) ?_
  with_reducible refine (HKT.out _ (below_drew1 HB.out)).mono ?_
  rintro e w10 ⟨A9, c9, rfl, hC, hb⟩
  refine ⟨_, rfl, ?_⟩
  have HG2 := Aside0.mk hC
  replace HG := Aside0.mk (Kd.C_below (Kd.C_drew HG.out) hb)
  replace HX := Aside0.mk (Kd.C_below (Kd.C_drew HX.out) hb)
  replace H1 := H1.drew.keep hb
  replace H10 := H10.drew.keep hb
  replace HB := Aside0.mk (below_step (below_drew1 HB.out) hb)
  clear hb hC
  refine hK.out _ _ ⟨H10.at, H1.at⟩ (fun hHeld => ?_)
  clear hK K
  refine norm_ (a' := ?_) ?_ ?_
  rotate_left
  · show Act.put _ (some 50) _ = _
    simp only [Act.put, List.setIfInBounds_toArray, List.set_cons_zero, List.set_cons_succ, i64_w, i32_w]
    rfl
  refine one_ (i := 3) (N := some 51) #[true, true, true, true, false] rfl rfl (by kernel_rfl) (by decide) (fun K hK => ?_)
  refine goes_ Tryz.func20 (by kernel_rfl) rfl #[.agg #[.int .i64 p, .int .i64 n, .slice A6 l.length c6], .agg #[.int .i64 p, .int .i64 n, .slice A9 l.length c9]] (by rfl) rfl rfl (by simp only [List.map_toArray, List.map_cons, List.map_nil]; rfl) ?_
  with_reducible refine (eqGroup_same p n A6 l.length c6 A9 l.length c9 l _ HG.out HG2.out).mono ?_
  rintro e w11 ⟨rfl, hb⟩
  refine ⟨_, rfl, ?_⟩
  replace HX := Aside0.mk (Kd.C_below HX.out hb)
  replace H1 := H1.keep hb
  replace H10 := H10.keep hb
  replace HB := Aside0.mk (below_step HB.out hb)
  clear hb
  refine hK.out _ _ ⟨H10.at, H1.at⟩ (fun hHeld => ?_)
  clear hK K
  refine norm_ (a' := ?_) ?_ ?_
  rotate_left
  · show Act.put _ (some 51) _ = _
    simp only [Act.put, List.setIfInBounds_toArray, List.set_cons_zero, List.set_cons_succ, i64_w, i32_w]
    rfl
  refine pure_ (i := 4) (N := some 52) (v := ?_) (a' := ?_) #[true, true, true, true, true] rfl rfl (by kernel_rfl) (fun _ _ _ h => h) (Or.inl ⟨by rfl, ?_⟩) ?_ ?_
  rotate_left
  · intro w'
    go_simp
    with_reducible rfl
  rotate_left
  · simp only [Act.put, List.setIfInBounds_toArray, List.set_cons_zero, List.set_cons_succ, i64_w, i32_w]
    rfl
  refine done_ (by kernel_rfl) ?_
  go_wp2_with fail
  go_at_call 13
  refine (toPolyS_calls A1 ps.length c1 ps _ (Kd.C_below HR1.out HB.out) hpl HSZ.out).mono ?_
  rintro e w12 ⟨v12, rfl, ho, hb⟩
  obtain ⟨A12, c12, rfl, hc12, hC12⟩ := Kd.R_reads ho
  have HX2 := Aside0.mk hC12
  replace HX := Aside0.mk (Kd.C_below HX.out hb)
  replace HB := Aside0.mk (below_step HB.out hb)
  clear hb ho hC12
  go_wp2_with fail
  go_at_call 15
  refine (eqPolyS_same A7 ps.length c7 A12 ps.length c12 ps _ HX.out HX2.out).mono ?_
  rintro e w13 ⟨rfl, hb⟩
  replace HB := Aside0.mk (below_step HB.out hb)
  clear hb
  go_wp2
  go_ret
  exact ⟨rfl, HB.out⟩
end Go.Proofs.YtbenhcognapdpaaGreat
/- What a law's argument reads as, by its type: whole numbers, arrays, slices, structs. -/
set_option linter.unusedVariables false
set_option linter.unusedSimpArgs false
namespace Go.Proofs.YtbenhcognapdpaaGreat
open Go.RowKit Go.Proofs.YtbenhcognapdpaaGreatW.PrintWords Go.Proofs.YtbenhcognapdpaaGreatW.PrintLast Lin Go.Deep

section
variable {H : Type} {enc : TypeId × Value → H} {P : Program} {W : World} {spare : Nat → Bool} {held : Bool}
/-- Cells of type t read as a datum: then they are of kind d, and the value is Q. -/
def Opens {α : Type} (enc : TypeId × Value → H) (P : Program) (W : World) (spare : Nat → Bool) (held : Bool) (t : TypeId) (d : Kd α) (Q : α → Prop) : Prop :=
  ∀ fuel cs x, DataW.trod enc P W 0 spare held fuel t cs = some x → ∃ a, d.K W a cs ∧ Q a
theorem opens_int {t : TypeId} {k : IntKind} (ht : P.underlying t = some (.int k)) : Opens enc P W spare held t (Kd.int k) (fun a => (Lit.int k a).wf = true) := fun fuel cs x h => by
  obtain ⟨n, hcs, _, hw⟩ := DataW.trod_int ht h
  exact ⟨n, hcs, hw⟩
theorem Opens.imp {α : Type} {t : TypeId} {d : Kd α} {Q Q' : α → Prop} (h : Opens enc P W spare held t d Q) (hq : ∀ a, Q a → Q' a) : Opens enc P W spare held t d Q' := fun fuel cs x hx => by
  obtain ⟨a, h1, h2⟩ := h fuel cs x hx
  exact ⟨a, h1, hq a h2⟩
theorem opens_slice {α : Type} [Inhabited α] {t e e' : TypeId} {d : Kd α} {Q : α → Prop} (ht : P.underlying t = some (.slice e)) (hc : P.cellsOf e = d.sz) (h : Opens enc P W spare held e d Q) : Opens enc P W spare held t (Kd.slice e' d) (fun l => ∀ a ∈ l, Q a) := fun fuel cs x hx => by
  rcases open_slice ht hx with ⟨rfl, _⟩ | ⟨a, len, cap, m, n, D, Pl, rfl, _, hl, hm, hmm, _, hel⟩
  · exact ⟨[], ⟨none, 0, rfl, Nat.le_refl _, Kd.C_nil d W⟩, fun a ha => by cases ha⟩
  · have hlm : len ≤ m := by rw [hmm]; split <;> omega
    have hch : ∀ i, i < len → ∃ b : α, ∃ cs', W.cells? 0 (a.add (i * d.sz)) d.sz = some cs' ∧ d.K W b cs' ∧ Q b := by
      intro i hi
      obtain ⟨cs', h1, h2⟩ := hel i (by omega)
      rw [hc] at h1
      obtain ⟨b, hb, hq⟩ := h n cs' _ h2
      exact ⟨b, cs', h1, hb, hq⟩
    obtain ⟨f, hf⟩ := choose_lt hch
    have hlen : ((List.range len).map f).length = len := by simp
    have hmax : maxLen = 9223372036854775807 := rfl
    refine ⟨(List.range len).map f, ⟨some a, cap, by rw [hlen], by rw [hlen]; exact hl, ?_⟩, fun b hb => ?_⟩
    · rw [hlen]
      refine ⟨hlen, by omega, fun _ => ⟨a, rfl, fun j p hj => ?_⟩⟩
      have hjl : j < len := by have := (List.getElem?_eq_some_iff.1 hj).1; rwa [hlen] at this
      have hp : f j = p := by simpa [hjl] using hj
      obtain ⟨cs', h1, h2, _⟩ := hf j hjl
      rw [hp] at h2
      obtain ⟨_, hcl, hcell⟩ := World.cells?_some h1
      refine ⟨cs', d.K_len h2, h2, fun i u hu => ?_⟩
      have hi : i < cs'.length := (List.getElem?_eq_some_iff.1 hu).1
      have := hcell i (by rw [d.K_len h2] at hi; exact hi)
      rw [add_add'] at this
      rw [this, hu]
    · obtain ⟨i, hi, rfl⟩ := List.mem_map.1 hb
      obtain ⟨_, _, _, hq⟩ := hf i (List.mem_range.1 hi)
      exact hq
theorem ints_of {k : IntKind} : ∀ (cs : List Value), (∀ u ∈ cs, ∃ a, u = .int k a ∧ (Lit.int k a).wf = true) → ∃ xs : List Int, cs = encs (Value.int k) xs ∧ ∀ a ∈ xs, (Lit.int k a).wf = true
  | [], _ => ⟨[], rfl, fun a ha => by cases ha⟩
  | u :: cs, h => by
    obtain ⟨a, rfl, ha⟩ := h u List.mem_cons_self
    obtain ⟨xs, rfl, hx⟩ := ints_of cs (fun v hv => h v (List.mem_cons_of_mem _ hv))
    refine ⟨a :: xs, rfl, fun b hb => ?_⟩
    rcases List.mem_cons.1 hb with rfl | hb
    · exact ha
    · exact hx b hb
/-- An array of whole numbers: its cells. -/
theorem cells_ints {t e : TypeId} {k : IntKind} {n : Nat} (ht : P.underlying t = some (.array n e)) (he : P.underlying e = some (.int k)) (hce : P.cellsOf e = 1) (hct : P.cellsOf t = n) {fuel : Nat} {cs : List Value} {x : DataW H × List MemPlace}
    (h : DataW.trod enc P W 0 spare held fuel t cs = some x) : cs.length = n ∧ ∀ u ∈ cs, ∃ a, u = .int k a ∧ (Lit.int k a).wf = true := by
  obtain ⟨xs, m, _, _, hl, hxl, hel⟩ := DataW.trod_array ht h
  refine ⟨by rw [hl, hct], fun u hu => ?_⟩
  obtain ⟨i, hi, rfl⟩ := List.mem_iff_getElem.1 hu
  have hin : i < n := by rw [← hct, ← hl]; exact hi
  have h1 := hel i hin
  rw [hce, Nat.mul_one, List.drop_eq_getElem_cons hi, List.take_succ_cons, List.take_zero, List.getElem?_eq_getElem (by omega)] at h1
  obtain ⟨a, h2, _, h3⟩ := DataW.trod_int he h1
  exact ⟨a, by simpa using h2, h3⟩
theorem opens_ints {t e : TypeId} {k : IntKind} {n : Nat} (ht : P.underlying t = some (.array n e)) (he : P.underlying e = some (.int k)) (hce : P.cellsOf e = 1) (hct : P.cellsOf t = n) :
    Opens enc P W spare held t (Kd.arr n (Kd.int k) Nat.one_pos) (fun l => l.length = n ∧ ∀ a ∈ l, (Lit.int k a).wf = true) := fun fuel cs x h => by
  obtain ⟨hl, hu⟩ := cells_ints ht he hce hct h
  obtain ⟨xs, rfl, hx⟩ := ints_of cs hu
  have hxl : xs.length = n := by simpa [encs] using hl
  exact ⟨xs, (Kd.arr n (Kd.int k) Nat.one_pos).K_of_M (base := 0) (ok := fun _ => True) (Kd.arr_of_cells (n := n) hxl), hxl, hx⟩
/-- An array of arrays of whole numbers, in line. -/
theorem opens_ints2 {t e q : TypeId} {k : IntKind} {n m : Nat} (hm0 : 0 < m) (ht : P.underlying t = some (.array n e)) (he : P.underlying e = some (.array m q)) (hq : P.underlying q = some (.int k)) (hcq : P.cellsOf q = 1) (hce : P.cellsOf e = m) (hct : P.cellsOf t = n * m) :
    Opens enc P W spare held t (Kd.arr (n * m) (Kd.int k) Nat.one_pos) (fun l => l.length = n * m ∧ ∀ a ∈ l, (Lit.int k a).wf = true) := fun fuel cs x h => by
  obtain ⟨xs, mm, _, _, hl, hxl, hel⟩ := DataW.trod_array ht h
  rw [hct] at hl
  have hu : ∀ u ∈ cs, ∃ a, u = .int k a ∧ (Lit.int k a).wf = true := by
    intro u hu
    obtain ⟨i, hi, rfl⟩ := List.mem_iff_getElem.1 hu
    have hin : i / m < n := by rw [Nat.div_lt_iff_lt_mul hm0, ← hl]; exact hi
    have h1 := hel (i / m) hin
    rw [hce, List.getElem?_eq_getElem (by omega)] at h1
    refine (cells_ints he hq hcq hce h1).2 _ ?_
    rw [List.mem_iff_getElem?]
    refine ⟨i % m, ?_⟩
    rw [List.getElem?_take, if_pos (Nat.mod_lt _ hm0), List.getElem?_drop, Nat.mul_comm, Nat.div_add_mod, List.getElem?_eq_getElem hi]
  obtain ⟨xs', rfl, hx⟩ := ints_of cs hu
  have hxl' : xs'.length = n * m := by simpa [encs] using hl
  exact ⟨xs', (Kd.arr (n * m) (Kd.int k) Nat.one_pos).K_of_M (base := 0) (ok := fun _ => True) (Kd.arr_of_cells (n := n * m) hxl'), hxl', hx⟩
theorem opens_struct2 {α β : Type} {t : TypeId} {f0 f1 : Field} {d0 : Kd α} {d1 : Kd β} {Q0 : α → Prop} {Q1 : β → Prop} (ht : P.underlying t = some (.struct #[f0, f1])) (hC : P.cellsOf t = d0.sz + d1.sz)
    (o0 : f0.offset = 0) (s0 : P.cellsOf f0.type = d0.sz) (o1 : f1.offset = d0.sz) (s1 : P.cellsOf f1.type = d1.sz) (h0 : Opens enc P W spare held f0.type d0 Q0) (h1 : Opens enc P W spare held f1.type d1 Q1) :
    Opens enc P W spare held t (Kd.pair d0 d1) (fun x => Q0 x.1 ∧ Q1 x.2) := fun fuel cs x h => by
  obtain ⟨xs, n, _, _, hl, hxl, hel⟩ := DataW.trod_struct ht h
  have e0 := hel 0 f0 rfl
  have e1 := hel 1 f1 rfl
  have hx2 : xs.length = 2 := hxl
  rw [List.getElem?_eq_getElem (by omega), o0, s0, List.drop_zero] at e0
  rw [List.getElem?_eq_getElem (by omega), o1, s1] at e1
  obtain ⟨a, k0, q0⟩ := h0 _ _ _ e0
  obtain ⟨b, k1, q1⟩ := h1 _ _ _ e1
  rw [List.take_of_length_le (i := d1.sz) (by rw [List.length_drop]; omega)] at k1
  exact ⟨(a, b), ⟨_, _, (List.take_append_drop _ _).symm, k0, k1⟩, q0, q1⟩
theorem opens_struct3 {α β γ : Type} {t : TypeId} {f0 f1 f2 : Field} {d0 : Kd α} {d1 : Kd β} {d2 : Kd γ} {Q0 : α → Prop} {Q1 : β → Prop} {Q2 : γ → Prop} (ht : P.underlying t = some (.struct #[f0, f1, f2])) (hC : P.cellsOf t = d0.sz + (d1.sz + d2.sz))
    (o0 : f0.offset = 0) (s0 : P.cellsOf f0.type = d0.sz) (o1 : f1.offset = d0.sz) (s1 : P.cellsOf f1.type = d1.sz) (o2 : f2.offset = d0.sz + d1.sz) (s2 : P.cellsOf f2.type = d2.sz)
    (h0 : Opens enc P W spare held f0.type d0 Q0) (h1 : Opens enc P W spare held f1.type d1 Q1) (h2 : Opens enc P W spare held f2.type d2 Q2) :
    Opens enc P W spare held t (Kd.pair d0 (Kd.pair d1 d2)) (fun x => Q0 x.1 ∧ Q1 x.2.1 ∧ Q2 x.2.2) := fun fuel cs x h => by
  obtain ⟨xs, n, _, _, hl, hxl, hel⟩ := DataW.trod_struct ht h
  have e0 := hel 0 f0 rfl
  have e1 := hel 1 f1 rfl
  have e2 := hel 2 f2 rfl
  have hx2 : xs.length = 3 := hxl
  rw [List.getElem?_eq_getElem (by omega), o0, s0, List.drop_zero] at e0
  rw [List.getElem?_eq_getElem (by omega), o1, s1] at e1
  rw [List.getElem?_eq_getElem (by omega), o2, s2] at e2
  obtain ⟨a, k0, q0⟩ := h0 _ _ _ e0
  obtain ⟨b, k1, q1⟩ := h1 _ _ _ e1
  obtain ⟨c, k2, q2⟩ := h2 _ _ _ e2
  rw [List.take_of_length_le (i := d2.sz) (by rw [List.length_drop]; omega), ← List.drop_drop] at k2
  exact ⟨(a, b, c), ⟨_, _, (List.take_append_drop _ _).symm, k0, _, _, (List.take_append_drop _ _).symm, k1, k2⟩, q0, q1, q2⟩
end
end Go.Proofs.YtbenhcognapdpaaGreat
/- What the laws' groups and lists of numbers read as. -/
set_option linter.unusedVariables false
set_option linter.unusedSimpArgs false
namespace Go.Proofs.YtbenhcognapdpaaGreat
open Go.RowKit Go.ChangeShapes Go.WideShapes Go.Proofs.YtbenhcognapdpaaGreatW.PrintWords Go.Proofs.YtbenhcognapdpaaGreatW.PrintLast Lin Go.Deep

theorem cells_u8 : Tryz.prog.cellsOf 5 = 1 := by kernel_rfl
theorem cells_i64 : Tryz.prog.cellsOf 2 = 1 := by kernel_rfl
theorem cells_a3 : Tryz.prog.cellsOf 82 = 3 := by kernel_rfl
theorem cells_a33 : Tryz.prog.cellsOf 137 = 9 := by kernel_rfl
theorem cells_a33S : Tryz.prog.cellsOf 30 = 1 := by kernel_rfl
theorem cells_lG : Tryz.prog.cellsOf 32 = 3 := by kernel_rfl
section
variable {H : Type} {enc : TypeId × Value → H} {W : World} {spare : Nat → Bool} {held : Bool}
theorem opens_mat : Opens enc Tryz.prog W spare held 137 kM IsM :=
  Opens.imp (opens_ints2 (n := 3) (m := 3) (by omega) Tryz.underlying137 Tryz.underlying82 Tryz.underlying5 cells_u8 cells_a3 cells_a33) fun m h => ⟨h.1, fun a ha => bounds_u8 (h.2 a ha)⟩
theorem opens_group : Opens enc Tryz.prog W spare held 32 (Kd.pair (Kd.int .i64) (Kd.pair (Kd.int .i64) (Kd.slice 137 kM))) (fun x => True ∧ True ∧ ∀ m ∈ x.2.2, IsM m) :=
  opens_struct3 (d0 := Kd.int .i64) (d1 := Kd.int .i64) (d2 := Kd.slice 137 kM) Tryz.underlying32 cells_lG rfl cells_i64 rfl cells_i64 rfl cells_a33S (Opens.imp (opens_int Tryz.underlying2) fun _ _ => trivial) (Opens.imp (opens_int Tryz.underlying2) fun _ _ => trivial) (opens_slice Tryz.underlying30 cells_a33 opens_mat)
set_option maxRecDepth 100000 in
theorem open_group {r : Reach} {b0 : Nat} {v : Value} {d : DataW H} {p : List MemPlace} (hv : Value.okWide Tryz.prog W r b0 32 v) (h : DataW.Trod enc Tryz.prog W 0 spare held 32 v d p) :
    ∃ (p n : Int) (A : Option Addr) (c : Nat) (l : List (List Int)), v = .agg #[.int .i64 p, .int .i64 n, .slice A l.length c] ∧ kM.C W A l.length l ∧ ∀ m ∈ l, IsM m := by
  obtain ⟨cs, rfl, hsz⟩ := okWide_struct Tryz.underlying32 hv
  obtain ⟨fuel, hf⟩ := h
  obtain ⟨⟨p, n, l⟩, ⟨c0, c1, he, h0, c2, c3, rfl, h1, A, c, rfl, _, hC⟩, _, _, hM⟩ := opens_group _ _ _ hf
  have h0' : c0 = [.int .i64 p] := h0
  have h1' : c2 = [.int .i64 n] := h1
  subst h0' h1'
  have he2 : cs.toList = [.int .i64 p, .int .i64 n, .slice A l.length c] := by simpa [Value.cells] using he
  have : cs = #[.int .i64 p, .int .i64 n, .slice A l.length c] := by rw [← Array.toArray_toList (xs := cs), he2]
  subst this
  exact ⟨p, n, A, c, l, rfl, hC, hM⟩
set_option maxRecDepth 100000 in
theorem open_row {r : Reach} {b0 : Nat} {v : Value} {d : DataW H} {p : List MemPlace} (hv : Value.okWide Tryz.prog W r b0 84 v) (h : DataW.Trod enc Tryz.prog W 0 spare held 84 v d p) :
    ∃ (A : Option Addr) (c : Nat) (l : List Int), v = .slice A l.length c ∧ l.length ≤ c ∧ kI.C W A l.length l := by
  obtain ⟨A, n, c, rfl⟩ := okWide_slice Tryz.underlying84 hv
  obtain ⟨fuel, hf⟩ := h
  obtain ⟨l, ⟨A', c', he, hl, hC⟩, _⟩ := opens_slice (e' := 2) (d := kI) Tryz.underlying84 cells_i64 (opens_int Tryz.underlying2) _ _ _ hf
  have he2 : Value.slice A n c = .slice A' l.length c' := by simpa [Value.cells] using he
  cases he2
  exact ⟨A, c, l, rfl, hl, hC⟩
end
end Go.Proofs.YtbenhcognapdpaaGreat
/- What the laws' polynomials and lists of polynomials read as. -/
set_option linter.unusedVariables false
set_option linter.unusedSimpArgs false
namespace Go.Proofs.YtbenhcognapdpaaGreat
open Go.RowKit Go.ChangeShapes Go.WideShapes Go.Proofs.YtbenhcognapdpaaGreatW.PrintWords Go.Proofs.YtbenhcognapdpaaGreatW.PrintLast Lin Go.Deep

theorem cells_lT : Tryz.prog.cellsOf 191 = 4 := by kernel_rfl
theorem cells_lTS : Tryz.prog.cellsOf 47 = 1 := by kernel_rfl
theorem cells_lP : Tryz.prog.cellsOf 49 = 3 := by kernel_rfl
section
variable {H : Type} {enc : TypeId × Value → H} {W : World} {spare : Nat → Bool} {held : Bool}
theorem opens_term : Opens enc Tryz.prog W spare held 191 kT (fun t => Is3 t.1 ∧ True) :=
  opens_struct2 (d0 := Kd.arr 3 (Kd.int .u8) Nat.one_pos) (d1 := Kd.int .i64) Tryz.underlying191 cells_lT rfl cells_a3 rfl cells_i64 (Opens.imp (opens_ints Tryz.underlying82 Tryz.underlying5 cells_u8 cells_a3) fun m h => ⟨h.1, fun a ha => bounds_u8 (h.2 a ha)⟩) (Opens.imp (opens_int Tryz.underlying2) fun _ _ => trivial)
theorem opens_poly : Opens enc Tryz.prog W spare held 49 kP IsPv :=
  Opens.imp (opens_struct3 (d0 := Kd.int .i64) (d1 := Kd.int .i64) (d2 := Kd.slice 151 kT) Tryz.underlying49 cells_lP rfl cells_i64 rfl cells_i64 rfl cells_lTS (Opens.imp (opens_int Tryz.underlying2) fun _ _ => trivial) (Opens.imp (opens_int Tryz.underlying2) fun _ _ => trivial) (opens_slice Tryz.underlying47 cells_lT opens_term)) fun P h t ht => (h.2.2 t ht).1
set_option maxRecDepth 100000 in
theorem open_poly {r : Reach} {b0 : Nat} {v : Value} {d : DataW H} {p : List MemPlace} (hv : Value.okWide Tryz.prog W r b0 49 v) (h : DataW.Trod enc Tryz.prog W 0 spare held 49 v d p) :
    ∃ (p n : Int) (A : Option Addr) (c : Nat) (l : List (List Int × Int)), v = .agg #[.int .i64 p, .int .i64 n, .slice A l.length c] ∧ kT.C W A l.length l ∧ IsPv (p, n, l) := by
  obtain ⟨cs, rfl, hsz⟩ := okWide_struct Tryz.underlying49 hv
  obtain ⟨fuel, hf⟩ := h
  obtain ⟨⟨p, n, l⟩, ⟨c0, c1, he, h0, c2, c3, rfl, h1, A, c, rfl, _, hC⟩, hM⟩ := opens_poly _ _ _ hf
  have h0' : c0 = [.int .i64 p] := h0
  have h1' : c2 = [.int .i64 n] := h1
  subst h0' h1'
  have he2 : cs.toList = [.int .i64 p, .int .i64 n, .slice A l.length c] := by simpa [Value.cells] using he
  have : cs = #[.int .i64 p, .int .i64 n, .slice A l.length c] := by rw [← Array.toArray_toList (xs := cs), he2]
  subst this
  exact ⟨p, n, A, c, l, rfl, hC, hM⟩
set_option maxRecDepth 100000 in
theorem open_polys {r : Reach} {b0 : Nat} {v : Value} {d : DataW H} {p : List MemPlace} (hv : Value.okWide Tryz.prog W r b0 22 v) (h : DataW.Trod enc Tryz.prog W 0 spare held 22 v d p) :
    ∃ (A : Option Addr) (c : Nat) (l : List Pv), v = .slice A l.length c ∧ kP.C W A l.length l ∧ ∀ P ∈ l, IsPv P := by
  obtain ⟨A, n, c, rfl⟩ := okWide_slice Tryz.underlying22 hv
  obtain ⟨fuel, hf⟩ := h
  obtain ⟨l, ⟨A', c', he, hl, hC⟩, hq⟩ := opens_slice (e' := 49) (d := kP) Tryz.underlying22 cells_lP opens_poly _ _ _ hf
  have he2 : Value.slice A n c = .slice A' l.length c' := by simpa [Value.cells] using he
  cases he2
  exact ⟨A, c, l, rfl, hC, hq⟩
end
end Go.Proofs.YtbenhcognapdpaaGreat
