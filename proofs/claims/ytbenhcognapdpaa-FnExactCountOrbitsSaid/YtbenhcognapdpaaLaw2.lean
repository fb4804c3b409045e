/- Walks: the laws' copies of rows, and their comparisons. -/
import Derived.Test.YtbenhcognapdpaaLaw1
set_option linter.unusedVariables false
set_option linter.unusedSimpArgs false
namespace Go.Proofs.Ytbenhcognapdpaa
open Go.RowKit Go.Proofs.YtbenhcognapdpaaW.PrintWords Go.Proofs.YtbenhcognapdpaaW.PrintLast Lin

def cpyF (l : List Int) (j x : Nat) : Int := if x < j then nt l x else 0
def cpy (l : List Int) (j : Nat) : List Int := (List.range l.length).map (cpyF l j)
theorem cpy_len (l : List Int) (j : Nat) : (cpy l j).length = l.length := by simp [cpy]
theorem cpy_nt (l : List Int) (j : Nat) {x : Nat} (hx : x < l.length) : nt (cpy l j) x = cpyF l j x := by
  rw [nt_eq _ _ (by rw [cpy_len]; exact hx)]
  simp [cpy]
theorem cpy_zero (l : List Int) : List.replicate l.length 0 = cpy l 0 := by
  refine row_ext (by simp [cpy_len]) fun x hx => ?_
  rw [List.length_replicate] at hx
  rw [cpy_nt _ _ hx, nt_eq _ _ (by simpa using hx)]
  simp [cpyF]
theorem cpy_set (l : List Int) (j : Nat) (hj : j < l.length) : (cpy l j).set j (nt l j) = cpy l (j + 1) := by
  refine row_ext (by simp [cpy_len]) fun x hx => ?_
  rw [List.length_set, cpy_len] at hx
  rw [nt_set (by rw [cpy_len]; omega), cpy_nt _ _ hx, cpy_nt _ _ hx]
  unfold cpyF
  by_cases h : x = j
  · subst h; simp
  · rw [if_neg h]
    by_cases h2 : x < j
    · rw [if_pos h2, if_pos (by omega)]
    · rw [if_neg h2, if_neg (by omega)]
theorem cpy_done (l : List Int) (j : Nat) (h : l.length ≤ j) : cpy l j = l := by
  refine row_ext (cpy_len ..) fun x hx => ?_
  rw [cpy_len] at hx
  rw [cpy_nt _ _ hx]
  unfold cpyF
  rw [if_pos (by omega)]

set_option maxRecDepth 100000 in
set_option maxHeartbeats 1000000 in
theorem toInt64S_calls (A : Option Addr) (n c : Nat) (l : List Int) (w : World) (hr : kI.C w A n l) (hl : n ≤ 1048576) :
    Calls Try.prog 17 #[.slice A n c] w fun e w' => ∃ v, e = .returned v ∧ kI.R 2 w' w.heap.size (fun _ => True) v l ∧ Below w.heap.size w w' := by
  obtain rfl := Kd.C_len hr
  have HR := Aside0.mk hr
  clear hr
  by_cases h0 : l.length = 0
  · obtain rfl : l = [] := List.eq_nil_of_length_eq_zero h0
    go_enter Try.func17, Try.ntmps17
    go_wp2_with ((refine make_int rfl rfl _ (.tmp 6) (.tmp 6) rfl 0 rfl rfl Try.underlying38 infoI (by omega) (by omega) ?_; intro v1 w1 ho1 hb1; have HO := Aside0.mk ho1; have HB := Aside0.mk hb1; clear ho1 hb1))
    go_loopw [4] (fun v wr => v = .int .i64 0 ∧ wr = w1) (fun _ _ => 0)
    case atStart => exact ⟨rfl, rfl⟩
    case round =>
      obtain ⟨rfl, rfl⟩ := hrel
      go_wp2
      go_ret
      exact ⟨_, rfl, HO.out, HB.out⟩
  · go_enter Try.func17, Try.ntmps17
    go_wp2_with ((refine make_int rfl rfl _ (.tmp 6) (.tmp 6) rfl l.length rfl rfl Try.underlying38 infoI (by omega) (by omega) ?_; intro v1 w1 ho1 hb1; rw [Int.toNat_natCast, cpy_zero l] at ho1; obtain ⟨g, cap, hv1, hg1, hg2, cells, hcell⟩ := Kd.R_form ho1 (by rw [cpy_len]; omega); rw [cpy_len] at hv1; subst hv1; have HO := Aside0.mk ho1; have HB := Aside0.mk hb1; clear ho1 hb1 hcell))
    go_loopw [4] (fun v wr => ∃ j : Nat, v = .int .i64 j ∧ j ≤ l.length ∧ Aside0 (kI.R 2 wr w.heap.size (fun _ => True) (.slice (some ⟨g, 0, none⟩) l.length cap) (cpy l j)) ∧ Aside0 (Below w.heap.size w wr)) (fun v _ => l.length - (intOf v).toNat)
    case atStart => exact ⟨0, rfl, by omega, HO, HB⟩
    case round =>
      clear HO HB
      obtain ⟨j, rfl, hj, HO, HB⟩ := hrel
      by_cases hlt : j < l.length
      · obtain ⟨ad, rfl, hc⟩ := at_nt HR.out j hlt
        have hw := ((HB.out.cell (World.block_lt_of_cell? _ _ hc)).trans hc)
        obtain ⟨hj1, hj2⟩ := own_cell HO.out j hlt
        go_wp2
        go_roundw
        case rel => exact ⟨j + 1, by go_num, by omega, ⟨by rw [← cpy_set l j hlt]; exact own_put HO.out j _⟩, ⟨HB.out.setCell (by dsimp only; omega) _⟩⟩
        case measure => simp [intOf]; omega
      · have HE : Aside0 (cpy l j = l) := ⟨cpy_done l j (by omega)⟩
        go_wp2
        go_ret
        exact ⟨_, rfl, by have h := HO.out; rw [HE.out] at h; exact h, HB.out⟩

set_option maxRecDepth 100000 in
set_option maxHeartbeats 400000 in
theorem eqInt64S_calls (A : Option Addr) (n c : Nat) (a : List Int) (A' : Option Addr) (n' c' : Nat) (b : List Int) (w : World) (hr : kI.C w A n a) (hr' : kI.C w A' n' b) :
    Calls Try.prog 20 #[.slice A n c, .slice A' n' c'] w fun e w' => e = .returned (.bool (sameB a b)) ∧ Drawn0 w w' := by
  obtain rfl := Kd.C_len hr
  obtain rfl := Kd.C_len hr'
  have hm := Kd.C_max hr
  have HR := Aside0.mk hr
  have HR' := Aside0.mk hr'
  clear hr hr'
  by_cases hl : a.length = b.length
  · have HL := Aside0.mk hl
    have hlb : ((a.length : Int) != b.length) = false := by simp [hl]
    clear hl
    go_enter Try.func20, Try.ntmps20
    go_wp2
    go_loopw [5] (fun v wr => ∃ k : Nat, v = .int .i64 k ∧ k ≤ a.length ∧ Aside0 (∀ j < k, nt a j = nt b j) ∧ Drawn0 w wr) (fun v _ => a.length - (intOf v).toNat)
    case atStart => exact ⟨0, rfl, by omega, ⟨fun j hj => by omega⟩, Drawn0.refl _⟩
    case round =>
      obtain ⟨k, rfl, hk, HZ, ⟨m, rfl⟩⟩ := hrel
      by_cases hlt : k < a.length
      · have hlt' : k < b.length := by have := HL.out; omega
        obtain ⟨ad, rfl, hc⟩ := at_nt HR.out k hlt
        obtain ⟨ad', rfl, hc'⟩ := at_nt HR'.out k hlt'
        by_cases h0 : nt a k = nt b k
        · have hb : (nt a k != nt b k) = false := by simp [h0]
          have HN := Aside0.mk h0
          clear h0
          go_wp2
          go_quiet (fail)
          go_wp2
          go_roundw
          case rel => exact ⟨k + 1, by go_num, by omega, ⟨fun j hj => by rcases Nat.lt_succ_iff_lt_or_eq.1 hj with h | h; exact HZ.out j h; subst h; exact HN.out⟩, (by repeat (first | exact Drawn0.refl _ | apply Drawn0.step))⟩
          case measure => simp [intOf]; omega
        · have hb : (nt a k != nt b k) = true := by simpa using h0
          have HN := Aside0.mk (sameB_false HL.out hlt h0)
          clear h0
          go_wp2
          go_quiet (fail)
          go_wp2
          go_ret
          exact ⟨ret_b HN.out.symm, (by repeat (first | exact Drawn0.refl _ | apply Drawn0.step))⟩
      · have HE := Aside0.mk (show k = a.length by omega)
        go_wp2
        go_ret
        exact ⟨ret_b (sameB_true HL.out (fun j hj => HZ.out j (by rw [HE.out]; exact hj))).symm, (by repeat (first | exact Drawn0.refl _ | apply Drawn0.step))⟩
  · have hlb : ((a.length : Int) != b.length) = true := by rw [bne_iff_ne]; omega
    have HN : Aside0 (sameB a b = false) := ⟨decide_eq_false (fun h => hl (by rw [h]))⟩
    clear hl
    go_enter Try.func20, Try.ntmps20
    go_wp2
    go_ret
    exact ⟨ret_b HN.out.symm, Drawn0.refl _⟩
end Go.Proofs.Ytbenhcognapdpaa
