/- Walk: the program's code of a group and points. -/
import Derived.Test.YtbenhcognapdpaaGrp2
import Derived.Test.YtbenhcognapdpaaSmallW
import Derived.Test.YtbenhcognapdpaaOrbB
set_option linter.unusedVariables false
set_option linter.unusedSimpArgs false
namespace Go.Proofs.Ytbenhcognapdpaa
open Go.RowKit Go.Proofs.YtbenhcognapdpaaW.PrintWords Go.Proofs.YtbenhcognapdpaaW.PrintLast Lin

noncomputable def ptCode (p n : Int) (l pts : List (List Int)) : Int := if grpB p n l = true then (if pts.all (pointB p n) = true then 0 else 2) else 1
theorem all_bad {p n : Int} {pts : List (List Int)} {k : Nat} (hk : k < pts.length) (h : pointB p n (ntR pts k) = false) : pts.all (pointB p n) = false := by
  rw [List.all_eq_false]
  exact ⟨_, ntR_mem pts k hk, by simp [h]⟩
theorem all_ok {p n : Int} {pts : List (List Int)} (h : ∀ k < pts.length, pointB p n (ntR pts k) = true) : pts.all (pointB p n) = true := by
  rw [List.all_eq_true]
  intro x hx
  obtain ⟨k, hk, rfl⟩ := List.mem_iff_getElem.1 hx
  rw [← ntR_eq pts k hk]
  exact h k hk
set_option maxRecDepth 100000 in
set_option maxHeartbeats 1000000 in
theorem pointCode_calls (p n : Int) (A : Option Addr) (q c : Nat) (l : List (List Int)) (A2 : Option Addr) (q2 c2 : Nat) (pts : List (List Int)) (w : World) (hr : kM.C w A q l) (hl : ∀ m ∈ l, IsM m) (hr2 : kR.C w A2 q2 pts) :
    Calls Try.prog 42 #[.agg #[.int .i64 p, .int .i64 n, .slice A q c], .slice A2 q2 c2] w fun e w' => e = .returned (.int .i64 (ptCode p n l pts)) ∧ Below w.heap.size w w' := by
  obtain rfl := Kd.C_len hr2
  have hm2 := Kd.C_max hr2
  have HR2 := Aside0.mk hr2
  have hbox := below_alloc (Below.refl w.heap.size w) (.cells #[.int .i64 p, .int .i64 n, .slice A q c] 44)
  have HBX := Aside0.mk hbox
  have HKG := Aside0.mk (IsGroup_calls p n A q c l _ (Kd.C_below hr hbox) hl)
  clear hr hl hr2 hbox
  have H1 := Blk.new w #[.int .i64 p, .int .i64 n, .slice A q c] 44
  cases hgb : grpB p n l
  · have HN : Aside0 (ptCode p n l pts = 1) := ⟨by simp [ptCode, hgb]⟩
    rw [hgb] at HKG
    go_enter Try.func42, Try.ntmps42
    go_wp2_with (first
      | (refine load_blk rfl _ 2 rfl H1 rfl _ Try.underlying44 rfl sizeG ?_)
      | (go_at_call 47; refine HKG.out.mono ?_; rintro e w1 ⟨rfl, hb⟩; have HB := Aside0.mk hb; clear hb))
    go_ret
    exact ⟨ret_i HN.out.symm, below_step HBX.out HB.out⟩
  rw [hgb] at HKG
  go_enter Try.func42, Try.ntmps42
  go_wp2_with (first
    | (refine load_blk rfl _ 2 rfl H1 rfl _ Try.underlying44 rfl sizeG ?_)
    | (go_at_call 47; refine HKG.out.mono ?_; rintro e w1 ⟨rfl, hb⟩; replace H1 := H1.keep hb; have HB := Aside0.mk (below_step HBX.out hb); clear hb))
  go_loopw [12] (fun v wr => ∃ k : Nat, v = .int .i64 k ∧ k ≤ pts.length ∧ Aside0 (∀ j < k, pointB p n (ntR pts j) = true) ∧ Blk wr w.heap.size 44 #[.int .i64 p, .int .i64 n, .slice A q c] ∧ Aside0 (Below w.heap.size w wr)) (fun v _ => pts.length - (intOf v).toNat)
  case atStart => exact ⟨0, rfl, by omega, ⟨fun j hj => by omega⟩, H1, HB⟩
  case round =>
    clear H1 HB
    obtain ⟨k, rfl, hk, HE, H1, HB⟩ := hrel
    by_cases hlt : k < pts.length
    · obtain ⟨ad, A0, c0, row, hrr, rfl, hc, hrc, hC⟩ := at_row (Kd.C_below HR2.out HB.out) k hlt
      have k0 := H1.cell 0 rfl
      have k1 := H1.cell 1 rfl
      have HC := Aside0.mk hC
      have HRR := Aside0.mk hrr
      clear hC hrr
      cases hpb : pointB p n row
      · have HN : Aside0 (ptCode p n l pts = 2) := ⟨by unfold ptCode; rw [if_pos hgb, all_bad hlt (by rw [← HRR.out]; exact hpb)]; rfl⟩
        go_wp2_with ((go_at_call 88; refine (isPoint_calls p n A0 row.length c0 row _ HC.out).mono ?_; rw [hpb]; rintro e w2 ⟨rfl, hd⟩; have HB2 := Aside0.mk (below_step HB.out hd.below); clear hd))
        go_ret
        exact ⟨ret_i HN.out.symm, HB2.out⟩
      · have HE2 : Aside0 (∀ j < k + 1, pointB p n (ntR pts j) = true) := ⟨fun j hj => by rcases Nat.lt_succ_iff_lt_or_eq.1 hj with h | h; exact HE.out j h; subst h; rw [← HRR.out]; exact hpb⟩
        go_wp2_with ((go_at_call 88; refine (isPoint_calls p n A0 row.length c0 row _ HC.out).mono ?_; rw [hpb]; rintro e w2 ⟨rfl, hd⟩; replace H1 := H1.keep hd.below; have HB2 := Aside0.mk (below_step HB.out hd.below); clear hd))
        go_roundw
        case rel => exact ⟨k + 1, by go_num, by omega, HE2, H1, HB2⟩
        case measure => simp [intOf]; omega
    · have HN : Aside0 (ptCode p n l pts = 0) := ⟨by unfold ptCode; rw [if_pos hgb, all_ok (fun j hj => HE.out j (by omega))]; rfl⟩
      go_wp2
      go_ret
      exact ⟨ret_i HN.out.symm, HB.out⟩
end Go.Proofs.Ytbenhcognapdpaa
