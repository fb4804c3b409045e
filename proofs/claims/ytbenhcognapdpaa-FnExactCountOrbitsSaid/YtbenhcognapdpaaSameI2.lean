/- Walk: the program's answer whether two points are in one orbit. -/
import Derived.Test.YtbenhcognapdpaaSameI
import Derived.Test.YtbenhcognapdpaaOrbI
set_option linter.unusedVariables false
set_option linter.unusedSimpArgs false
namespace Go.Proofs.Ytbenhcognapdpaa
open Go.RowKit Go.Proofs.YtbenhcognapdpaaW.PrintWords Go.Proofs.YtbenhcognapdpaaW.PrintLast Lin

theorem rows_lit2 {W : World} {A A' : Option Addr} {c c' e : Nat} {x y : List Int} (hx : kI.C W A x.length x) (hc : x.length ≤ c) (hy : kI.C W A' y.length y) (hc' : y.length ≤ c') :
    kR.C (W.alloc (.cells #[.slice A x.length c, .slice A' y.length c'] e)) (some ⟨W.heap.size, 0, none⟩) 2 [x, y] := by
  have H := Blk.new W #[.slice A x.length c, .slice A' y.length c'] e
  have hb := below_alloc (Below.refl W.heap.size W) (.cells #[.slice A x.length c, .slice A' y.length c'] e)
  refine ⟨rfl, by omega, fun _ => ⟨_, rfl, fun j p hj => ?_⟩⟩
  match j, hj with
  | 0, hj =>
    cases hj
    refine ⟨[.slice A x.length c], rfl, ⟨A, c, rfl, hc, Kd.C_below hx hb⟩, fun i u hu => ?_⟩
    match i, hu with
    | 0, hu => cases hu; exact H.cell 0 rfl
  | 1, hj =>
    cases hj
    refine ⟨[.slice A' y.length c'], rfl, ⟨A', c', rfl, hc', Kd.C_below hy hb⟩, fun i u hu => ?_⟩
    match i, hu with
    | 0, hu => cases hu; exact H.cell 1 rfl

set_option maxRecDepth 100000 in
set_option maxHeartbeats 800000 in
theorem implSame_calls (p n : Int) (A : Option Addr) (q c : Nat) (l : List (List Int)) (A1 : Option Addr) (q1 c1 : Nat) (x : List Int) (A2 : Option Addr) (q2 c2 : Nat) (y : List Int) (w : World) (hr : kM.C w A q l) (hl : ∀ m ∈ l, IsM m) (hr1 : kI.C w A1 q1 x) (hc1 : q1 ≤ c1) (hr2 : kI.C w A2 q2 y) (hc2 : q2 ≤ c2) :
    Calls Try.prog 18 #[.agg #[.int .i64 p, .int .i64 n, .slice A q c], .slice A1 q1 c1, .slice A2 q2 c2] w fun e w' => e = .returned (.tuple #[.bool (sameR p n l x y).1, .int .i64 (sameR p n l x y).2]) ∧ Below w.heap.size w w' := by
  obtain rfl := Kd.C_len hr1
  obtain rfl := Kd.C_len hr2
  have HR := Aside0.mk hr
  have HR2 := Aside0.mk hr2
  have HL := Aside0.mk hl
  have hbox := below_alloc (Below.refl w.heap.size w) (.cells #[.int .i64 p, .int .i64 n, .slice A q c] 44)
  have hrl := rows_lit2 (e := 38) (Kd.C_below hr1 hbox) hc1 (Kd.C_below hr2 hbox) hc2
  rw [size_alloc] at hrl
  have HLIT := Aside0.mk hrl
  clear hrl
  have hlit := below_alloc hbox (.cells #[.slice A1 x.length c1, .slice A2 y.length c2] 38)
  have HB0 := Aside0.mk hlit
  have HKP := Aside0.mk (pointCode_calls p n A q c l _ 2 2 [x, y] _ (Kd.C_below hr hlit) hl HLIT.out)
  have HR1 := Aside0.mk hr1
  clear hr hr1 hr2 hl hbox hlit hc1 hc2 HLIT
  have H1 := Blk.new w #[.int .i64 p, .int .i64 n, .slice A q c] 44
  by_cases hz : ptCode p n l [x, y] = 0
  · obtain ⟨hok, hpx, hpy⟩ := code_zero hz
    have hP := primeB_iff.1 hok.prime
    have hpp := hP.pos
    have hvv : 1 ≤ n ∧ n ≤ 3 := of_decide_eq_true hok.vars
    have hl1 := hok.least
    have hl48 := hok.most
    obtain ⟨n, rfl⟩ : ∃ k : Nat, n = k := ⟨n.toNat, by omega⟩
    have HN := Aside0.mk (sameR_mem hok hpx hpy)
    have HPX := Aside0.mk (pointB_pt.1 hpx)
    have HKO := Aside0.mk (fun W (h : Below w.heap.size w W) => orbitOfPoint_calls p n A q c l A1 x.length c1 x W (Kd.C_below HR.out h) HL.out (Kd.C_below HR1.out h) (by omega) (by omega) (by omega) (by omega) HPX.out hl48 hl1)
    rw [hz] at HKP
    clear hok hpx hpy hP hz
    obtain ⟨zs, hzs⟩ : ∃ zs, zs = orbitS p n l x := ⟨_, rfl⟩
    rw [← hzs] at HN HKO
    clear hzs
    go_enter Try.func18, Try.ntmps18
    go_wp2_with (first
      | (refine load_blk rfl _ 3 rfl H1 rfl _ Try.underlying44 rfl sizeG ?_)
      | (refine load_blk rfl _ 3 rfl (H1.alloc _) rfl _ Try.underlying44 rfl sizeG ?_)
      | (go_at_call 42; refine HKP.out.mono ?_; rintro e w1 ⟨rfl, hb⟩; have H2 := (H1.alloc _).keep hb; have HB := Aside0.mk (below_step HB0.out hb); clear hb)
      | (refine load_blk rfl _ 3 rfl H2 rfl _ Try.underlying44 rfl sizeG ?_)
      | (go_at_call 43; refine (HKO.out _ HB.out).mono ?_; rintro e w2 ⟨A3, c3, rfl, hC, hb⟩; have HZ := Aside0.mk hC; replace HB := Aside0.mk (below_step HB.out hb); clear hC hb))
    go_loopw [23] (fun v wr => ∃ k : Nat, v = .int .i64 k ∧ k ≤ zs.length ∧ Aside0 (∀ j < k, ntR zs j ≠ y) ∧ Aside0 (Below w2.heap.size w2 wr)) (fun v _ => zs.length - (intOf v).toNat)
    case atStart => exact ⟨0, rfl, by omega, ⟨fun j hj => by omega⟩, ⟨Below.refl _ _⟩⟩
    case round =>
      obtain ⟨k, rfl, hk, HE, HB2⟩ := hrel
      have hmz := Kd.C_max HZ.out
      by_cases hlt : k < zs.length
      · obtain ⟨ad, A4, c4, r, hrr, rfl, hc, hrc, hC⟩ := at_row (Kd.C_below HZ.out HB2.out) k hlt
        have HC := Aside0.mk hC
        have HRR := Aside0.mk hrr
        have HCY := Aside0.mk (Kd.C_below HR2.out (below_step HB.out HB2.out))
        have hd3 : decide ((k : Int) < zs.length) = true := decide_eq_true (by omega)
        clear hC hrr
        cases hs : sameB r y
        · have HE2 : Aside0 (∀ j < k + 1, ntR zs j ≠ y) := ⟨fun j hj => by
            rcases Nat.lt_succ_iff_lt_or_eq.1 hj with h | h
            · exact HE.out j h
            · subst h; rw [← HRR.out]; exact of_decide_eq_false hs⟩
          go_wp2_with ((go_at_call 44; refine (equal_calls A4 r.length c4 r A2 y.length c2 y _ HC.out HCY.out).mono ?_; rw [hs]; rintro e w3 ⟨rfl, hd⟩; replace HB2 := Aside0.mk (below_step HB2.out hd.below); clear hd))
          go_roundw
          case rel => exact ⟨k + 1, by go_num, by omega, HE2, HB2⟩
          case measure => simp [intOf]; omega
        · have HN2 : Aside0 (sameR p n l x y = (true, 0)) := ⟨by
            rw [HN.out]
            have : y ∈ zs := by rw [← show r = y from of_decide_eq_true hs, HRR.out]; exact ntR_mem zs k hlt
            rw [decide_eq_true this]⟩
          go_wp2_with ((go_at_call 44; refine (equal_calls A4 r.length c4 r A2 y.length c2 y _ HC.out HCY.out).mono ?_; rw [hs]; rintro e w3 ⟨rfl, hd⟩; replace HB2 := Aside0.mk (below_step HB2.out hd.below); clear hd))
          refine bodyPost_ret (results_tmp2 rfl _ _ _) rfl ?_
          exact ⟨by rw [HN2.out]; rfl, below_step HB.out HB2.out⟩
      · have HN2 : Aside0 (sameR p n l x y = (false, 0)) := ⟨by
          rw [HN.out]
          have : ¬ y ∈ zs := fun hm => by
            obtain ⟨j, hj, e⟩ := List.mem_iff_getElem.1 hm
            exact HE.out j (by omega) (by rw [ntR_eq zs j hj]; exact e)
          rw [decide_eq_false this]⟩
        go_wp2
        refine bodyPost_ret (results_tmp2 rfl _ _ _) rfl ?_
        exact ⟨by rw [HN2.out]; rfl, below_step HB.out HB2.out⟩
  · have HN := Aside0.mk (sameR_bad hz)
    obtain ⟨z, hzz⟩ : ∃ z, z = ptCode p n l [x, y] := ⟨_, rfl⟩
    rw [← hzz] at HKP HN hz
    have hb : (z != 0) = true := by simpa using hz
    clear hz hzz
    go_enter Try.func18, Try.ntmps18
    go_wp2_with (first
      | (refine load_blk rfl _ 3 rfl H1 rfl _ Try.underlying44 rfl sizeG ?_)
      | (go_at_call 42; refine HKP.out.mono ?_; rintro e w1 ⟨rfl, hb⟩; have HB := Aside0.mk (below_step HB0.out hb); clear hb))
    refine bodyPost_ret (results_tmp2 rfl _ _ _) rfl ?_
    exact ⟨by rw [HN.out]; rfl, HB.out⟩
end Go.Proofs.Ytbenhcognapdpaa
