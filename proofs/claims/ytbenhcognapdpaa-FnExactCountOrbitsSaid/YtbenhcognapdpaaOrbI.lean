/- Walk: the program's orbit of a point. -/
import Derived.Test.YtbenhcognapdpaaCompact
import Derived.Test.YtbenhcognapdpaaSortR2
import Derived.Test.YtbenhcognapdpaaOrbW3
import Derived.Test.YtbenhcognapdpaaOrbW2
set_option linter.unusedVariables false
set_option linter.unusedSimpArgs false
namespace Go.Proofs.Ytbenhcognapdpaa
open Go.RowKit Go.Proofs.YtbenhcognapdpaaW.PrintWords Go.Proofs.YtbenhcognapdpaaW.PrintLast Lin

/-- What sorting and compacting the led points leaves is the orbit. -/
theorem orbit_eq {p : Int} {n : Nat} {l : List (List Int)} {x : List Int} {ys zs : List (List Int)} (h1 : ys.Perm (l.map (leadV p n x))) (h2 : Sorted zs) (h3 : ∀ r, r ∈ zs ↔ r ∈ ys) : zs = orbitS p n l x := by
  refine sorted_ext h2 (orbitS_sorted ..) fun r => ?_
  rw [h3, h1.mem_iff, orbitS_mem, List.mem_map]
  simp [eq_comm]

set_option maxRecDepth 100000 in
set_option maxHeartbeats 4000000 in
theorem orbitOfPoint_calls (p : Int) (n : Nat) (A : Option Addr) (q c : Nat) (l : List (List Int)) (A' : Option Addr) (q' c' : Nat) (x : List Int) (w : World) (hr : kM.C w A q l) (hl : ∀ m ∈ l, IsM m) (hr' : kI.C w A' q' x)
    (hp : 0 < p) (hp2 : p ≤ 1000) (hn1 : 1 ≤ n) (hn : n ≤ 3) (hx : Pt p n x) (hl48 : l.length ≤ 48) (hl1 : 1 ≤ l.length) :
    Calls Try.prog 43 #[.agg #[.int .i64 p, .int .i64 n, .slice A q c], .slice A' q' c'] w fun e w' => ∃ A2 c2, e = .returned (.slice A2 (orbitS p n l x).length c2) ∧ kR.C w' A2 (orbitS p n l x).length (orbitS p n l x) ∧ Below w.heap.size w w' := by
  obtain rfl := Kd.C_len hr
  obtain rfl := Kd.C_len hr'
  have HR := Aside0.mk hr
  have HL := Aside0.mk hl
  have HR' := Aside0.mk hr'
  have HX := Aside0.mk (show x.length = n ∧ InR p x from hx)
  clear hr hl hr' hx
  obtain ⟨wb, hwb⟩ : ∃ wb, wb = w.alloc (.cells #[.int .i64 p, .int .i64 n, .slice A l.length c] 44) := ⟨_, rfl⟩
  have H1b : Blk wb w.heap.size 44 #[.int .i64 p, .int .i64 n, .slice A l.length c] := hwb ▸ Blk.new w _ _
  have hwbs : wb.heap.size = w.heap.size + 1 := by rw [hwb, size_alloc]
  have HWB := Aside0.mk (show Below w.heap.size w wb from hwb ▸ below_alloc (Below.refl _ _) _)
  have H00 := Blk.new w #[.int .i64 p, .int .i64 n, .slice A l.length c] 44
  go_enter Try.func43, Try.ntmps43
  go_wp2
  clear H00
  go_loopw [5, 12] (fun v5 v12 wr => ∃ i : Nat, v12 = .int .i64 i ∧ i ≤ l.length ∧ Aside0 (kR.R 38 wr wb.heap.size (fun _ => True) v5 ((l.take i).map (leadV p n x))) ∧ Aside0 (Below wb.heap.size wb wr)) (fun _ v12 _ => l.length - (intOf v12).toNat)
  case atStart => exact ⟨0, rfl, by omega, ⟨by rw [hwbs]; exact R_litAt kR _ _ _ (by rw [size_alloc]) (by rw [size_alloc]; exact Nat.le_refl _)⟩, ⟨by rw [hwb]; exact below_alloc (Below.refl _ _) _⟩⟩
  case round =>
    obtain ⟨i, rfl, hi, HO, HB⟩ := hrel
    have H1 := H1b.keep HB.out
    by_cases hlt : i < l.length
    · obtain ⟨ad, m, hmm, rfl, hm9, hc⟩ := mat_at HR.out i hlt
      have HM : Aside0 (IsM m) := ⟨HL.out m (hmm ▸ ntR_mem l i hlt)⟩
      have HC := Aside0.mk (hc.below (below_step HWB.out HB.out))
      have HNX : Aside0 ((l.take (i + 1)).map (leadV p n x) = (l.take i).map (leadV p n x) ++ [leadV p n x m]) := ⟨by rw [take_succ_ntR l i hlt, List.map_append, ← hmm]; rfl⟩
      clear hmm hc
      obtain ⟨out, hout⟩ : ∃ out, out = (l.take i).map (leadV p n x) := ⟨_, rfl⟩
      have hol : out.length ≤ 48 := by rw [hout, List.length_map, List.length_take]; omega
      rw [← hout] at HO HNX
      clear hout
      obtain ⟨A5, c5, rfl, hc5, hC5⟩ := Kd.R_reads HO.out
      clear hC5
      have hd3 : decide ((i : Int) < l.length) = true := decide_eq_true (by omega)
      have Hz := Blk.new wr (mcells [0, 0, 0, 0, 0, 0, 0, 0, 0]) 103
      have H7 := Hz.setRow (mcells m)
      have hb4 := below_setRow (below_alloc (Below.refl wr.heap.size wr) (.cells (mcells [0, 0, 0, 0, 0, 0, 0, 0, 0]) 103)) (Nat.le_refl _) (mcells m)
      have HO4 := Aside0.mk (Kd.R_below HO.out hb4)
      replace H1 := H1.keep hb4
      replace HB := Aside0.mk (below_step HB.out hb4)
      have k0 : ((wr.alloc (.cells #[.int .u8 0, .int .u8 0, .int .u8 0, .int .u8 0, .int .u8 0, .int .u8 0, .int .u8 0, .int .u8 0, .int .u8 0] 103)).setRow wr.heap.size (mcells m)).cell? ⟨w.heap.size, 0, none⟩ = some (.int .i64 p) := H1.cell 0 rfl
      have k1 : ((wr.alloc (.cells #[.int .u8 0, .int .u8 0, .int .u8 0, .int .u8 0, .int .u8 0, .int .u8 0, .int .u8 0, .int .u8 0, .int .u8 0] 103)).setRow wr.heap.size (mcells m)).cell? ⟨w.heap.size, 1, none⟩ = some (.int .i64 n) := H1.cell 1 rfl
      have HX' := Aside0.mk (Kd.C_below HR'.out (below_step HWB.out HB.out))
      clear hb4 HO
      go_wp2_with (first
        | (refine store_blk rfl _ 7 _ rfl Hz rfl rfl (sizeM_of hm9) (by rw [mcells_size, mcells_size, hm9]; rfl) (mcells_one _) ?_)
        | (refine load_agg rfl _ 14 rfl (ad.add (i * 9)) HC.out rfl _ Try.underlying103 rfl (sizeM_of hm9) ?_)
        | (refine load_blk rfl _ 7 rfl H7 rfl _ Try.underlying103 rfl (sizeM_of hm9) ?_)
        | (go_at_call 89; refine (led_calls p n A' x.length c' x m _ HX'.out hp hp2 hn1 hn HM.out HX.out.1 HX.out.2).mono ?_; rintro e w5 ⟨v23, rfl, ho, hb⟩; obtain ⟨A23, c23, rfl⟩ := Kd.R_slice ho; have HP := Aside0.mk (Kd.R_lower (Kd.R_mono (Kd.R_newR ho HO4.out) (fun _ h => h.2)) HB.out.size); replace HO4 := Aside0.mk (Kd.R_below HO4.out hb); replace HB := Aside0.mk (below_step HB.out hb); clear ho hb)
        | (at_builtin; go_must (refine app_row (w0 := wb) rfl (.tmp 16) (.tmp 24) _ rfl Try.underlying65 infoR (.slice A5 out.length c5) out (.slice A23 (leadV p n x m).length c23) (leadV p n x m) rfl rfl HP.out HO4.out HB.out (by omega) ?_); intro v9 w9 ho hb _ _; have H9 := Aside0.mk ho; replace HB := Aside0.mk hb; clear ho hb))
      go_roundw
      case rel => exact ⟨i + 1, by go_num, by omega, ⟨by rw [HNX.out]; exact H9.out⟩, HB⟩
      case measure => simp [intOf]; omega
    · obtain rfl : i = l.length := by omega
      rw [List.take_length] at HO
      have HE := Aside0.mk (rfl : l.map (leadV p n x) = l.map (leadV p n x))
      obtain ⟨out, hout⟩ : ∃ out, out = l.map (leadV p n x) := ⟨_, rfl⟩
      have hol : 1 ≤ out.length ∧ out.length ≤ 48 := by rw [hout, List.length_map]; omega
      rw [← hout] at HO
      have HOUT := Aside0.mk hout
      clear hout HE
      obtain ⟨g, cap, rfl, hg1, hg2, cells, hcell⟩ := Kd.R_form HO.out (by omega)
      clear hcell hg2
      have HBS := Aside0.mk HB.out.size
      go_wp2_with (first
        | (go_at_call 90; refine (sortRows_calls HO.out (by omega) HBS.out).mono ?_; rintro e w5 ⟨rfl, ys, hperm, hpw, hR, hb⟩; have HY := Aside0.mk hR; have HPW := Aside0.mk hpw; have HPM := Aside0.mk hperm; replace HB := Aside0.mk (HB.out.trans hb); clear hR hpw hperm hb)
        | (go_at_call 92; refine (compactFunc_calls HY.out HPW.out (by omega)).mono ?_; rintro e w6 ⟨zs, rfl, hs, hmem, hC, hb⟩; have HZ := Aside0.mk (And.intro hs (And.intro hmem hC)); replace HB := Aside0.mk (HB.out.trans hb); clear hs hmem hC hb))
      go_ret
      obtain ⟨hs, hmem, hC⟩ := HZ.out
      obtain rfl := orbit_eq (by rw [← HOUT.out]; exact HPM.out) hs hmem
      exact ⟨_, _, rfl, hC, below_step HWB.out HB.out⟩
end Go.Proofs.Ytbenhcognapdpaa
