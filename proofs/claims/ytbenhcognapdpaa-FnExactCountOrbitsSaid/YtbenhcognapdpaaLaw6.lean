/- Walks: the laws' copies of lists of matrices and of groups. -/
import Derived.Test.YtbenhcognapdpaaLaw5
set_option linter.unusedVariables false
set_option linter.unusedSimpArgs false
namespace Go.Proofs.Ytbenhcognapdpaa
open Go.RowKit Go.Proofs.YtbenhcognapdpaaW.PrintWords Go.Proofs.YtbenhcognapdpaaW.PrintLast Lin

def zero9 : List Int := [0, 0, 0, 0, 0, 0, 0, 0, 0]
def cpM (l : List (List Int)) (j : Nat) : List (List Int) := l.take j ++ List.replicate (l.length - j) zero9
theorem cpM_len (l : List (List Int)) (j : Nat) (h : j ≤ l.length) : (cpM l j).length = l.length := by simp [cpM]; omega
theorem cpM_zero (l : List (List Int)) : List.replicate l.length zero9 = cpM l 0 := by simp [cpM]
theorem cpM_set (l : List (List Int)) (j : Nat) (hj : j < l.length) : (cpM l j).set j (ntR l j) = cpM l (j + 1) := by
  unfold cpM
  rw [take_succ_ntR l j hj, List.set_append]
  rw [if_neg (by simp; omega), show l.length - j = (l.length - (j + 1)) + 1 by omega, List.replicate_succ]
  have : j - (l.take j).length = 0 := by rw [List.length_take]; omega
  rw [this, List.set_cons_zero, List.append_assoc]
  rfl
theorem cpM_done (l : List (List Int)) : cpM l l.length = l := by simp [cpM]
theorem infoM : (Try.prog.info? 103).map (fun i => (i.zero, i.size, i.bytes)) = some (some (.agg #[.int .u8 0, .int .u8 0, .int .u8 0, .int .u8 0, .int .u8 0, .int .u8 0, .int .u8 0, .int .u8 0, .int .u8 0]), 9, 9) := by kernel_rfl
theorem kM_of {w : World} {base : Nat} {ok : Nat → Prop} {m : List Int} (h : m.length = 9) : kM.M w base ok m (mcells m).toList := by
  have := Kd.arr_of_cells (n := 9) (enc := Value.int .u8) (h1 := fun _ => rfl) (hs := by decide) (w := w) (base := base) (ok := ok) h
  rw [show (mcells m).toList = encs (Value.int .u8) m by simp [mcells]]
  exact this
section
variable {P : Program} {ops : Array Oper} {rest : List Oper} {o : Oper} {a : Act} {Q : Exit → Act → World → Prop}
theorem make_mat {W : World} (hgd : o.guard = none) {N : Tmp} (hd : o.dst = some N) (t : TypeId) (x y : Operand) (ho : o.op = .makeSlice t x y) (n : Int) (hx : a.eval x = .int .i64 n) (hy : a.eval y = .int .i64 n)
    (ht : P.underlying t = some (.slice 103)) (hinfo : (P.info? 103).map (fun i => (i.zero, i.size, i.bytes)) = some (some (.agg #[.int .u8 0, .int .u8 0, .int .u8 0, .int .u8 0, .int .u8 0, .int .u8 0, .int .u8 0, .int .u8 0, .int .u8 0]), 9, 9)) (h0 : 0 ≤ n) (hl : n ≤ 1000000000)
    (h : ∀ v1 w1, kM.R 103 w1 W.heap.size (fun _ => True) v1 (List.replicate n.toNat zero9) → Below W.heap.size W w1 → wpList P ops Q rest (a.put o.dst v1) w1) : wpList P ops Q (o :: rest) a W :=
  Kd.R_make kM (w0 := W) W.heap.size 103 hgd hd t x y ho n hx hy ht (.agg #[.int .u8 0, .int .u8 0, .int .u8 0, .int .u8 0, .int .u8 0, .int .u8 0, .int .u8 0, .int .u8 0, .int .u8 0]) 9 hinfo rfl (by decide) (by omega) zero9 (ok := fun _ => True) (okp := fun _ => False) (kM_of (m := zero9) rfl) (fun _ h => h.elim) trivial h0 (by omega) (Below.refl _ _) (Nat.le_refl _) fun v1 w1 h1 h2 _ _ => h v1 w1 h1 h2
theorem store_mat {W w0 : World} {base : Nat} (hN : o.dst = none) (hgd : o.guard = none) (t : TypeId) (p x : Operand) (ho : o.op = .store t p x) {g n cap : Nat} (i : Nat) (xs : List (List Int)) (m : List Int) (hm : m.length = 9)
    (haddr : a.eval p = .pointer (some ⟨g, i * 9, none⟩)) (hx : a.eval x = .agg (mcells m)) (ht : (P.info? t).map (·.size) = some (mcells m).size)
    (HO : kM.R 103 W base (fun _ => True) (.slice (some ⟨g, 0, none⟩) n cap) xs) (hi : i < n) (HB : Below base w0 W)
    (h : ∀ w1, kM.R 103 w1 base (fun _ => True) (.slice (some ⟨g, 0, none⟩) n cap) (xs.set i m) → Below base w0 w1 → W.grownBy w1 (some g) → wpList P ops Q rest a w1) : wpList P ops Q (o :: rest) a W := by
  obtain ⟨c, hcl, _, hcc, _⟩ := Kd.R_elem HO [] (i : Int) (by omega) (by omega)
  have hl9 : (mcells m).toList.length = 9 := by simp [mcells_size, hm]
  have hk9 : kM.sz = 9 := rfl
  refine Kd.R_store kM base hN hgd t p x ho 103 (i : Int) 0 xs m (.agg (mcells m)) (mcells m).toList c (fun _ => True) (fun _ => False) haddr rfl hx rfl (by simpa using ht) ?_ HO (by omega) (by omega) hcl hcc (by rw [hl9, hk9]; omega) ?_ (fun _ h => h.elim) HB h
  · intro q hq
    have := mcells_one m
    rw [Array.all_eq_true_iff_forall_mem] at this
    exact this q (by simpa using hq)
  · rw [List.take_zero, List.nil_append, Nat.zero_add, List.drop_of_length_le (by rw [hcl, hl9]; exact Nat.le_refl _), List.append_nil]
    exact kM_of hm
end
theorem size33 {m : List Int} (h : m.length = 9) : (Try.prog.info? 102).map (·.size) = some (mcells m).size := by
  rw [mcells_size, h]
  kernel_rfl

set_option maxRecDepth 100000 in
set_option maxHeartbeats 1000000 in
theorem toMatrixS_calls (A : Option Addr) (n c : Nat) (l : List (List Int)) (w : World) (hr : kM.C w A n l) (hl : n ≤ 1048576) :
    Calls Try.prog 41 #[.slice A n c] w fun e w' => ∃ v, e = .returned v ∧ kM.R 103 w' w.heap.size (fun _ => True) v l ∧ Below w.heap.size w w' := by
  obtain rfl := Kd.C_len hr
  have HR := Aside0.mk hr
  clear hr
  by_cases h0 : l.length = 0
  · obtain rfl : l = [] := List.eq_nil_of_length_eq_zero h0
    go_enter Try.func41, Try.ntmps41
    go_wp2_with ((refine make_mat rfl rfl _ (.tmp 6) (.tmp 6) rfl 0 rfl rfl Try.underlying42 infoM (by omega) (by omega) ?_; intro v1 w1 ho1 hb1; have HO := Aside0.mk ho1; have HB := Aside0.mk hb1; clear ho1 hb1))
    go_loopw [4] (fun v wr => v = .int .i64 0 ∧ wr = w1) (fun _ _ => 0)
    case atStart => exact ⟨rfl, rfl⟩
    case round =>
      obtain ⟨rfl, rfl⟩ := hrel
      go_wp2
      go_ret
      exact ⟨_, rfl, HO.out, HB.out⟩
  · go_enter Try.func41, Try.ntmps41
    go_wp2_with ((refine make_mat rfl rfl _ (.tmp 6) (.tmp 6) rfl l.length rfl rfl Try.underlying42 infoM (by omega) (by omega) ?_; intro v1 w1 ho1 hb1; rw [Int.toNat_natCast, cpM_zero l] at ho1; obtain ⟨g, cap, hv1, hg1, hg2, cells, hcell⟩ := Kd.R_form ho1 (by rw [cpM_len _ _ (by omega)]; omega); rw [cpM_len _ _ (by omega)] at hv1; subst hv1; have HO := Aside0.mk ho1; have HB := Aside0.mk hb1; clear ho1 hb1 hcell))
    go_loopw [4] (fun v wr => ∃ j : Nat, v = .int .i64 j ∧ j ≤ l.length ∧ Aside0 (kM.R 103 wr w.heap.size (fun _ => True) (.slice (some ⟨g, 0, none⟩) l.length cap) (cpM l j)) ∧ Aside0 (Below w.heap.size w wr)) (fun v _ => l.length - (intOf v).toNat)
    case atStart => exact ⟨0, rfl, by omega, HO, HB⟩
    case round =>
      clear HO HB
      obtain ⟨j, rfl, hj, HO, HB⟩ := hrel
      by_cases hlt : j < l.length
      · obtain ⟨ad, m, hmm, rfl, hm9, hc⟩ := mat_at HR.out j hlt
        have HC := Aside0.mk (hc.below HB.out)
        have HS := Aside0.mk (show (cpM l j).set j m = cpM l (j + 1) from hmm ▸ cpM_set l j hlt)
        have HK := Aside0.mk (fun W => toMatrix_calls m W hm9)
        clear hmm hc
        go_wp2_with (first
          | (refine load_agg rfl _ 18 rfl (ad.add (j * 9)) HC.out rfl _ Try.underlying102 rfl (size33 hm9) ?_)
          | (go_at_call 87; refine (HK.out _).mono ?_; rintro e w2 ⟨rfl, hb⟩; replace HO := Aside0.mk (Kd.R_below HO.out hb); replace HB := Aside0.mk (below_step HB.out hb); clear hb)
          | (refine store_mat (base := w.heap.size) (w0 := w) rfl rfl _ (.tmp 21) (.tmp 20) rfl (g := g) (n := l.length) (cap := cap) j (cpM l j) m hm9 rfl rfl (sizeM_of hm9) HO.out hlt HB.out ?_; intro w3 ho hb hg; replace HO := Aside0.mk ho; replace HB := Aside0.mk hb; clear ho hb hg))
        go_roundw
        case rel => exact ⟨j + 1, by go_num, by omega, ⟨by rw [← HS.out]; exact HO.out⟩, HB⟩
        case measure => simp [intOf]; omega
      · have HE : Aside0 (cpM l j = l) := ⟨by rw [show j = l.length by omega]; exact cpM_done l⟩
        go_wp2
        go_ret
        exact ⟨_, rfl, by have h := HO.out; rw [HE.out] at h; exact h, HB.out⟩

/-- A function that hands back a group in a cell of its own. -/
theorem ret_grp {fn : Func} {p : Tmp} (h : fn.results = #[.cell p 44]) {R : Ending → World → Prop} {a : Act} {w : World} {g t : Nat} {cs : Array Value} (H : Blk w g t cs) (hm : cs.size = 3) (hp : a.tmps.getD p undef = .pointer (some ⟨g, 0, none⟩)) (hd : a.defers = [])
    (hR : R (.returned (.agg cs)) w) : bodyPost Try.prog fn R .ret a w :=
  ⟨hd, _, results_cell_row h a.tmps w g t cs (0, 0) _ hp H Try.underlying44 rfl (by rw [hm]; exact sizeG), hR⟩
set_option maxRecDepth 100000 in
set_option maxHeartbeats 1000000 in
theorem toGroup_calls (p n : Int) (A : Option Addr) (q c : Nat) (l : List (List Int)) (w : World) (hr : kM.C w A q l) (hl : q ≤ 1048576) :
    Calls Try.prog 16 #[.agg #[.int .i64 p, .int .i64 n, .slice A q c]] w fun e w' => ∃ A' c', e = .returned (.agg #[.int .i64 p, .int .i64 n, .slice A' l.length c']) ∧ kM.C w' A' l.length l ∧ Below w.heap.size w w' := by
  obtain rfl := Kd.C_len hr
  have hb3 := below_alloc (below_alloc (below_alloc (Below.refl w.heap.size w) (.cells #[.int .i64 p, .int .i64 n, .slice A l.length c] 37)) (.cells #[.int .i64 0, .int .i64 0, .slice none 0 0] 44)) (.cells #[.int .i64 p, .int .i64 n, .slice none 0 0] 44)
  have HB3 := Aside0.mk hb3
  have HK := Aside0.mk (toMatrixS_calls A l.length c l _ (Kd.C_below hr hb3) hl)
  have H1 := Blk.new1 w (.cells #[.int .i64 p, .int .i64 n, .slice A l.length c] 37) #[.int .i64 0, .int .i64 0, .slice none 0 0] 44
  have H2 := Blk.new2 w (.cells #[.int .i64 p, .int .i64 n, .slice A l.length c] 37) (.cells #[.int .i64 0, .int .i64 0, .slice none 0 0] 44) #[.int .i64 p, .int .i64 n, .slice none 0 0] 44
  clear hr hb3
  replace H1 := Aside0.mk (H1.alloc (.cells #[.int .i64 p, .int .i64 n, .slice none 0 0] 44))
  replace H2 := Aside0.mk H2
  go_enter Try.func16, Try.ntmps16
  go_wp2_with (first
    | (go_at_call 41; refine HK.out.mono ?_; rintro e w1 ⟨v, rfl, ho, hb⟩; obtain ⟨A1, c1, rfl⟩ := Kd.R_slice ho; have G1 := H1.out.keep hb; have G2 := H2.out.keep hb; have k2 := G2.cell 2 rfl; have f2 := G2.frozen 2; have HO := Aside0.mk ho; have HB := Aside0.mk (below_step HB3.out hb); replace G1 := Aside0.mk G1; replace G2 := Aside0.mk G2; clear ho hb)
    | (refine load_blk rfl _ 3 rfl (G2.out.set 2 _) rfl _ Try.underlying44 rfl sizeG ?_)
    | (refine gate_ (.store 44 (.tmp 2) (.tmp 14)) rfl ?_; go_must (refine store_blk (cs := #[.int .i64 p, .int .i64 n, .slice A1 l.length c1]) rfl _ 2 _ rfl (G1.out.far (p := ⟨w.heap.size + 1 + 1, 2, none⟩) (by dsimp only; omega) _) rfl rfl sizeG rfl (by simp [Value.oneCell']) ?_)))
  refine ret_grp (p := 2) rfl ((G1.out.far (p := ⟨w.heap.size + 1 + 1, 2, none⟩) (by dsimp only; omega) _).setRow _) rfl rfl rfl ?_
  have hsz : (((w.alloc (.cells #[.int .i64 p, .int .i64 n, .slice A l.length c] 37)).alloc (.cells #[.int .i64 0, .int .i64 0, .slice none 0 0] 44)).alloc (.cells #[.int .i64 p, .int .i64 n, .slice none 0 0] 44)).heap.size = w.heap.size + 3 := by simp
  refine ⟨A1, c1, rfl, ?_, below_setRow (HB.out.setCell (by dsimp only; omega) _) (by omega) _⟩
  have h := Kd.R_bound HO.out
  rw [hsz] at h
  have h2 := Kd.R_step (w1 := w1.setCell ⟨w.heap.size + 1 + 1, 2, none⟩ (.slice A1 l.length c1)) h (fun k hk _ => Below.heap_setCell w1 ⟨w.heap.size + 1 + 1, 2, none⟩ _ k (by have := hk.2.1; dsimp only; omega))
  have h3 := Kd.R_step (w1 := (w1.setCell ⟨w.heap.size + 1 + 1, 2, none⟩ (.slice A1 l.length c1)).setRow (w.heap.size + 1) #[.int .i64 p, .int .i64 n, .slice A1 l.length c1]) h2 (fun k hk _ => setRow_other _ _ k _ (by have := hk.2.1; omega))
  exact (Kd.R_reads' h3).2.2
end Go.Proofs.Ytbenhcognapdpaa
