/- Own texts of this claim, in one file: Inv, Law1, Law2. -/
import Derived.Test.YtbenhcognapdpaaGreatKR9d
import Derived.Test.YtbenhcognapdpaaGreatKR9b
/- Walks: the specification's inverse of a matrix, and what it takes for a matrix. -/
set_option linter.unusedVariables false
set_option linter.unusedSimpArgs false
namespace Go.Proofs.YtbenhcognapdpaaGreat
open Go.RowKit Go.Proofs.YtbenhcognapdpaaGreatW.PrintWords Go.Proofs.YtbenhcognapdpaaGreatW.PrintLast Lin

theorem ret_mat2 {fn : Func} {p u : Tmp} (h : fn.results = #[.cell p 138, .tmp u]) {R : Ending → World → Prop} {a : Act} {w : World} {g t : Nat} {m : List Int} (H : Blk w g t (mcells m)) (hm : m.length = 9) (hp : a.tmps.getD p undef = .pointer (some ⟨g, 0, none⟩)) (hd : a.defers = [])
    (hR : R (.returned (.tuple #[.agg (mcells m), a.tmps.getD u undef])) w) : bodyPost Tryz.prog fn R .ret a w := by
  have hp' : a.tmps[p]?.getD undef = .pointer (some ⟨g, 0, none⟩) := by simpa using hp
  refine ⟨hd, _, ?_, hR⟩
  simp [results, h, hp', asAddr, run_loadVar_row w g t _ _ (0, 0) _ H Tryz.underlying138 rfl (sizeM_of hm)]

theorem size_alloc (w : World) (o : Obj) : (w.alloc o).heap.size = w.heap.size + 1 := by
  show (w.heap.push o).size = _
  simp
theorem R_litAt {α : Type} (d : Kd α) (e : Nat) (w : World) (B : Nat) {g : Nat} (hg : w.heap.size = g) (h : B ≤ w.heap.size) : d.R e (w.alloc (.cells #[] e)) B (fun _ => True) (.slice (some ⟨g, 0, none⟩) 0 0) [] := by
  subst hg; exact R_lit0 d e w B h
section
variable {P : Program} {ops : Array Oper} {rest : List Oper} {o : Oper} {a : Act} {Q : Exit → Act → World → Prop}
theorem app_rowG {w0 W : World} {G : Nat} (hG : G = W.heap.size) (hgd : o.guard = none) (s x : Operand) (t : TypeId) (ho : o.op = .call { callee := .builtin .append, args := #[s, x], argTypes := #[t, t] })
    (ht : P.underlying t = some (.slice 84)) (hinfo : (P.info? 84).map (fun i => (i.zero, i.size, i.bytes)) = some (some (.slice none 0 0), 1, 24))
    (v : Value) (xs : List (List Int)) (u : Value) (p : List Int) (hs : a.eval s = v) (hx : a.eval x = .slice (some ⟨G, 0, none⟩) 1 1)
    (HP : kI.R 2 W w0.heap.size (fun k => some k ≠ v.ownBlock) u p)
    (HO : kR.R 84 W w0.heap.size (fun _ => True) v xs) (HB : Below w0.heap.size w0 W) (hl : xs.length < 1000000000000)
    (h : ∀ v1 w1, kR.R 84 w1 w0.heap.size (fun _ => True) v1 (xs ++ [p]) → Below w0.heap.size w0 w1 → W.grownBy w1 v.ownBlock → (v1.ownBlock = v.ownBlock ∨ ∃ b, v1.ownBlock = some b ∧ W.heap.size ≤ b) → wpList P ops Q rest (a.put o.dst v1) w1) :
    wpList P ops Q (o :: rest) a (W.alloc (.cells #[u] 84)) := by
  subst hG
  exact app_row hgd s x t ho ht hinfo v xs u p hs hx HP HO HB hl h
/-- make([]int64, n). -/
theorem make_int {W : World} (hgd : o.guard = none) {N : Tmp} (hd : o.dst = some N) (t : TypeId) (x y : Operand) (ho : o.op = .makeSlice t x y) (n : Int) (hx : a.eval x = .int .i64 n) (hy : a.eval y = .int .i64 n)
    (ht : P.underlying t = some (.slice 2)) (hinfo : (P.info? 2).map (fun i => (i.zero, i.size, i.bytes)) = some (some (.int .i64 0), 1, 8)) (h0 : 0 ≤ n) (hl : n ≤ 1000000000)
    (h : ∀ v1 w1, kI.R 2 w1 W.heap.size (fun _ => True) v1 (List.replicate n.toNat 0) → Below W.heap.size W w1 → wpList P ops Q rest (a.put o.dst v1) w1) : wpList P ops Q (o :: rest) a W :=
  Kd.R_make kI (w0 := W) W.heap.size 2 hgd hd t x y ho n hx hy ht (.int .i64 0) 8 hinfo rfl (by decide) (by omega) 0 (ok := fun _ => True) (okp := fun _ => False) rfl (fun _ h => h.elim) trivial h0 (by omega) (Below.refl _ _) (Nat.le_refl _) fun v1 w1 h1 h2 _ _ => h v1 w1 h1 h2
end
/-- The row of a matrix of which the first numbers have been set. -/
def preF (m : List Int) (i j x : Nat) : Int := if x < j then nt m (i * 3 + x) else 0
def pre (n : Nat) (m : List Int) (i j : Nat) : List Int := (List.range (2 * n)).map (preF m i j)
theorem pre_len (n : Nat) (m : List Int) (i j : Nat) : (pre n m i j).length = 2 * n := by simp [pre]
theorem pre_nt (n : Nat) (m : List Int) (i j : Nat) {x : Nat} (hx : x < 2 * n) : nt (pre n m i j) x = preF m i j x := by
  rw [nt_eq _ _ (by rw [pre_len]; exact hx)]
  simp [pre]
theorem pre_zero (n : Nat) (m : List Int) (i : Nat) : List.replicate (2 * n) 0 = pre n m i 0 := by
  refine row_ext (by simp [pre_len]) fun x hx => ?_
  rw [List.length_replicate] at hx
  rw [pre_nt _ _ _ _ hx, nt_eq _ _ (by simpa using hx)]
  simp [preF]
theorem pre_set (n : Nat) (m : List Int) (i j : Nat) (hj : j < n) : (pre n m i j).set j (nt m (i * 3 + j)) = pre n m i (j + 1) := by
  refine row_ext (by simp [pre_len]) fun x hx => ?_
  rw [List.length_set, pre_len] at hx
  rw [nt_set (by rw [pre_len]; omega), pre_nt _ _ _ _ hx, pre_nt _ _ _ _ hx]
  unfold preF
  by_cases h : x = j
  · subst h; simp
  · rw [if_neg h]
    by_cases h2 : x < j
    · rw [if_pos h2, if_pos (by omega)]
    · rw [if_neg h2, if_neg (by omega)]
theorem pre_done (n : Nat) (m : List Int) (i : Nat) (hi : i < n) : (pre n m i n).set (n + i) 1 = augRow n m i := by
  refine row_ext (by simp [pre_len, augRow_len]) fun x hx => ?_
  rw [List.length_set, pre_len] at hx
  rw [nt_set (by rw [pre_len]; omega), pre_nt _ _ _ _ hx, augRow_nt _ _ _ hx]
  unfold preF augF
  by_cases h : x = n + i
  · subst h; simp; omega
  · rw [if_neg h, if_neg h]

set_option maxRecDepth 100000 in
set_option maxHeartbeats 2000000 in
theorem l02Inverse_calls (p : Int) (n : Nat) (m : List Int) (w : World) (hp : IsP p) (hn : 1 ≤ n) (hn3 : n ≤ 3) (hm : IsM m) (he : EntOk p n m) :
    Calls Tryz.prog 214 #[.int .i64 p, .int .i64 n, .agg (mcells m)] w fun e w' => ∃ o : List Int, o.length = 9 ∧ e = .returned (.tuple #[.agg (mcells o), .bool (decide (detV n m % p ≠ 0))]) ∧ Below w.heap.size w w' := by
  have HP := Aside0.mk hp
  have hpos := hp.pos
  have HM := Aside0.mk hm
  have HGD := Aside0.mk (augs_good hp hm hn3 he (Nat.le_refl n))
  have HLN := Aside0.mk (augs_length hp hm hn3 he n (Nat.le_refl n))
  have HIF := Aside0.mk (inv_iff hp hm hn hn3 he)
  clear hp hm he
  go_enter Tryz.func214, Tryz.ntmps214
  go_wp2
  go_loopw [8, 9] (fun v8 v9 wr => ∃ i : Nat, v9 = .int .i64 i ∧ i ≤ n ∧ Aside0 (kR.R 84 wr w.heap.size (fun _ => True) v8 (augs n m i)) ∧ Aside0 (∀ b, v8.ownBlock = some b → w.heap.size + 1 < b) ∧ Blk wr w.heap.size 138 (mcells m) ∧ Blk wr (w.heap.size + 1) 138 (mcells [0, 0, 0, 0, 0, 0, 0, 0, 0]) ∧ Aside0 (Below w.heap.size w wr)) (fun _ v9 _ => n - (intOf v9).toNat)
  case atStart => exact ⟨0, rfl, by omega, ⟨R_litAt kR _ _ _ (by rw [size_alloc, size_alloc]) (below_alloc (below_alloc (Below.refl _ _) _) _).size⟩, ⟨fun b hb => by simp [Value.ownBlock] at hb; omega⟩, ((Blk.new _ _ _).alloc _).alloc _, (Blk.new1 _ _ _ _).alloc _, ⟨below_alloc (below_alloc (below_alloc (Below.refl _ _) _) _) _⟩⟩
  case round =>
    obtain ⟨i, rfl, hi, HO, HV, H1, H2, HB⟩ := hrel
    by_cases hlt : i < n
    · have hd3 : decide ((i : Int) < n) = true := decide_eq_true (by omega)
      obtain ⟨A8, c8, rfl, hc8, hC8⟩ := Kd.R_reads HO.out
      clear hC8
      go_wp2_with ((refine make_int rfl rfl _ (.tmp 23) (.tmp 23) rfl (2 * n) rfl rfl Tryz.underlying84 infoI (by omega) (by omega) ?_; intro v10 w1 ho1 hb1; rw [show ((2 * n : Int)).toNat = 2 * n by omega, pre_zero n m i] at ho1; obtain ⟨g, cap, hv10, hg1, hg2, cells, hcell⟩ := Kd.R_form ho1 (by rw [pre_len]; omega); rw [pre_len] at hv10; subst hv10; have HO1 := Aside0.mk ho1; have HB1 := Aside0.mk hb1; clear ho1 hb1 hcell))
      have HF := Aside0.mk (show kR.R 84 w1 w.heap.size (fun k => k ≠ g) (.slice A8 (augs n m i).length c8) (augs n m i) from Kd.R_mono (Kd.R_elder HO.out HO1.out HB1.out) (fun k hk => by rintro rfl; exact hk.2 rfl))
      have HS := Aside0.mk (show kI.R 2 w1 w.heap.size (fun k => some k ≠ (Value.slice A8 (augs n m i).length c8).ownBlock) (.slice (some ⟨g, 0, none⟩) (2 * n) cap) (pre n m i 0) from Kd.R_lower (Kd.R_mono (Kd.R_newR HO1.out HO.out) (fun _ h => h.2)) HB.out.size)
      have hgS := H2.lt
      replace H1 := H1.keep HB1.out
      replace H2 := H2.keep HB1.out
      replace HB := Aside0.mk (below_step HB.out HB1.out)
      have hgB : w.heap.size + 1 < g := Nat.lt_of_lt_of_le hgS hg1
      clear HO HO1 HB1
      go_loopw [11] (fun v11 wr2 => ∃ j : Nat, v11 = .int .i64 j ∧ j ≤ n ∧ Aside0 (kI.R 2 wr2 w.heap.size (fun k => some k ≠ (Value.slice A8 (augs n m i).length c8).ownBlock) (.slice (some ⟨g, 0, none⟩) (2 * n) cap) (pre n m i j)) ∧ Aside0 (kR.R 84 wr2 w.heap.size (fun k => k ≠ g) (.slice A8 (augs n m i).length c8) (augs n m i)) ∧ Blk wr2 w.heap.size 138 (mcells m) ∧ Blk wr2 (w.heap.size + 1) 138 (mcells [0, 0, 0, 0, 0, 0, 0, 0, 0]) ∧ Aside0 (Below w.heap.size w wr2)) (fun v11 _ => n - (intOf v11).toNat)
      case atStart => exact ⟨0, rfl, by omega, HS, HF, H1, H2, HB⟩
      case round =>
        clear HS HF H1 H2 HB
        obtain ⟨j, rfl, hj, HS, HF, H1, H2, HB⟩ := hrel
        by_cases hjl : j < n
        · obtain ⟨hj1, hj2⟩ := own_cell HS.out j (by omega)
          have hc := H1.cell (i * 3 + j) (mcells_get m _ (by have := HM.out.1; omega))
          have hv := HM.out.nt (i * 3 + j)
          go_wp2
          go_roundw
          case rel => exact ⟨j + 1, by go_num, by omega, ⟨by rw [← pre_set n m i j hjl]; exact own_put HS.out j _⟩, ⟨Kd.R_far (p := ⟨g, j, none⟩) HF.out (fun _ h => h) _⟩, H1.far (by dsimp only; omega) _, H2.far (by dsimp only; omega) _, ⟨HB.out.setCell (by dsimp only; omega) _⟩⟩
          case measure => simp [intOf]; omega
        · have hje : j = n := by omega
          have HS1 := Aside0.mk (show kI.R 2 (wr.setCell ⟨g, n + i, none⟩ (.int .i64 1)) w.heap.size (fun k => some k ≠ (Value.slice A8 (augs n m i).length c8).ownBlock) (.slice (some ⟨g, 0, none⟩) (2 * n) cap) (augRow n m i) by
            have h := own_put HS.out (n + i) 1
            rw [hje, pre_done n m i hlt] at h
            exact h)
          have HF1 := Aside0.mk (Kd.R_far (p := ⟨g, n + i, none⟩) HF.out (fun _ h => h) (.int .i64 1))
          obtain ⟨hj1, hj2⟩ := own_cell HS.out (n + i) (by omega)
          have hB1 := HB.out.setCell (p := ⟨g, n + i, none⟩) (show w.heap.size ≤ g by omega) (.int .i64 1)
          have HB1 := Aside0.mk hB1
          have HLE := Aside0.mk (show (augs n m i).length < 1000000000000 by rw [augs_len]; omega)
          clear hje hB1
          go_wp2_with ((at_builtin; go_must (refine app_rowG (w0 := w) (by simp) rfl _ _ _ rfl Tryz.underlying41 infoR (.slice A8 (augs n m i).length c8) (augs n m i) _ (augRow n m i) rfl rfl HS1.out (Kd.R_mono HF1.out (fun _ _ => trivial)) HB1.out HLE.out ?_); intro v1 w9 HO9 HB9 hg9 hat9; replace HO9 := Aside0.mk HO9; replace HB9 := Aside0.mk HB9; have HH := Aside0.mk (And.intro hg9 hat9); clear hg9 hat9))
          obtain ⟨hg9, hat9⟩ := HH.out
          have hne1 : some w.heap.size ≠ (Value.slice A8 (augs n m i).length c8).ownBlock := fun h => by have := HV.out _ h.symm; omega
          have hne2 : some (w.heap.size + 1) ≠ (Value.slice A8 (augs n m i).length c8).ownBlock := fun h => by have := HV.out _ h.symm; omega
          have hsz := H2.lt
          go_roundw
          case rel => exact ⟨i + 1, by go_num, by omega, ⟨by rw [augs_succ]; exact HO9.out⟩, ⟨fun b hb => by rcases hat9 with h | ⟨b', h1, h2⟩; exact HV.out b (h ▸ hb); rw [h1] at hb; cases hb; have h3 : (wr.setCell ⟨g, n + i, none⟩ (.int .i64 1)).heap.size = wr.heap.size := (by simp); omega⟩, (H1.far (p := ⟨g, n + i, none⟩) (by dsimp only; omega) _).grown hg9 hne1, (H2.far (p := ⟨g, n + i, none⟩) (by dsimp only; omega) _).grown hg9 hne2, HB9⟩
          case measure => simp [intOf]; omega
    · obtain rfl : i = n := by omega
      obtain ⟨A8, c8, rfl, hc8, hC8⟩ := Kd.R_reads HO.out
      have HC8 := Aside0.mk hC8
      have HLE := Aside0.mk (augs_len i m i)
      clear hC8
      go_wp2_with (first
        | (go_at_call 56; refine (l01Echelon_calls p (2 * i) _ _ (augs i m i) _ HC8.out HP.out HGD.out (by omega) (by rw [HLE.out]; omega)).mono ?_; rintro e w1 ⟨v12, rfl, ho1, hb1⟩; obtain ⟨A12, c12, hv12, hc12, hC12⟩ := Kd.R_reads ho1; rw [HLN.out] at hv12 hc12 hC12; subst hv12; have HC12 := Aside0.mk hC12; have HB1 := Aside0.mk hb1; have H13 := Blk.new w1 (mcells [0, 0, 0, 0, 0, 0, 0, 0, 0]) 138; clear ho1 hC12 hb1)
        | (refine store_blk rfl _ 13 _ rfl H13 rfl rfl (sizeM_of (show ([0, 0, 0, 0, 0, 0, 0, 0, 0] : List Int).length = 9 from rfl)) (by rw [mcells_size, mcells_size, (show ([0, 0, 0, 0, 0, 0, 0, 0, 0] : List Int).length = 9 from rfl)]; rfl) (mcells_one _) ?_))
      have hgg : w.heap.size + 1 < w1.heap.size := Nat.lt_of_lt_of_le H2.lt HB1.out.size
      have HRL := Aside0.mk (fun r hr => (echelon_red HP.out _ HGD.out).good r hr)
      obtain ⟨R, hR⟩ : ∃ R, R = echelon p (augs i m i) := ⟨_, rfl⟩
      rw [← hR] at HC12 HLN HIF HRL
      clear hR HC8 HLE HGD
      go_loopw [14] (fun v14 wr2 => ∃ (k : Nat) (o : List Int), v14 = .int .i64 k ∧ k ≤ i ∧ o.length = 9 ∧ Aside0 (∀ j < k, lead (ntR R j) = j) ∧ Blk wr2 (w.heap.size + 1) 138 (mcells [0, 0, 0, 0, 0, 0, 0, 0, 0]) ∧ Blk wr2 w1.heap.size 138 (mcells o) ∧ Aside0 (Below w1.heap.size w1 wr2) ∧ Aside0 (Below w.heap.size w wr2)) (fun v14 _ => i - (intOf v14).toNat)
      case atStart =>
        exact ⟨0, [0, 0, 0, 0, 0, 0, 0, 0, 0], rfl, by omega, rfl, ⟨fun j hj => by omega⟩, (H2.keep HB1.out).alloc _, H13, ⟨below_alloc (Below.refl _ _) _⟩, ⟨below_alloc (below_step HB.out HB1.out) _⟩⟩
      case round =>
        clear H1 H2 HB HO HV H13
        obtain ⟨k, o, rfl, hk, ho9, HLD, H2, H13, HBw, HB⟩ := hrel
        by_cases hkl : k < i
        · obtain ⟨ad, A0, c0, row, hrr, rfl, hc, hrc, hC⟩ := at_row (Kd.C_below HC12.out HBw.out) k hkl
          obtain ⟨hn, hin, _, _⟩ := HRL.out _ (ntR_mem R k (by rw [HLN.out]; exact hkl))
          rw [← hrr] at hn hin
          have HC := Aside0.mk hC
          have HRR := Aside0.mk hrr
          have HRI := Aside0.mk (And.intro hn hin)
          clear hC hrr hn hin
          by_cases hle : lead row = k
          · have hb : (lead row != (k : Int)) = false := by simp [hle]
            have HLD2 : Aside0 (∀ j < k + 1, lead (ntR R j) = j) := ⟨fun j hj => by rcases Nat.lt_succ_iff_lt_or_eq.1 hj with h | h; exact HLD.out j h; subst h; rw [← HRR.out]; exact hle⟩
            clear hle
            have hd3 : decide ((k : Int) < i) = true := decide_eq_true (by omega)
            go_wp2_with ((go_at_call 124; refine (l01Lead_calls _ _ row _ HC.out).mono ?_; rintro e w' ⟨rfl, ⟨nd, rfl⟩⟩))
            have HW := Aside0.mk (fun j (hj : j < i) => show i + j < row.length by have := HRI.out.1; omega)
            replace H2 := H2.drewN nd
            replace H13 := H13.drewN nd
            replace HB := Aside0.mk (pw_below_drewN HB.out nd)
            replace HBw := Aside0.mk (pw_below_drewN HBw.out nd)
            clear HC hc
            obtain ⟨wo, hwo⟩ : ∃ wo, wo = wr.drewN nd := ⟨_, rfl⟩
            rw [← hwo] at H2 H13 HB HBw
            go_loopw [15] (fun v15 wr3 => ∃ (j : Nat) (o : List Int), v15 = .int .i64 j ∧ j ≤ i ∧ o.length = 9 ∧ Blk wr3 (w.heap.size + 1) 138 (mcells [0, 0, 0, 0, 0, 0, 0, 0, 0]) ∧ Blk wr3 w1.heap.size 138 (mcells o) ∧ Aside0 (Below w1.heap.size w1 wr3) ∧ Aside0 (Below w.heap.size w wr3)) (fun v15 _ => i - (intOf v15).toNat)
            case atStart => exact ⟨0, o, rfl, by omega, ho9, hwo ▸ H2, hwo ▸ H13, hwo ▸ HBw, hwo ▸ HB⟩
            case round =>
              clear H2 H13 HB HBw ho9
              obtain ⟨j, o, rfl, hj, ho9, H2, H13, HBw, HB⟩ := hrel
              by_cases hjl : j < i
              · have hjr := HW.out j hjl
                obtain ⟨ad', A1, c1, row', hrr', he', hc', _, hC'⟩ := at_row (Kd.C_below HC12.out HBw.out) k hkl
                obtain rfl : ad = ad' := Option.some.inj he'
                obtain rfl : row' = row := hrr'.trans HRR.out.symm
                obtain ⟨ad0, rfl, hcj⟩ := at_nt hC' (i + j) hjr
                have f1 := H13.frozen (k * 3 + j)
                have f2 := H13.cell (k * 3 + j) (mcells_get o _ (by omega))
                clear hC' he' hrr'
                go_wp2
                go_region
                go_wp2
                go_roundw
                case rel => exact ⟨j + 1, o.set (k * 3 + j) (nt row' (i + j) % 256), by go_num, by omega, by simp [ho9], (H2.far (by dsimp only; omega) _).drew, by rw [← mcells_set]; exact (H13.set _ _).drew, ⟨below_drew (HBw.out.setCell (by simp) _)⟩, ⟨below_drew (HB.out.setCell (by dsimp only; omega) _)⟩⟩
                case measure => simp [intOf]; omega
              · go_wp2
                go_roundw
                case rel => exact ⟨k + 1, o, by go_num, by omega, ho9, HLD2, H2, H13, HBw, HB⟩
                case measure => simp [intOf]; omega
          · have hb : (lead row != (k : Int)) = true := by simpa using hle
            have HN : Aside0 (decide (detV i m % p ≠ 0) = false) := ⟨decide_eq_false fun h => hle (by have := HIF.out.2 h k (by rw [HLN.out]; exact hkl); rwa [← ntR_eq R k (by rw [HLN.out]; exact hkl), ← HRR.out] at this)⟩
            clear hle
            go_wp2_with (first
              | (go_at_call 124; refine (l01Lead_calls _ _ row _ HC.out).mono ?_; rintro e w' ⟨rfl, ⟨nd, rfl⟩⟩)
              | (refine load_blk rfl _ 13 rfl (H13.drewN nd) rfl _ Tryz.underlying138 rfl (sizeM_of ho9) ?_)
              | (refine store_blk rfl _ 6 _ rfl (H2.drewN nd) rfl rfl (sizeM_of ho9) (by rw [mcells_size, mcells_size, ho9]; rfl) (mcells_one _) ?_))
            refine ret_mat2 (p := 6) (u := 7) rfl ((H2.drewN nd).setRow _) ho9 rfl rfl ⟨o, ho9, by rw [HN.out]; rfl, below_setRow (pw_below_drewN HB.out _) (by omega) _⟩
        · obtain rfl : k = i := by omega
          have HN : Aside0 (decide (detV k m % p ≠ 0) = true) := ⟨decide_eq_true (HIF.out.1 fun j hj => by rw [← ntR_eq R j hj]; exact HLD.out j (by rw [HLN.out] at hj; exact hj))⟩
          go_wp2_with (first
            | (refine load_blk rfl _ 13 rfl H13 rfl _ Tryz.underlying138 rfl (sizeM_of ho9) ?_)
            | (refine store_blk rfl _ 6 _ rfl H2 rfl rfl (sizeM_of ho9) (by rw [mcells_size, mcells_size, ho9]; rfl) (mcells_one _) ?_))
          refine ret_mat2 (p := 6) (u := 7) rfl (H2.setRow _) ho9 rfl rfl ⟨o, ho9, by rw [HN.out]; rfl, below_setRow HB.out (by omega) _⟩

set_option maxRecDepth 100000 in
set_option maxHeartbeats 1000000 in
theorem l02Matrix_calls (p n : Int) (m : List Int) (w : World) (hm : IsM m) :
    Calls Tryz.prog 140 #[.int .i64 p, .int .i64 n, .agg (mcells m)] w fun e w' => e = .returned (.bool (matB p n m)) ∧ Below w.heap.size w w' := by
  have HM := Aside0.mk hm
  clear hm
  cases hpb : primeB p
  · have HN : Aside0 (matB p n m = false) := ⟨by simp [matB, hpb]⟩
    go_enter Tryz.func140, Tryz.ntmps140
    go_wp2_with ((go_at_call 139; refine (l01Prime_calls p _).mono ?_; rw [hpb]; rintro e w' ⟨rfl, rfl⟩))
    go_ret
    exact ⟨ret_b HN.out.symm, below_alloc (Below.refl _ _) _⟩
  have hvi : inB n 1 3 = varsB n := rfl
  cases hvb : varsB n
  · have HN : Aside0 (matB p n m = false) := ⟨by simp [matB, hvb]⟩
    go_enter Tryz.func140, Tryz.ntmps140
    go_wp2_with (first
      | (go_at_call 139; refine (l01Prime_calls p _).mono ?_; rw [hpb]; rintro e w' ⟨rfl, rfl⟩)
      | (go_at_call 116; refine (l01In_calls n 1 3 _).mono ?_; rw [hvi, hvb]; rintro e w' ⟨rfl, rfl⟩))
    go_ret
    exact ⟨ret_b HN.out.symm, below_alloc (Below.refl _ _) _⟩
  have hP := primeB_iff.1 hpb
  have hpp := hP.pos
  have hvv : 1 ≤ n ∧ n ≤ 3 := of_decide_eq_true hvb
  obtain ⟨n, rfl⟩ : ∃ k : Nat, n = k := ⟨n.toNat, by omega⟩
  go_enter Tryz.func140, Tryz.ntmps140
  go_wp2_with (first
    | (go_at_call 139; refine (l01Prime_calls p _).mono ?_; rw [hpb]; rintro e w' ⟨rfl, rfl⟩)
    | (go_at_call 116; refine (l01In_calls n 1 3 _).mono ?_; rw [hvi, hvb]; rintro e w' ⟨rfl, rfl⟩))
  go_loopw [7] (fun v wr => ∃ i : Nat, v = .int .i64 i ∧ i ≤ 3 ∧ Aside0 (EUp p n m i 0) ∧ Blk wr w.heap.size 138 (mcells m) ∧ Aside0 (Below w.heap.size w wr)) (fun v _ => 3 - (intOf v).toNat)
  case atStart => exact ⟨0, rfl, by omega, ⟨fun a b _ _ h => by omega⟩, Blk.new _ _ _, ⟨below_alloc (Below.refl _ _) _⟩⟩
  case round =>
    obtain ⟨i, rfl, hi, HE, H1, HB⟩ := hrel
    by_cases hlt : i < 3
    · have hd3 : decide ((i : Int) < 3) = true := decide_eq_true (by omega)
      go_wp2
      obtain ⟨wo, rfl⟩ : ∃ wo, wo = wr := ⟨_, rfl⟩
      go_loopw [8] (fun v wr => ∃ j : Nat, v = .int .i64 j ∧ j ≤ 3 ∧ Aside0 (EUp p n m i j) ∧ Blk wr w.heap.size 138 (mcells m) ∧ Aside0 (Below w.heap.size w wr)) (fun v _ => 3 - (intOf v).toNat)
      case atStart => exact ⟨0, rfl, by omega, HE, H1, HB⟩
      case round =>
        clear HE H1 HB
        obtain ⟨j, rfl, hj, HE, H1, HB⟩ := hrel
        by_cases hjl : j < 3
        · have hc := H1.cell (i * 3 + j) (mcells_get m _ (by have := HM.out.1; omega))
          have hv := HM.out.nt (i * 3 + j)
          have hcs : (p ≤ nt m (i * 3 + j) ∨ (nt m (i * 3 + j) < p ∧ n ≤ i ∧ nt m (i * 3 + j) ≠ 0) ∨ (nt m (i * 3 + j) < p ∧ i < n ∧ n ≤ j ∧ nt m (i * 3 + j) ≠ 0)) ∨
              ((nt m (i * 3 + j) < p ∧ n ≤ i ∧ nt m (i * 3 + j) = 0) ∨ (nt m (i * 3 + j) < p ∧ i < n ∧ n ≤ j ∧ nt m (i * 3 + j) = 0) ∨ (nt m (i * 3 + j) < p ∧ i < n ∧ j < n)) := by omega
          rcases hcs with hcs | hcs
          · have HN : Aside0 (matB p n m = false) := ⟨matB_bad hlt hjl (fun h => by unfold EOk at h; omega)⟩
            rcases hcs with h1 | ⟨h1, h2, h3⟩ | ⟨h1, h2, h3, h4⟩
            · go_wp2
              go_ret
              exact ⟨ret_b HN.out.symm, HB.out⟩
            · have hb : (nt m (i * 3 + j) != 0) = true := by simpa using h3
              clear h3
              go_wp2
              go_ret
              exact ⟨ret_b HN.out.symm, HB.out⟩
            · have hb : (nt m (i * 3 + j) != 0) = true := by simpa using h4
              clear h4
              go_wp2
              go_ret
              exact ⟨ret_b HN.out.symm, HB.out⟩
          · have HN : Aside0 (EUp p n m i (j + 1)) := ⟨HE.out.step ⟨by omega, by omega⟩⟩
            rcases hcs with ⟨h1, h2, h3⟩ | ⟨h1, h2, h3, h4⟩ | ⟨h1, h2, h3⟩
            · have hb : (nt m (i * 3 + j) != 0) = false := by simp [h3]
              clear h3
              go_wp2
              go_roundw
              case rel => exact ⟨j + 1, by go_num, by omega, HN, H1, HB⟩
              case measure => simp [intOf]; omega
            · have hb : (nt m (i * 3 + j) != 0) = false := by simp [h4]
              clear h4
              go_wp2
              go_roundw
              case rel => exact ⟨j + 1, by go_num, by omega, HN, H1, HB⟩
              case measure => simp [intOf]; omega
            · go_wp2
              go_roundw
              case rel => exact ⟨j + 1, by go_num, by omega, HN, H1, HB⟩
              case measure => simp [intOf]; omega
        · obtain rfl : j = 3 := by omega
          have HN : Aside0 (EUp p n m (i + 1) 0) := ⟨HE.out.next⟩
          go_wp2
          go_roundw
          case rel => exact ⟨i + 1, by go_num, by omega, HN, H1, HB⟩
          case measure => simp [intOf]; omega
    · obtain rfl : i = 3 := by omega
      have HN : Aside0 (matB p n m = decide (detV n m % p ≠ 0)) := ⟨matB_ok hP hvb HE.out.done⟩
      have HEN := Aside0.mk HE.out.done
      go_wp2_with (first
        | (refine load_blk rfl _ 5 rfl H1 rfl _ Tryz.underlying138 rfl (sizeM_of HM.out.1) ?_)
        | (refine store_blk rfl _ 9 _ rfl H9 rfl rfl (sizeM_of ho9) (by rw [mcells_size, mcells_size, ho9]; rfl) (mcells_one _) ?_)
        | (go_at_call 214; refine (l02Inverse_calls p n m _ hP (by omega) (by omega) HM.out HEN.out).mono ?_; rintro e w1 ⟨o, ho9, rfl, hb⟩; have HB2 := Aside0.mk hb; have H9 := Blk.new w1 (mcells [0, 0, 0, 0, 0, 0, 0, 0, 0]) 138; clear hb))
      go_ret
      exact ⟨ret_b (by rw [HN.out]; simp), below_setRow (below_alloc (below_step HB.out HB2.out) _) (below_step HB.out HB2.out).size _⟩
end Go.Proofs.YtbenhcognapdpaaGreat
/- Walks: what the laws do with numbers and rows. -/
set_option linter.unusedVariables false
set_option linter.unusedSimpArgs false
namespace Go.Proofs.YtbenhcognapdpaaGreat
open Go.RowKit Go.Proofs.YtbenhcognapdpaaGreatW.PrintWords Go.Proofs.YtbenhcognapdpaaGreatW.PrintLast Lin

def szL (n : Nat) (left : Int) : Int := if left < n then -1 else left - n
theorem szMatrixS_calls (A : Option Addr) (n c : Nat) (left : Int) (w : World) (hl : 0 ≤ left ∧ left ≤ 1048576) (hn : n ≤ 9223372036854775807) :
    Calls Tryz.prog 49 #[.slice A n c, .int .i64 left] w fun e w' => e = .returned (.int .i64 (szL n left)) ∧ w = w' := by
  by_cases h : left < n
  · have HN : Aside0 (szL n left = -1) := ⟨by unfold szL; rw [if_pos h]⟩
    have hb : decide (left - (n : Int) < 0) = true := decide_eq_true (by omega)
    go_enter Tryz.func49, Tryz.ntmps49
    go_wp2
    go_ret
    exact ⟨ret_i HN.out.symm, rfl⟩
  · have HN : Aside0 (szL n left = left - n) := ⟨by unfold szL; rw [if_neg h]⟩
    have hb : decide (left - (n : Int) < 0) = false := decide_eq_false (by omega)
    go_enter Tryz.func49, Tryz.ntmps49
    go_wp2
    go_ret
    exact ⟨ret_i HN.out.symm, rfl⟩
theorem szGroup_calls (p m : Int) (A : Option Addr) (n c : Nat) (left : Int) (w : World) (hl : 0 ≤ left ∧ left ≤ 1048576) (hn : n ≤ 9223372036854775807) :
    Calls Tryz.prog 16 #[.agg #[.int .i64 p, .int .i64 m, .slice A n c], .int .i64 left] w fun e w' => e = .returned (.int .i64 (szL n left)) ∧ Below w.heap.size w w' := by
  by_cases h : left < n
  · have HN : Aside0 (szL n left = -1) := ⟨by unfold szL; rw [if_pos h]⟩
    go_enter Tryz.func16, Tryz.ntmps16
    go_wp2_with ((go_at_call 49; refine (szMatrixS_calls A n c left _ hl hn).mono ?_; rw [HN.out]; rintro e w' ⟨rfl, rfl⟩))
    go_ret
    exact ⟨ret_i HN.out.symm, below_alloc (Below.refl _ _) _⟩
  · have HN : Aside0 (szL n left = left - n) := ⟨by unfold szL; rw [if_neg h]⟩
    have hb : decide (left - (n : Int) < 0) = false := decide_eq_false (by omega)
    go_enter Tryz.func16, Tryz.ntmps16
    go_wp2_with ((go_at_call 49; refine (szMatrixS_calls A n c left _ hl hn).mono ?_; rw [HN.out]; rintro e w' ⟨rfl, rfl⟩))
    go_ret
    exact ⟨ret_i HN.out.symm, below_alloc (Below.refl _ _) _⟩
end Go.Proofs.YtbenhcognapdpaaGreat
/- Walks: the laws' copies of rows, and their comparisons. -/
set_option linter.unusedVariables false
set_option linter.unusedSimpArgs false
namespace Go.Proofs.YtbenhcognapdpaaGreat
open Go.RowKit Go.Proofs.YtbenhcognapdpaaGreatW.PrintWords Go.Proofs.YtbenhcognapdpaaGreatW.PrintLast Lin

def cpyF (l : List Int) (j x : Nat) : Int := if x < j then nt l x else 0
def cpy (l : List Int) (j : Nat) : List Int := (List.range l.length).map (cpyF l j)
theorem cpy_len (l : List Int) (j : Nat) : (cpy l j).length = l.length := by simp [cpy]
theorem cpy_nt (l : List Int) (j : Nat) {x : Nat} (hx : x < l.length) : nt (cpy l j) x = cpyF l j x := by
  rw [nt_eq _ _ (by rw [cpy_len]; exact hx)]
  simp [cpy]
theorem cpy_zero (l : List Int) : List.replicate l.length 0 = cpy l 0 := by
  refine row_ext (by simp [cpy_len]) fun x hx => ?_
  rw [List.length_replicate] at hx
  rw [cpy_nt _ _ hx, nt_eq _ _ (by simpa using hx)]
  simp [cpyF]
theorem cpy_set (l : List Int) (j : Nat) (hj : j < l.length) : (cpy l j).set j (nt l j) = cpy l (j + 1) := by
  refine row_ext (by simp [cpy_len]) fun x hx => ?_
  rw [List.length_set, cpy_len] at hx
  rw [nt_set (by rw [cpy_len]; omega), cpy_nt _ _ hx, cpy_nt _ _ hx]
  unfold cpyF
  by_cases h : x = j
  · subst h; simp
  · rw [if_neg h]
    by_cases h2 : x < j
    · rw [if_pos h2, if_pos (by omega)]
    · rw [if_neg h2, if_neg (by omega)]
theorem cpy_done (l : List Int) (j : Nat) (h : l.length ≤ j) : cpy l j = l := by
  refine row_ext (cpy_len ..) fun x hx => ?_
  rw [cpy_len] at hx
  rw [cpy_nt _ _ hx]
  unfold cpyF
  rw [if_pos (by omega)]

set_option maxRecDepth 100000 in
set_option maxHeartbeats 1000000 in
theorem toInt64S_calls (A : Option Addr) (n c : Nat) (l : List Int) (w : World) (hr : kI.C w A n l) (hl : n ≤ 1048576) :
    Calls Tryz.prog 217 #[.slice A n c] w fun e w' => ∃ v, e = .returned v ∧ kI.R 2 w' w.heap.size (fun _ => True) v l ∧ Below w.heap.size w w' := by
  obtain rfl := Kd.C_len hr
  have HR := Aside0.mk hr
  clear hr
  by_cases h0 : l.length = 0
  · obtain rfl : l = [] := List.eq_nil_of_length_eq_zero h0
    go_enter Tryz.func217, Tryz.ntmps217
    go_wp2_with ((refine make_int rfl rfl _ (.tmp 6) (.tmp 6) rfl 0 rfl rfl Tryz.underlying84 infoI (by omega) (by omega) ?_; intro v1 w1 ho1 hb1; have HO := Aside0.mk ho1; have HB := Aside0.mk hb1; clear ho1 hb1))
    go_loopw [4] (fun v wr => v = .int .i64 0 ∧ wr = w1) (fun _ _ => 0)
    case atStart => exact ⟨rfl, rfl⟩
    case round =>
      obtain ⟨rfl, rfl⟩ := hrel
      go_wp2
      go_ret
      exact ⟨_, rfl, HO.out, HB.out⟩
  · go_enter Tryz.func217, Tryz.ntmps217
    go_wp2_with ((refine make_int rfl rfl _ (.tmp 6) (.tmp 6) rfl l.length rfl rfl Tryz.underlying84 infoI (by omega) (by omega) ?_; intro v1 w1 ho1 hb1; rw [Int.toNat_natCast, cpy_zero l] at ho1; obtain ⟨g, cap, hv1, hg1, hg2, cells, hcell⟩ := Kd.R_form ho1 (by rw [cpy_len]; omega); rw [cpy_len] at hv1; subst hv1; have HO := Aside0.mk ho1; have HB := Aside0.mk hb1; clear ho1 hb1 hcell))
    go_loopw [4] (fun v wr => ∃ j : Nat, v = .int .i64 j ∧ j ≤ l.length ∧ Aside0 (kI.R 2 wr w.heap.size (fun _ => True) (.slice (some ⟨g, 0, none⟩) l.length cap) (cpy l j)) ∧ Aside0 (Below w.heap.size w wr)) (fun v _ => l.length - (intOf v).toNat)
    case atStart => exact ⟨0, rfl, by omega, HO, HB⟩
    case round =>
      clear HO HB
      obtain ⟨j, rfl, hj, HO, HB⟩ := hrel
      by_cases hlt : j < l.length
      · obtain ⟨ad, rfl, hc⟩ := at_nt HR.out j hlt
        have hw := ((HB.out.cell (World.block_lt_of_cell? _ _ hc)).trans hc)
        obtain ⟨hj1, hj2⟩ := own_cell HO.out j hlt
        go_wp2
        go_roundw
        case rel => exact ⟨j + 1, by go_num, by omega, ⟨by rw [← cpy_set l j hlt]; exact own_put HO.out j _⟩, ⟨HB.out.setCell (by dsimp only; omega) _⟩⟩
        case measure => simp [intOf]; omega
      · have HE : Aside0 (cpy l j = l) := ⟨cpy_done l j (by omega)⟩
        go_wp2
        go_ret
        exact ⟨_, rfl, by have h := HO.out; rw [HE.out] at h; exact h, HB.out⟩

set_option maxRecDepth 100000 in
set_option maxHeartbeats 400000 in
theorem eqInt64S_calls (A : Option Addr) (n c : Nat) (a : List Int) (A' : Option Addr) (n' c' : Nat) (b : List Int) (w : World) (hr : kI.C w A n a) (hr' : kI.C w A' n' b) :
    Calls Tryz.prog 66 #[.slice A n c, .slice A' n' c'] w fun e w' => e = .returned (.bool (sameB a b)) ∧ Drawn0 w w' := by
  obtain rfl := Kd.C_len hr
  obtain rfl := Kd.C_len hr'
  have hm := Kd.C_max hr
  have HR := Aside0.mk hr
  have HR' := Aside0.mk hr'
  clear hr hr'
  by_cases hl : a.length = b.length
  · have HL := Aside0.mk hl
    have hlb : ((a.length : Int) != b.length) = false := by simp [hl]
    clear hl
    go_enter Tryz.func66, Tryz.ntmps66
    go_wp2
    go_loopw [5] (fun v wr => ∃ k : Nat, v = .int .i64 k ∧ k ≤ a.length ∧ Aside0 (∀ j < k, nt a j = nt b j) ∧ Drawn0 w wr) (fun v _ => a.length - (intOf v).toNat)
    case atStart => exact ⟨0, rfl, by omega, ⟨fun j hj => by omega⟩, Drawn0.refl _⟩
    case round =>
      obtain ⟨k, rfl, hk, HZ, ⟨m, rfl⟩⟩ := hrel
      by_cases hlt : k < a.length
      · have hlt' : k < b.length := by have := HL.out; omega
        obtain ⟨ad, rfl, hc⟩ := at_nt HR.out k hlt
        obtain ⟨ad', rfl, hc'⟩ := at_nt HR'.out k hlt'
        by_cases h0 : nt a k = nt b k
        · have hb : (nt a k != nt b k) = false := by simp [h0]
          have HN := Aside0.mk h0
          clear h0
          go_wp2
          go_quiet (fail)
          go_wp2
          go_roundw
          case rel => exact ⟨k + 1, by go_num, by omega, ⟨fun j hj => by rcases Nat.lt_succ_iff_lt_or_eq.1 hj with h | h; exact HZ.out j h; subst h; exact HN.out⟩, (by repeat (first | exact Drawn0.refl _ | apply Drawn0.step))⟩
          case measure => simp [intOf]; omega
        · have hb : (nt a k != nt b k) = true := by simpa using h0
          have HN := Aside0.mk (sameB_false HL.out hlt h0)
          clear h0
          go_wp2
          go_quiet (fail)
          go_wp2
          go_ret
          exact ⟨ret_b HN.out.symm, (by repeat (first | exact Drawn0.refl _ | apply Drawn0.step))⟩
      · have HE := Aside0.mk (show k = a.length by omega)
        go_wp2
        go_ret
        exact ⟨ret_b (sameB_true HL.out (fun j hj => HZ.out j (by rw [HE.out]; exact hj))).symm, (by repeat (first | exact Drawn0.refl _ | apply Drawn0.step))⟩
  · have hlb : ((a.length : Int) != b.length) = true := by rw [bne_iff_ne]; omega
    have HN : Aside0 (sameB a b = false) := ⟨decide_eq_false (fun h => hl (by rw [h]))⟩
    clear hl
    go_enter Tryz.func66, Tryz.ntmps66
    go_wp2
    go_ret
    exact ⟨ret_b HN.out.symm, Drawn0.refl _⟩
end Go.Proofs.YtbenhcognapdpaaGreat
