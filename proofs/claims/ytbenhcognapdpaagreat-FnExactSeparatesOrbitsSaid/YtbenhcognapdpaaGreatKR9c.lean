/- Own texts of this claim, in one file: MatW1, Eq, MatW2, DetW, MatW3, Cells. -/
import Derived.Test.YtbenhcognapdpaaGreatKR9b
import Derived.Test.YtbenhcognapdpaaGreatKR9a
import Derived.ChangeKeysEq
import Derived.Lib.Bytealg
import Derived.Laws.Externs
/- Walks: products of matrices. -/
set_option linter.unusedVariables false
set_option linter.unusedSimpArgs false
namespace Go.Proofs.YtbenhcognapdpaaGreat
open Go.RowKit Go.Proofs.YtbenhcognapdpaaGreatW.PrintWords Go.Proofs.YtbenhcognapdpaaGreatW.PrintLast Lin

/-- A matrix's cells. -/
def mcells (m : List Int) : Array Value := (encs (Value.int .u8) m).toArray
theorem mcells_get (m : List Int) (i : Nat) (h : i < m.length) : (mcells m)[i]? = some (.int .u8 (nt m i)) := by
  simp [mcells, encs, nt_eq m i h, List.getElem?_eq_getElem h]
theorem mcells_set (m : List Int) (i : Nat) (x : Int) : (mcells m).setIfInBounds i (.int .u8 x) = mcells (m.set i x) := by
  simp [mcells, encs, List.map_set]
theorem mcells_size (m : List Int) : (mcells m).size = m.length := by simp [mcells, encs]

theorem mcells_one (m : List Int) : (mcells m).all (·.oneCell') = true := by
  simp [mcells, encs, Value.oneCell', Function.comp_def]
theorem sizeM : (Tryz.prog.info? 138).map (·.size) = some 9 := by kernel_rfl
theorem sizeM_of {m : List Int} (h : m.length = 9) : (Tryz.prog.info? 138).map (·.size) = some (mcells m).size := by rw [mcells_size, h]; exact sizeM
/-- A function that hands back a matrix in a cell of its own. -/
theorem ret_mat {fn : Func} {p : Tmp} (h : fn.results = #[.cell p 138]) {R : Ending → World → Prop} {a : Act} {w : World} {g t : Nat} {m : List Int} (H : Blk w g t (mcells m)) (hm : m.length = 9) (hp : a.tmps.getD p undef = .pointer (some ⟨g, 0, none⟩)) (hd : a.defers = [])
    (hR : R (.returned (.agg (mcells m))) w) : bodyPost Tryz.prog fn R .ret a w :=
  ⟨hd, _, results_cell_row h a.tmps w g t (mcells m) (0, 0) _ hp H Tryz.underlying138 rfl (sizeM_of hm), hR⟩

set_option maxRecDepth 100000 in
set_option maxHeartbeats 1000000 in
theorem l02Times_calls (p : Int) (n : Nat) (g h : List Int) (w : World) (hp : 0 < p) (hp2 : p ≤ 256) (hn : n ≤ 3) (hg : IsM g) (hh : IsM h) :
    Calls Tryz.prog 143 #[.int .i64 p, .int .i64 n, .agg (mcells g), .agg (mcells h)] w fun e w' => e = .returned (.agg (mcells (timesM p n g h))) ∧ Below w.heap.size w w' := by
  have HG := Aside0.mk hg
  have HH := Aside0.mk hh
  clear hg hh
  go_enter Tryz.func143, Tryz.ntmps143
  have hz : (#[.int .u8 0, .int .u8 0, .int .u8 0, .int .u8 0, .int .u8 0, .int .u8 0, .int .u8 0, .int .u8 0, .int .u8 0] : Array Value) = mcells [0, 0, 0, 0, 0, 0, 0, 0, 0] := rfl
  have HZ := Aside0.mk hz
  clear hz
  have hp0 : (p == 0) = false := by rw [beq_eq_false_iff_ne]; omega
  go_wp2
  go_loopw [10] (fun v10 wr => ∃ (i : Nat) (o : List Int), v10 = .int .i64 i ∧ i ≤ n ∧ Aside0 (Part (fun a b => dot g h a b n % p) n i 0 o) ∧ Blk wr w.heap.size 138 (mcells g) ∧ Blk wr (w.heap.size + 1) 138 (mcells h) ∧ Blk wr (w.heap.size + 1 + 1) 138 (mcells [0, 0, 0, 0, 0, 0, 0, 0, 0]) ∧ Blk wr (w.heap.size + 1 + 1 + 1) 138 (mcells o) ∧ Aside0 (Below w.heap.size w wr)) (fun v10 _ => n - (intOf v10).toNat)
  case atStart => exact ⟨0, _, rfl, by omega, ⟨Part.start _ _⟩, (((Blk.new _ _ _).alloc _).alloc _).alloc _, ((Blk.new1 _ _ _ _).alloc _).alloc _, (Blk.new2 _ _ _ _ _).alloc _, Blk.new3 _ _ _ _ _ _, ⟨below_alloc (below_alloc (below_alloc (below_alloc (Below.refl _ _) _) _) _) _⟩⟩
  case round =>
    obtain ⟨i, o, rfl, hi, HPT, H1, H2, H3, H4, HB⟩ := hrel
    by_cases hlt : i < n
    · go_wp2
      obtain ⟨wo, rfl⟩ : ∃ wo, wo = wr := ⟨_, rfl⟩
      go_loopw [11] (fun v11 wr => ∃ (j : Nat) (o : List Int), v11 = .int .i64 j ∧ j ≤ n ∧ Aside0 (Part (fun a b => dot g h a b n % p) n i j o) ∧ Blk wr w.heap.size 138 (mcells g) ∧ Blk wr (w.heap.size + 1) 138 (mcells h) ∧ Blk wr (w.heap.size + 1 + 1) 138 (mcells [0, 0, 0, 0, 0, 0, 0, 0, 0]) ∧ Blk wr (w.heap.size + 1 + 1 + 1) 138 (mcells o) ∧ Aside0 (Below w.heap.size w wr)) (fun v11 _ => n - (intOf v11).toNat)
      case atStart => exact ⟨0, _, rfl, by omega, HPT, H1, H2, H3, H4, HB⟩
      case round =>
        clear HPT H1 H2 H3 H4 HB
        obtain ⟨j, o, rfl, hj, HPT, H1, H2, H3, H4, HB⟩ := hrel
        by_cases hjl : j < n
        · go_wp2
          obtain ⟨wo2, rfl⟩ : ∃ wo, wo = wr := ⟨_, rfl⟩
          go_loopw [12, 13] (fun v12 v13 wr => ∃ (k : Nat), v13 = .int .i64 k ∧ v12 = .int .i64 (dot g h i j k) ∧ k ≤ n ∧ Blk wr w.heap.size 138 (mcells g) ∧ Blk wr (w.heap.size + 1) 138 (mcells h) ∧ Blk wr (w.heap.size + 1 + 1) 138 (mcells [0, 0, 0, 0, 0, 0, 0, 0, 0]) ∧ Blk wr (w.heap.size + 1 + 1 + 1) 138 (mcells o) ∧ Aside0 (Below w.heap.size w wr)) (fun _ v13 _ => n - (intOf v13).toNat)
          case atStart => exact ⟨0, rfl, rfl, by omega, H1, H2, H3, H4, HB⟩
          case round =>
            clear H1 H2 H3 H4 HB
            obtain ⟨k, rfl, rfl, hk, H1, H2, H3, H4, HB⟩ := hrel
            have hd := dot_bd HG.out HH.out i j k
            have hd2 : dot g h i j k ≤ 3 * 65025 := by omega
            have hd1 := hd.1
            clear hd
            by_cases hkl : k < n
            · have c1 := H1.cell (i * 3 + k) (mcells_get g _ (by have := HG.out.1; omega))
              have c2 := H2.cell (k * 3 + j) (mcells_get h _ (by have := HH.out.1; omega))
              have e1 := HG.out.nt (i * 3 + k)
              have e2 := HH.out.nt (k * 3 + j)
              have m1 : 0 ≤ nt g (i * 3 + k) * nt h (k * 3 + j) := Int.mul_nonneg e1.1 e2.1
              have m2 : nt g (i * 3 + k) * nt h (k * 3 + j) ≤ 255 * 255 := Int.mul_le_mul e1.2 e2.2 e2.1 (by omega)
              go_wp2
              go_quiet (fail)
              go_wp2
              go_roundw
              case rel => exact ⟨k + 1, by go_num, by go_num, by omega, H1.drewN _, H2.drewN _, H3.drewN _, H4.drewN _, ⟨pw_below_drewN HB.out _⟩⟩
              case measure => simp [intOf]; omega
            · have hke : k = n := by omega
              have HK := Aside0.mk hke
              clear hke
              have f1 := H4.frozen (i * 3 + j)
              have f2 := H4.cell (i * 3 + j) (mcells_get o _ (by have := HPT.out.1; omega))
              go_wp2
              go_region
              have he : dot g h i j k % p % 256 = dot g h i j n % p := by
                rw [HK.out]
                exact Int.emod_eq_of_lt (Int.emod_nonneg _ (by omega)) (Int.lt_of_lt_of_le (Int.emod_lt_of_pos _ hp) hp2)
              have HE := Aside0.mk he
              clear he f1 f2
              go_wp2
              go_roundw
              case rel => exact ⟨j + 1, o.set (i * 3 + j) (dot g h i j n % p), by go_num, by omega, ⟨HPT.out.step (by omega) (by omega) hjl⟩, (H1.far (by dsimp only; omega) _).drew, (H2.far (by dsimp only; omega) _).drew, (H3.far (by dsimp only; omega) _).drew, by rw [← mcells_set, ← HE.out]; exact (H4.set _ _).drew, ⟨below_drew (HB.out.setCell (by simp; omega) _)⟩⟩
              case measure => simp [intOf]; omega
        · have hje : j = n := by omega
          have HPN : Aside0 (Part (fun a b => dot g h a b n % p) n (i + 1) 0 o) := ⟨by have := HPT.out; rw [hje] at this; exact this.next⟩
          clear hje
          go_wp2
          go_roundw
          case rel => exact ⟨i + 1, o, by go_num, by omega, HPN, H1, H2, H3, H4, HB⟩
          case measure => simp [intOf]; omega
    · have hie : i = n := by omega
      have HPN : Aside0 (o = timesM p n g h) := ⟨by have := HPT.out; rw [hie] at this; exact this.done⟩
      clear hie
      have ho9 := HPT.out.1
      go_wp2_with (first
        | (refine load_blk rfl _ 9 rfl H4 rfl _ Tryz.underlying138 rfl (sizeM_of ho9) ?_)
        | (refine store_blk rfl _ 8 _ rfl H3 rfl rfl (sizeM_of ho9) (by rw [mcells_size, mcells_size, ho9]; rfl) (mcells_one _) ?_))
      refine ret_mat (p := 8) rfl (H3.setRow _) ho9 rfl rfl ⟨by rw [HPN.out], below_setRow HB.out (by omega) _⟩
set_option maxRecDepth 100000 in
set_option maxHeartbeats 1000000 in
theorem times_calls (p : Int) (n : Nat) (g h : List Int) (w : World) (hp : 0 < p) (hp2 : p ≤ 256) (hn : n ≤ 3) (hg : IsM g) (hh : IsM h) :
    Calls Tryz.prog 152 #[.int .i64 p, .int .i64 n, .agg (mcells g), .agg (mcells h)] w fun e w' => e = .returned (.agg (mcells (timesM p n g h))) ∧ Below w.heap.size w w' := by
  have HG := Aside0.mk hg
  have HH := Aside0.mk hh
  clear hg hh
  go_enter Tryz.func152, Tryz.ntmps152
  have hz : (#[.int .u8 0, .int .u8 0, .int .u8 0, .int .u8 0, .int .u8 0, .int .u8 0, .int .u8 0, .int .u8 0, .int .u8 0] : Array Value) = mcells [0, 0, 0, 0, 0, 0, 0, 0, 0] := rfl
  have HZ := Aside0.mk hz
  clear hz
  have hp0 : (p == 0) = false := by rw [beq_eq_false_iff_ne]; omega
  go_wp2
  go_loopw [16] (fun v10 wr => ∃ (i : Nat) (o : List Int), v10 = .int .i64 i ∧ i ≤ n ∧ Aside0 (Part (fun a b => dot g h a b n % p) n i 0 o) ∧ Blk wr w.heap.size 138 (mcells g) ∧ Blk wr (w.heap.size + 1) 138 (mcells h) ∧ Blk wr (w.heap.size + 1 + 1) 138 (mcells [0, 0, 0, 0, 0, 0, 0, 0, 0]) ∧ Blk wr (w.heap.size + 1 + 1 + 1) 138 (mcells o) ∧ Aside0 (Below w.heap.size w wr)) (fun v10 _ => n - (intOf v10).toNat)
  case atStart => exact ⟨0, _, rfl, by omega, ⟨Part.start _ _⟩, (((Blk.new _ _ _).alloc _).alloc _).alloc _, ((Blk.new1 _ _ _ _).alloc _).alloc _, (Blk.new2 _ _ _ _ _).alloc _, Blk.new3 _ _ _ _ _ _, ⟨below_alloc (below_alloc (below_alloc (below_alloc (Below.refl _ _) _) _) _) _⟩⟩
  case round =>
    obtain ⟨i, o, rfl, hi, HPT, H1, H2, H3, H4, HB⟩ := hrel
    by_cases hlt : i < n
    · go_wp2
      obtain ⟨wo, rfl⟩ : ∃ wo, wo = wr := ⟨_, rfl⟩
      go_loopw [20] (fun v11 wr => ∃ (j : Nat) (o : List Int), v11 = .int .i64 j ∧ j ≤ n ∧ Aside0 (Part (fun a b => dot g h a b n % p) n i j o) ∧ Blk wr w.heap.size 138 (mcells g) ∧ Blk wr (w.heap.size + 1) 138 (mcells h) ∧ Blk wr (w.heap.size + 1 + 1) 138 (mcells [0, 0, 0, 0, 0, 0, 0, 0, 0]) ∧ Blk wr (w.heap.size + 1 + 1 + 1) 138 (mcells o) ∧ Aside0 (Below w.heap.size w wr)) (fun v11 _ => n - (intOf v11).toNat)
      case atStart => exact ⟨0, _, rfl, by omega, HPT, H1, H2, H3, H4, HB⟩
      case round =>
        clear HPT H1 H2 H3 H4 HB
        obtain ⟨j, o, rfl, hj, HPT, H1, H2, H3, H4, HB⟩ := hrel
        by_cases hjl : j < n
        · go_wp2
          obtain ⟨wo2, rfl⟩ : ∃ wo, wo = wr := ⟨_, rfl⟩
          go_loopw [12, 24] (fun v12 v13 wr => ∃ (k : Nat), v13 = .int .i64 k ∧ v12 = .int .i64 (dot g h i j k) ∧ k ≤ n ∧ Blk wr w.heap.size 138 (mcells g) ∧ Blk wr (w.heap.size + 1) 138 (mcells h) ∧ Blk wr (w.heap.size + 1 + 1) 138 (mcells [0, 0, 0, 0, 0, 0, 0, 0, 0]) ∧ Blk wr (w.heap.size + 1 + 1 + 1) 138 (mcells o) ∧ Aside0 (Below w.heap.size w wr)) (fun _ v13 _ => n - (intOf v13).toNat)
          case atStart => exact ⟨0, rfl, rfl, by omega, H1, H2, H3, H4, HB⟩
          case round =>
            clear H1 H2 H3 H4 HB
            obtain ⟨k, rfl, rfl, hk, H1, H2, H3, H4, HB⟩ := hrel
            have hd := dot_bd HG.out HH.out i j k
            have hd2 : dot g h i j k ≤ 3 * 65025 := by omega
            have hd1 := hd.1
            clear hd
            by_cases hkl : k < n
            · have c1 := H1.cell (i * 3 + k) (mcells_get g _ (by have := HG.out.1; omega))
              have c2 := H2.cell (k * 3 + j) (mcells_get h _ (by have := HH.out.1; omega))
              have e1 := HG.out.nt (i * 3 + k)
              have e2 := HH.out.nt (k * 3 + j)
              have m1 : 0 ≤ nt g (i * 3 + k) * nt h (k * 3 + j) := Int.mul_nonneg e1.1 e2.1
              have m2 : nt g (i * 3 + k) * nt h (k * 3 + j) ≤ 255 * 255 := Int.mul_le_mul e1.2 e2.2 e2.1 (by omega)
              go_wp2
              go_quiet (fail)
              go_wp2
              go_roundw
              case rel => exact ⟨k + 1, by go_num, by go_num, by omega, H1.drewN _, H2.drewN _, H3.drewN _, H4.drewN _, ⟨pw_below_drewN HB.out _⟩⟩
              case measure => simp [intOf]; omega
            · have hke : k = n := by omega
              have HK := Aside0.mk hke
              clear hke
              have f1 := H4.frozen (i * 3 + j)
              have f2 := H4.cell (i * 3 + j) (mcells_get o _ (by have := HPT.out.1; omega))
              go_wp2
              go_region
              have he : dot g h i j k % p % 256 = dot g h i j n % p := by
                rw [HK.out]
                exact Int.emod_eq_of_lt (Int.emod_nonneg _ (by omega)) (Int.lt_of_lt_of_le (Int.emod_lt_of_pos _ hp) hp2)
              have HE := Aside0.mk he
              clear he f1 f2
              go_wp2
              go_roundw
              case rel => exact ⟨j + 1, o.set (i * 3 + j) (dot g h i j n % p), by go_num, by omega, ⟨HPT.out.step (by omega) (by omega) hjl⟩, (H1.far (by dsimp only; omega) _).drew, (H2.far (by dsimp only; omega) _).drew, (H3.far (by dsimp only; omega) _).drew, by rw [← mcells_set, ← HE.out]; exact (H4.set _ _).drew, ⟨below_drew (HB.out.setCell (by simp; omega) _)⟩⟩
              case measure => simp [intOf]; omega
        · have hje : j = n := by omega
          have HPN : Aside0 (Part (fun a b => dot g h a b n % p) n (i + 1) 0 o) := ⟨by have := HPT.out; rw [hje] at this; exact this.next⟩
          clear hje
          go_wp2
          go_roundw
          case rel => exact ⟨i + 1, o, by go_num, by omega, HPN, H1, H2, H3, H4, HB⟩
          case measure => simp [intOf]; omega
    · have hie : i = n := by omega
      have HPN : Aside0 (o = timesM p n g h) := ⟨by have := HPT.out; rw [hie] at this; exact this.done⟩
      clear hie
      have ho9 := HPT.out.1
      go_wp2_with (first
        | (refine load_blk rfl _ 9 rfl H4 rfl _ Tryz.underlying138 rfl (sizeM_of ho9) ?_)
        | (refine store_blk rfl _ 8 _ rfl H3 rfl rfl (sizeM_of ho9) (by rw [mcells_size, mcells_size, ho9]; rfl) (mcells_one _) ?_))
      refine ret_mat (p := 8) rfl (H3.setRow _) ho9 rfl rfl ⟨by rw [HPN.out], below_setRow HB.out (by omega) _⟩

set_option maxRecDepth 100000 in
set_option maxHeartbeats 1000000 in
theorem l02Unit_calls (n : Nat) (w : World) (hn : n ≤ 3) :
    Calls Tryz.prog 144 #[.int .i64 n] w fun e w' => e = .returned (.agg (mcells (unitM n))) ∧ Below w.heap.size w w' := by
  go_enter Tryz.func144, Tryz.ntmps144
  go_wp2
  go_loopw [4] (fun v4 wr => ∃ (i : Nat) (o : List Int), v4 = .int .i64 i ∧ i ≤ n ∧ Aside0 (UPart n i o) ∧ Blk wr w.heap.size 138 (mcells [0, 0, 0, 0, 0, 0, 0, 0, 0]) ∧ Blk wr (w.heap.size + 1) 138 (mcells o) ∧ Aside0 (Below w.heap.size w wr)) (fun v4 _ => n - (intOf v4).toNat)
  case atStart => exact ⟨0, _, rfl, by omega, ⟨UPart.start n⟩, (Blk.new _ _ _).alloc _, Blk.new1 _ _ _ _, ⟨below_alloc (below_alloc (Below.refl _ _) _) _⟩⟩
  case round =>
    obtain ⟨i, o, rfl, hi, HPT, H1, H2, HB⟩ := hrel
    by_cases hlt : i < n
    · have f1 := H2.frozen (i * 3 + i)
      have f2 := H2.cell (i * 3 + i) (mcells_get o _ (by have := HPT.out.1; omega))
      go_wp2
      go_roundw
      case rel => exact ⟨i + 1, o.set (i * 3 + i) 1, by go_num, by omega, ⟨HPT.out.step (by omega) hlt⟩, H1.far (by dsimp only; omega) _, by rw [← mcells_set]; exact H2.set _ _, ⟨HB.out.setCell (by simp) _⟩⟩
      case measure => simp [intOf]; omega
    · have hie : i = n := by omega
      have HPN : Aside0 (o = unitM n) := ⟨by have := HPT.out; rw [hie] at this; exact this.done⟩
      clear hie
      have ho9 := HPT.out.1
      go_wp2_with (first
        | (refine load_blk rfl _ 3 rfl H2 rfl _ Tryz.underlying138 rfl (sizeM_of ho9) ?_)
        | (refine store_blk rfl _ 2 _ rfl H1 rfl rfl (sizeM_of ho9) (by rw [mcells_size, mcells_size, ho9]; rfl) (mcells_one _) ?_))
      refine ret_mat (p := 2) rfl (H1.setRow _) ho9 rfl rfl ⟨by rw [HPN.out], below_setRow HB.out (by omega) _⟩

set_option maxRecDepth 100000 in
set_option maxHeartbeats 1000000 in
theorem unit_calls (n : Nat) (w : World) (hn : n ≤ 3) :
    Calls Tryz.prog 153 #[.int .i64 n] w fun e w' => e = .returned (.agg (mcells (unitM n))) ∧ Below w.heap.size w w' := by
  go_enter Tryz.func153, Tryz.ntmps153
  go_wp2
  go_loopw [7] (fun v4 wr => ∃ (i : Nat) (o : List Int), v4 = .int .i64 i ∧ i ≤ n ∧ Aside0 (UPart n i o) ∧ Blk wr w.heap.size 138 (mcells [0, 0, 0, 0, 0, 0, 0, 0, 0]) ∧ Blk wr (w.heap.size + 1) 138 (mcells o) ∧ Aside0 (Below w.heap.size w wr)) (fun v4 _ => n - (intOf v4).toNat)
  case atStart => exact ⟨0, _, rfl, by omega, ⟨UPart.start n⟩, (Blk.new _ _ _).alloc _, Blk.new1 _ _ _ _, ⟨below_alloc (below_alloc (Below.refl _ _) _) _⟩⟩
  case round =>
    obtain ⟨i, o, rfl, hi, HPT, H1, H2, HB⟩ := hrel
    by_cases hlt : i < n
    · have f1 := H2.frozen (i * 3 + i)
      have f2 := H2.cell (i * 3 + i) (mcells_get o _ (by have := HPT.out.1; omega))
      go_wp2
      go_roundw
      case rel => exact ⟨i + 1, o.set (i * 3 + i) 1, by go_num, by omega, ⟨HPT.out.step (by omega) hlt⟩, H1.far (by dsimp only; omega) _, by rw [← mcells_set]; exact H2.set _ _, ⟨HB.out.setCell (by simp) _⟩⟩
      case measure => simp [intOf]; omega
    · have hie : i = n := by omega
      have HPN : Aside0 (o = unitM n) := ⟨by have := HPT.out; rw [hie] at this; exact this.done⟩
      clear hie
      have ho9 := HPT.out.1
      go_wp2_with (first
        | (refine load_blk rfl _ 3 rfl H2 rfl _ Tryz.underlying138 rfl (sizeM_of ho9) ?_)
        | (refine store_blk rfl _ 2 _ rfl H1 rfl rfl (sizeM_of ho9) (by rw [mcells_size, mcells_size, ho9]; rfl) (mcells_one _) ?_))
      refine ret_mat (p := 2) rfl (H1.setRow _) ho9 rfl rfl ⟨by rw [HPN.out], below_setRow HB.out (by omega) _⟩
end Go.Proofs.YtbenhcognapdpaaGreat
/- Equality of arrays of bytes, as the model runs it. -/
set_option linter.unusedVariables false
set_option linter.unusedSimpArgs false
namespace Go.Proofs.YtbenhcognapdpaaGreat
open Go.RowKit Go.Proofs.YtbenhcognapdpaaGreatW.PrintWords Go.Proofs.YtbenhcognapdpaaGreatW.PrintLast Lin

theorem bytes_list (xs : List Int) (i : Nat) (h : i < xs.length) : (encs (Value.int .u8) xs).toArray[i]? = some (.int .u8 (nt xs i)) := mcells_get xs i h
theorem info5 : ∃ i, Tryz.prog.info? 5 = some i := by
  have : (Tryz.prog.info? 5).isSome = true := by kernel_rfl
  exact Option.isSome_iff_exists.1 this
theorem cells5 : Tryz.prog.cellsOf 5 = 1 := by kernel_rfl
theorem cells73 : Tryz.prog.cellsOf 82 = 3 := by kernel_rfl
theorem info73 : ∃ i, Tryz.prog.info? 82 = some i := by
  have : (Tryz.prog.info? 82).isSome = true := by kernel_rfl
  exact Option.isSome_iff_exists.1 this
theorem size73 : (Tryz.prog.info? 82).map (·.size) = some 3 := by kernel_rfl

theorem list9 {m : List Int} (h : m.length = 9) : ∃ a b c d e f g i j, m = [a, b, c, d, e, f, g, i, j] := by
  match m, h with
  | [a, b, c, d, e, f, g, i, j], _ => exact ⟨a, b, c, d, e, f, g, i, j, rfl⟩
theorem eqItems_step {P : Program} {w : World} {d : Nat} {e : TypeId} {c : Nat} {xs ys : Array Value} {i : Nat} {is : List Nat} {a b : Value} {r : Bool} (ha : (part e xs (i * c)).run P w = .ok a w) (hb : (part e ys (i * c)).run P w = .ok b w) (hr : (Op.equalIn d e a b).run P w = .ok r w) {R : Bool}
    (h : r = true → (Op.eqItems d e c xs ys is).run P w = .ok R w) : (Op.eqItems d e c xs ys (i :: is)).run P w = .ok (r && R) w := by
  simp only [Op.eqItems, Sem.run_bind, ha, hb, hr, Result.andThen_ok]
  cases r
  · simp
  · simpa using h rfl
theorem eqItems3 {P : Program} {w : World} {d : Nat} {e : TypeId} {c : Nat} {xs ys : Array Value} (a b : Nat → Value) (r : Nat → Bool) (ha : ∀ i, i < 3 → (part e xs (i * c)).run P w = .ok (a i) w) (hb : ∀ i, i < 3 → (part e ys (i * c)).run P w = .ok (b i) w) (hr : ∀ i, i < 3 → (Op.equalIn d e (a i) (b i)).run P w = .ok (r i) w) :
    (Op.eqItems d e c xs ys (List.range 3)).run P w = .ok (r 0 && (r 1 && (r 2 && true))) w :=
  eqItems_step (ha 0 (by omega)) (hb 0 (by omega)) (hr 0 (by omega)) fun _ => eqItems_step (ha 1 (by omega)) (hb 1 (by omega)) (hr 1 (by omega)) fun _ => eqItems_step (ha 2 (by omega)) (hb 2 (by omega)) (hr 2 (by omega)) fun _ => by simp [Op.eqItems]

theorem part5 (w : World) (xs : List Int) (off : Nat) (h : off < xs.length) : (part 5 (mcells xs) off).run Tryz.prog w = .ok (.int .u8 (nt xs off)) w := by
  simp [part, isAgg, run_underlying Tryz.underlying5, mcells_get xs off h]
theorem part73 (w : World) (xs : List Int) (off : Nat) : (part 82 (mcells xs) off).run Tryz.prog w = .ok (.agg (mcells ((xs.drop off).take 3))) w := by
  have hs : (sizeOf 82).run Tryz.prog w = .ok 3 w := by
    obtain ⟨i, hi⟩ := info73
    have h2 := size73
    rw [hi] at h2
    simp at h2
    simp [sizeOf, typeInfo, hi, h2]
  have he : (mcells xs).extract off (off + 3) = mcells ((xs.drop off).take 3) := by
    simp [mcells, encs]
  simp only [part, isAgg, Sem.run_bind, run_underlying Tryz.underlying82, Result.andThen_ok, Sem.run_pure, if_true, hs, he]
theorem run_equalIn_3 (w : World) (d : Nat) (t : Nat) (ht : Tryz.prog.underlying t = some (.array 3 5)) {m g : List Int} (hm : m.length = 3) (hg : g.length = 3) :
    (Op.equalIn (d + 2) t (.agg (mcells m)) (.agg (mcells g))).run Tryz.prog w = .ok (sameB m g) w := by
  obtain ⟨i, hi⟩ := info5
  rw [run_equalIn_array w (d + 1) _ _ ht hi, cells5]
  rw [eqItems3 (fun i => .int .u8 (nt m i)) (fun i => .int .u8 (nt g i)) (fun i => nt m i == nt g i) (fun i h => by rw [Nat.mul_one]; exact part5 w m i (by omega)) (fun i h => by rw [Nat.mul_one]; exact part5 w g i (by omega)) (fun i _ => run_equalIn_int w d 5 .u8 .u8 _ _ Tryz.underlying5)]
  have hb : (nt m 0 == nt g 0 && (nt m 1 == nt g 1 && (nt m 2 == nt g 2 && true))) = sameB m g := by
    rw [Bool.eq_iff_iff]
    simp only [Bool.and_eq_true, beq_iff_eq, sameB, decide_eq_true_iff, and_true]
    constructor
    · rintro ⟨h0, h1, h2⟩
      refine row_ext (by omega) fun j hj => ?_
      have : j = 0 ∨ j = 1 ∨ j = 2 := by omega
      rcases this with rfl | rfl | rfl <;> assumption
    · rintro rfl; exact ⟨rfl, rfl, rfl⟩
  simp only [hb]
theorem run_eql_mat (w : World) (t : Nat) (ht : Tryz.prog.underlying t = some (.array 3 82)) {m g : List Int} (hm : m.length = 9) (hg : g.length = 9) :
    (binOp .eql t (.agg (mcells m)) (.agg (mcells g))).run Tryz.prog w = .ok (.bool (sameB m g)) w := by
  obtain ⟨i, hi⟩ := info73
  rw [run_eql_struct]
  have e1 := run_equalIn_array (P := Tryz.prog) w 9999 (mcells m) (mcells g) ht hi
  rw [cells73] at e1
  have e2 := eqItems3 (P := Tryz.prog) (w := w) (d := 9999) (e := 82) (c := 3) (xs := mcells m) (ys := mcells g) (fun i => .agg (mcells ((m.drop (i * 3)).take 3))) (fun i => .agg (mcells ((g.drop (i * 3)).take 3))) (fun i => sameB ((m.drop (i * 3)).take 3) ((g.drop (i * 3)).take 3)) (fun i _ => part73 w m _) (fun i _ => part73 w g _)
    (fun i h => run_equalIn_3 w 9997 82 Tryz.underlying82 (by rw [List.length_take, List.length_drop]; omega) (by rw [List.length_take, List.length_drop]; omega))
  rw [show (Op.equalIn 10000 t (.agg (mcells m)) (.agg (mcells g))).run Tryz.prog w = _ from e1.trans e2]
  simp only [Result.andThen_ok]
  have hb : (sameB ((m.drop (0 * 3)).take 3) ((g.drop (0 * 3)).take 3) && (sameB ((m.drop (1 * 3)).take 3) ((g.drop (1 * 3)).take 3) && (sameB ((m.drop (2 * 3)).take 3) ((g.drop (2 * 3)).take 3) && true))) = sameB m g := by
    obtain ⟨a, b, c, d, e, f, g', i', j, rfl⟩ := list9 hm
    obtain ⟨a', b', c', d', e', f', g'', i'', j', rfl⟩ := list9 hg
    rw [Bool.eq_iff_iff]
    simp [sameB]
    omega
  rw [hb]
theorem run_neq_mat (w : World) (t : Nat) (ht : Tryz.prog.underlying t = some (.array 3 82)) {m g : List Int} (hm : m.length = 9) (hg : g.length = 9) :
    (binOp .neq t (.agg (mcells m)) (.agg (mcells g))).run Tryz.prog w = .ok (.bool (!sameB m g)) w := by
  have h := run_eql_mat w t ht hm hg
  rw [run_eql_struct] at h
  rw [run_neq_struct]
  cases he : (Op.equalIn 10000 t (.agg (mcells m)) (.agg (mcells g))).run Tryz.prog w with
  | ok b w' =>
    rw [he] at h
    rw [Result.andThen_ok] at h ⊢
    have h1 : Value.bool b = .bool (sameB m g) ∧ w' = w := by
      cases h; exact ⟨rfl, rfl⟩
    have h2 : b = sameB m g := by cases h1.1; rfl
    rw [h2, h1.2]
  | halt x w' => rw [he] at h; cases h
theorem add_add' (ad : Addr) (i j : Nat) : (ad.add i).add j = ad.add (i + j) := by
  unfold Addr.add
  by_cases hi : i = 0
  · subst hi; simp
  · by_cases hj : j = 0
    · subst hj; simp [hi]
    · simp [hi, hj, Nat.add_assoc]
/-- A whole matrix read inside a region that draws its order and only reads. -/
theorem quiet_load_mat {P : Program} {ops : Array Oper} {C : World → Prop} {Q : Act → Prop} {a : Act} {o : Oper} {rest : List Oper} (hw : Region.wanted o (yielded ops a.tmps) = true) (ty : Nat) (x : Tmp) (ho : o.op = .load ty (.tmp x)) (ad : Addr) (hx : a.eval (.tmp x) = .pointer (some ad)) (m : List Int) (hm : m.length = 9)
    (hc : ∀ W, C W → ∀ j, j < 9 → W.cell? (ad.add j) = some (.int .u8 (nt m j))) (d : TypeDesc) (hu : P.underlying ty = some d) (hd : (match d with | .struct _ | .array _ _ => true | _ => false) = true) (hi : (P.info? ty).map (·.size) = some 9)
    {a' : Act} (ha : a.put o.dst (.agg (mcells m)) = a') (h : wpQuiet P ops C Q rest a') : wpQuiet P ops C Q (o :: rest) a := by
  refine wpQuiet_step fun K hK => ?_
  rw [if_pos hw]
  refine ⟨.agg (mcells m), fun W hW => ?_, hK _ (ha ▸ h)⟩
  have hr := run_loadVar_at (P := P) W ad ty (encs (Value.int .u8) m) d (fun j v hv => by
    have hj : j < m.length := by
      have := (List.getElem?_eq_some_iff.1 hv).1
      simpa [encs] using this
    have e := hc W hW j (by omega)
    rw [e, nt_eq m j hj]
    simpa [encs, List.getElem?_eq_getElem hj] using hv) hu hd (by rw [hi]; simp [encs, hm])
  unfold Oper.quietAt execOp
  simp only [ho, hx, Instr.loadAt, Instr.sureAddr, Sem.run_bind, Sem.run_pure, Result.andThen_ok, hr]
  exact ⟨rfl, rfl⟩
end Go.Proofs.YtbenhcognapdpaaGreat
/- Walks: matrices looked for and compared. -/
set_option linter.unusedVariables false
set_option linter.unusedSimpArgs false
namespace Go.Proofs.YtbenhcognapdpaaGreat
open Go.RowKit Go.Proofs.YtbenhcognapdpaaGreatW.PrintWords Go.Proofs.YtbenhcognapdpaaGreatW.PrintLast Lin

abbrev kM : Kd (List Int) := Kd.arr 9 (Kd.int .u8) (by decide)
theorem at_mat {w : World} {A : Option Addr} {n : Nat} {xs : List (List Int)} (h : kM.C w A n xs) (i : Nat) (h1 : i < n) :
    ∃ ad m, m = ntR xs i ∧ A = some ad ∧ m.length = 9 ∧ ∀ j, j < 9 → w.cell? (ad.add (i * 9 + j)) = some (.int .u8 (nt m j)) := by
  obtain ⟨ad, c, e, _, hK, hc⟩ := Kd.C_get h ([] : List Int) (i : Int) (by omega) (by omega)
  obtain ⟨hl, hcs⟩ := Kd.arr_cells hK
  refine ⟨ad, ntR xs i, rfl, e, by simpa [ntR] using hl, fun j hj => ?_⟩
  have hc2 : ∀ j u, c[j]? = some u → w.cell? (ad.add (i * 9 + j)) = some u := hc
  refine hc2 j _ ?_
  have hl' : (ntR xs i).length = 9 := by simpa [ntR] using hl
  have e2 : c = encs (Value.int .u8) (ntR xs i) := by simpa [ntR] using hcs
  rw [e2]
  simp [encs, nt_eq _ j (by omega : j < (ntR xs i).length), List.getElem?_eq_getElem (by omega : j < (ntR xs i).length)]
theorem mcells_eq {m : List Int} (h : m.length = 9) : (#[.int .u8 (nt m 0), .int .u8 (nt m 1), .int .u8 (nt m 2), .int .u8 (nt m 3), .int .u8 (nt m 4), .int .u8 (nt m 5), .int .u8 (nt m 6), .int .u8 (nt m 7), .int .u8 (nt m 8)] : Array Value) = mcells m := by
  obtain ⟨a, b, c, d, e, f, g, i, j, rfl⟩ : ∃ a b c d e f g i j, m = [a, b, c, d, e, f, g, i, j] := by
    match m, h with
    | [a, b, c, d, e, f, g, i, j], _ => exact ⟨a, b, c, d, e, f, g, i, j, rfl⟩
  rfl

/-- The number of a matrix in a list, -1 if it is not there. -/
def findM (l : List (List Int)) (g : List Int) : Int := if l.findIdx (· == g) < l.length then (l.findIdx (· == g) : Int) else -1
theorem findM_at {l : List (List Int)} {g : List Int} {k : Nat} (hk : k < l.length) (hz : ∀ j < k, ntR l j ≠ g) (h : ntR l k = g) : findM l g = k := by
  have e : l.findIdx (· == g) = k := by
    rcases Nat.lt_trichotomy (l.findIdx (· == g)) k with h1 | h1 | h1
    · have h2 := List.findIdx_getElem (p := (· == g)) (xs := l) (w := by omega)
      have h3 := hz _ h1
      rw [ntR_eq l _ (by omega)] at h3
      exact absurd (by simpa using h2) h3
    · exact h1
    · have h2 := List.not_of_lt_findIdx (p := (· == g)) (xs := l) h1
      rw [ntR_eq l k hk] at h
      simp [h] at h2
  unfold findM
  rw [e, if_pos hk]
theorem findM_none {l : List (List Int)} {g : List Int} (hz : ∀ j < l.length, ntR l j ≠ g) : findM l g = -1 := by
  unfold findM
  rw [if_neg]
  intro h
  have h2 := List.findIdx_getElem (p := (· == g)) (xs := l) (w := h)
  have h3 := hz _ h
  rw [ntR_eq l _ h] at h3
  exact h3 (by simpa using h2)
theorem findM_mem {l : List (List Int)} {g : List Int} : 0 ≤ findM l g ↔ g ∈ l := by
  unfold findM
  constructor
  · intro h
    split at h
    · rename_i h2
      have h3 := List.findIdx_getElem (p := (· == g)) (xs := l) (w := h2)
      have h4 : l[List.findIdx (· == g) l] = g := by simpa using h3
      rw [← h4]; exact List.getElem_mem h2
    · omega
  · intro h
    have : l.findIdx (· == g) < l.length := List.findIdx_lt_length.2 ⟨g, h, by simp⟩
    rw [if_pos this]; omega

set_option maxRecDepth 100000 in
set_option maxHeartbeats 1000000 in
theorem l02Find_calls (A : Option Addr) (n c : Nat) (l : List (List Int)) (g : List Int) (w : World) (hr : kM.C w A n l) (hg : g.length = 9) :
    Calls Tryz.prog 142 #[.slice A n c, .agg (mcells g)] w fun e w' => e = .returned (.int .i64 (findM l g)) ∧ Below w.heap.size w w' := by
  obtain rfl := Kd.C_len hr
  have hm := Kd.C_max hr
  have HR := Aside0.mk hr
  have HG := Aside0.mk hg
  clear hr hg
  go_enter Tryz.func142, Tryz.ntmps142
  go_wp2
  go_loopw [5] (fun v wr => ∃ k : Nat, v = .int .i64 k ∧ k ≤ l.length ∧ Aside0 (∀ j < k, ntR l j ≠ g) ∧ Blk wr w.heap.size 138 (mcells g) ∧ Aside0 (Below w.heap.size w wr)) (fun v _ => l.length - (intOf v).toNat)
  case atStart => exact ⟨0, rfl, by omega, ⟨fun j hj => by omega⟩, Blk.new _ _ _, ⟨below_alloc (Below.refl _ _) _⟩⟩
  case round =>
    obtain ⟨k, rfl, hk, HZ, H1, HB⟩ := hrel
    by_cases hlt : k < l.length
    · obtain ⟨ad, m, hmm, rfl, hm9, hc⟩ := at_mat HR.out k hlt
      have HC := Aside0.mk (fun j (hj : j < 9) => (HB.out.cell (World.block_lt_of_cell? w _ (hc j hj))).trans (hc j hj))
      have HM := Aside0.mk (And.intro hmm hm9)
      have heq := fun w => run_eql_mat w 138 Tryz.underlying138 hm9 HG.out
      clear hmm hm9 hc
      have hsb := Aside0.mk (show sameB m g = decide (m = g) from rfl)
      by_cases hs : m = g
      · have hsb : sameB m g = true := decide_eq_true hs
        have HS := Aside0.mk hs
        clear hs
        go_wp2
        (refine wp_region_quiet_lit (by kernel_rfl) (by kernel_rfl) ?_; repeat (quiet_step (fail)))
        refine quiet_load_mat (by rfl) _ 14 rfl (ad.add (k * 9)) rfl m HM.out.2 (by rintro W ⟨nq, rfl⟩ j hj; exact (by rw [add_add']; exact HC.out j hj)) _ Tryz.underlying138 rfl sizeM (by simp only [Act.put, List.setIfInBounds_toArray, List.set_cons_zero, List.set_cons_succ]; rfl) ?_
        refine quiet_load_mat (by rfl) _ 3 rfl ⟨w.heap.size, 0, none⟩ rfl g HG.out (by rintro W ⟨nq, rfl⟩ j hj; exact (by rw [add_plain]; exact H1.cell j (mcells_get g j (by rw [HG.out]; exact hj)))) _ Tryz.underlying138 rfl sizeM (by simp only [Act.put, List.setIfInBounds_toArray, List.set_cons_zero, List.set_cons_succ]; rfl) ?_
        (repeat (quiet_step (fail))); (refine wpQuiet_nil ?_; intro _ hw'; obtain ⟨nq, hw''⟩ := hw'; subst hw'')
        go_wp2
        go_ret
        exact ⟨ret_i (findM_at hlt HZ.out (by rw [← HM.out.1]; exact HS.out)).symm, (by repeat (first | (with_reducible first | exact HB.out | apply below_alloc | apply pw_below_drewN | apply below_drew1) | exact HB.out | exact Below.refl _ _))⟩
      · have hsb : sameB m g = false := decide_eq_false hs
        have HS := Aside0.mk hs
        clear hs
        go_wp2
        (refine wp_region_quiet_lit (by kernel_rfl) (by kernel_rfl) ?_; repeat (quiet_step (fail)))
        refine quiet_load_mat (by rfl) _ 14 rfl (ad.add (k * 9)) rfl m HM.out.2 (by rintro W ⟨nq, rfl⟩ j hj; exact (by rw [add_add']; exact HC.out j hj)) _ Tryz.underlying138 rfl sizeM (by simp only [Act.put, List.setIfInBounds_toArray, List.set_cons_zero, List.set_cons_succ]; rfl) ?_
        refine quiet_load_mat (by rfl) _ 3 rfl ⟨w.heap.size, 0, none⟩ rfl g HG.out (by rintro W ⟨nq, rfl⟩ j hj; exact (by rw [add_plain]; exact H1.cell j (mcells_get g j (by rw [HG.out]; exact hj)))) _ Tryz.underlying138 rfl sizeM (by simp only [Act.put, List.setIfInBounds_toArray, List.set_cons_zero, List.set_cons_succ]; rfl) ?_
        (repeat (quiet_step (fail))); (refine wpQuiet_nil ?_; intro _ hw'; obtain ⟨nq, hw''⟩ := hw'; subst hw'')
        go_wp2
        go_roundw
        case rel => exact ⟨k + 1, by go_num, by omega, ⟨fun j hj => by rcases Nat.lt_succ_iff_lt_or_eq.1 hj with h | h; exact HZ.out j h; subst h; rw [← HM.out.1]; exact HS.out⟩, H1.drewN _, ⟨(by repeat (first | (with_reducible first | exact HB.out | apply below_alloc | apply pw_below_drewN | apply below_drew1) | exact HB.out | exact Below.refl _ _))⟩⟩
        case measure => simp [intOf]; omega
    · have HE := Aside0.mk (show k = l.length by omega)
      go_wp2
      go_ret
      exact ⟨ret_i (findM_none (by rw [← HE.out]; exact HZ.out)).symm, HB.out⟩
end Go.Proofs.YtbenhcognapdpaaGreat
/- Walks: determinants. -/
set_option linter.unusedVariables false
set_option linter.unusedSimpArgs false
namespace Go.Proofs.YtbenhcognapdpaaGreat
open Go.RowKit Go.Proofs.YtbenhcognapdpaaGreatW.PrintWords Go.Proofs.YtbenhcognapdpaaGreatW.PrintLast Lin

theorem detAt_calls (i j : Int) (hi : 0 ≤ i ∧ i < 3) (hj : 0 ≤ j ∧ j < 3) (m : List Int) (B : Nat) (w : World) (H : Blk w B 138 (mcells m)) (hm : IsM m) :
    Calls Tryz.prog 276 #[.int .i64 i, .int .i64 j, .pointer (some ⟨B, 0, none⟩)] w fun e w' => ∃ v, e = .returned (.int .i64 v) ∧ v = nt m (i.toNat * 3 + j.toNat) ∧ w = w' := by
  obtain ⟨a, rfl⟩ : ∃ a : Nat, i = a := ⟨i.toNat, by omega⟩
  obtain ⟨b, rfl⟩ : ∃ b : Nat, j = b := ⟨j.toNat, by omega⟩
  have hc := H.cell (a * 3 + b) (mcells_get m _ (by have := hm.1; omega))
  have hv := hm.nt (a * 3 + b)
  go_enter Tryz.func276, Tryz.ntmps276
  go_wp2
  go_ret
  exact ⟨_, rfl, by simp, rfl⟩

theorem mul_bd {a b : Int} (ha : 0 ≤ a ∧ a ≤ 255) (hb : 0 ≤ b ∧ b ≤ 255) : 0 ≤ a * b ∧ a * b ≤ 65025 :=
  ⟨Int.mul_nonneg ha.1 hb.1, Int.le_trans (Int.mul_le_mul ha.2 hb.2 hb.1 (by omega)) (by omega)⟩
theorem mul_bd2 {a b : Int} (ha : 0 ≤ a ∧ a ≤ 255) (hb : -65025 ≤ b ∧ b ≤ 65025) : -16581375 ≤ a * b ∧ a * b ≤ 16581375 := by
  constructor
  · have h : a * -65025 ≤ a * b := Int.mul_le_mul_of_nonneg_left hb.1 ha.1
    omega
  · have h : a * b ≤ a * 65025 := Int.mul_le_mul_of_nonneg_left hb.2 ha.1
    omega
set_option maxRecDepth 100000 in
set_option maxHeartbeats 1000000 in
theorem determinant_calls (p : Int) (n : Nat) (m : List Int) (w : World) (hp : 0 < p) (hp2 : p ≤ 256) (hn : 1 ≤ n) (hn3 : n ≤ 3) (hm : IsM m) :
    Calls Tryz.prog 253 #[.int .i64 p, .int .i64 n, .agg (mcells m)] w fun e w' => e = .returned (.int .i64 (detV n m % p)) ∧ Below w.heap.size w w' := by
  have HM := Aside0.mk hm
  have hp0 : (p == 0) = false := by rw [beq_eq_false_iff_ne]; omega
  have H1 := Blk.new w (mcells m) 138
  have b0 := hm.nt 0
  have b1 := hm.nt 1
  have b2 := hm.nt 2
  have b3 := hm.nt 3
  have b4 := hm.nt 4
  have b5 := hm.nt 5
  have b6 := hm.nt 6
  have b7 := hm.nt 7
  have b8 := hm.nt 8
  clear hm
  have HD : Aside0 (∀ X : Int, X = detV n m → (X.tmod p + p) % p = detV n m % p) := ⟨fun X h => by rw [tmod_mod hp, h]⟩
  have ht : ∀ X : Int, -p < X.tmod p ∧ X.tmod p < p := fun X => ⟨Int.lt_tmod_of_pos X hp, Int.tmod_lt_of_pos X hp⟩
  obtain rfl | rfl | rfl : n = 1 ∨ n = 2 ∨ n = 3 := by omega
  · have t1 := Int.emod_nonneg (nt m 0) (show p ≠ 0 by omega)
    have t2 := Int.emod_lt_of_pos (nt m 0) hp
    clear ht
    go_enter Tryz.func253, Tryz.ntmps253
    go_wp2_with ((go_at_call 276; refine (detAt_calls _ _ (by decide) (by decide) m _ _ H1 HM.out).mono ?_; rintro e w' ⟨v, rfl, hv, rfl⟩; simp at hv; subst hv))
    go_ret
    exact ⟨ret_i (by rw [Int.add_emod_right, Int.emod_emod]; rfl), below_alloc (Below.refl _ _) _⟩
  · have m1 := mul_bd b0 b4
    have m2 := mul_bd b1 b3
    have t := ht (nt m 0 * nt m 4 - nt m 1 * nt m 3)
    clear ht
    go_enter Tryz.func253, Tryz.ntmps253
    go_wp2_with ((go_at_call 276; refine (detAt_calls _ _ (by decide) (by decide) m _ _ H1 HM.out).mono ?_; rintro e w' ⟨v, rfl, hv, rfl⟩; simp at hv; subst hv))
    go_ret
    exact ⟨ret_i (HD.out _ rfl), below_alloc (Below.refl _ _) _⟩
  · have m1 := mul_bd b4 b8
    have m2 := mul_bd b5 b7
    have m3 := mul_bd b3 b8
    have m4 := mul_bd b5 b6
    have m5 := mul_bd b3 b7
    have m6 := mul_bd b4 b6
    have m7 := mul_bd2 b0 (show -65025 ≤ nt m 4 * nt m 8 - nt m 5 * nt m 7 ∧ _ by omega)
    have m8 := mul_bd2 b1 (show -65025 ≤ nt m 3 * nt m 8 - nt m 5 * nt m 6 ∧ _ by omega)
    have m9 := mul_bd2 b2 (show -65025 ≤ nt m 3 * nt m 7 - nt m 4 * nt m 6 ∧ _ by omega)
    have t := ht (nt m 0 * (nt m 4 * nt m 8 - nt m 5 * nt m 7) - nt m 1 * (nt m 3 * nt m 8 - nt m 5 * nt m 6) + nt m 2 * (nt m 3 * nt m 7 - nt m 4 * nt m 6))
    clear ht
    go_enter Tryz.func253, Tryz.ntmps253
    go_wp2_with ((go_at_call 276; refine (detAt_calls _ _ (by decide) (by decide) m _ _ H1 HM.out).mono ?_; rintro e w' ⟨v, rfl, hv, rfl⟩; simp at hv; subst hv))
    go_ret
    exact ⟨ret_i (HD.out _ rfl), below_alloc (Below.refl _ _) _⟩
end Go.Proofs.YtbenhcognapdpaaGreat
/- Walks: matrices in order, and in groups. -/
set_option linter.unusedVariables false
set_option linter.unusedSimpArgs false
namespace Go.Proofs.YtbenhcognapdpaaGreat
open Go.RowKit Go.Proofs.YtbenhcognapdpaaGreatW.PrintWords Go.Proofs.YtbenhcognapdpaaGreatW.PrintLast Lin

set_option maxRecDepth 100000 in
set_option maxHeartbeats 1000000 in
theorem index_calls (A : Option Addr) (n c : Nat) (l : List (List Int)) (g : List Int) (w : World) (hr : kM.C w A n l) (hg : g.length = 9) :
    Calls Tryz.prog 255 #[.slice A n c, .agg (mcells g)] w fun e w' => e = .returned (.int .i64 (findM l g)) ∧ Below w.heap.size w w' := by
  obtain rfl := Kd.C_len hr
  have hm := Kd.C_max hr
  have HR := Aside0.mk hr
  have HG := Aside0.mk hg
  clear hr hg
  go_enter Tryz.func255, Tryz.ntmps255
  go_wp2
  go_loopw [8] (fun v wr => ∃ k : Nat, v = .int .i64 k ∧ k ≤ l.length ∧ Aside0 (∀ j < k, ntR l j ≠ g) ∧ Blk wr w.heap.size 138 (mcells g) ∧ Aside0 (Below w.heap.size w wr)) (fun v _ => l.length - (intOf v).toNat)
  case atStart => exact ⟨0, rfl, by omega, ⟨fun j hj => by omega⟩, Blk.new _ _ _, ⟨below_alloc (Below.refl _ _) _⟩⟩
  case round =>
    obtain ⟨k, rfl, hk, HZ, H1, HB⟩ := hrel
    by_cases hlt : k < l.length
    · obtain ⟨ad, m, hmm, rfl, hm9, hc⟩ := at_mat HR.out k hlt
      have HC := Aside0.mk (fun j (hj : j < 9) => (HB.out.cell (World.block_lt_of_cell? w _ (hc j hj))).trans (hc j hj))
      have HM := Aside0.mk (And.intro hmm hm9)
      have heq := fun w => run_eql_mat w 138 Tryz.underlying138 HG.out hm9
      clear hmm hm9 hc
      by_cases hs : g = m
      · have hsb : sameB g m = true := decide_eq_true hs
        have HS := Aside0.mk hs
        clear hs
        go_wp2
        (refine wp_region_quiet_lit (by kernel_rfl) (by kernel_rfl) ?_; repeat (quiet_step (fail)))
        refine quiet_load_mat (by rfl) _ 3 rfl ⟨w.heap.size, 0, none⟩ rfl g HG.out (by rintro W ⟨nq, rfl⟩ j hj; exact (by rw [add_plain]; exact H1.cell j (mcells_get g j (by rw [HG.out]; exact hj)))) _ Tryz.underlying138 rfl sizeM (by simp only [Act.put, List.setIfInBounds_toArray, List.set_cons_zero, List.set_cons_succ]; rfl) ?_
        repeat (quiet_step (fail))
        refine quiet_load_mat (by rfl) _ 14 rfl (ad.add (k * 9)) rfl m HM.out.2 (by rintro W ⟨nq, rfl⟩ j hj; exact (by rw [add_add']; exact HC.out j hj)) _ Tryz.underlying138 rfl sizeM (by simp only [Act.put, List.setIfInBounds_toArray, List.set_cons_zero, List.set_cons_succ]; rfl) ?_
        (repeat (quiet_step (fail))); (refine wpQuiet_nil ?_; intro _ hw'; obtain ⟨nq, hw''⟩ := hw'; subst hw'')
        go_wp2
        go_ret
        exact ⟨ret_i (findM_at hlt HZ.out (by rw [← HM.out.1]; exact HS.out.symm)).symm, (by repeat (first | (with_reducible first | exact HB.out | apply below_alloc | apply pw_below_drewN | apply below_drew1) | exact HB.out | exact Below.refl _ _))⟩
      · have hsb : sameB g m = false := decide_eq_false hs
        have HS := Aside0.mk hs
        clear hs
        go_wp2
        (refine wp_region_quiet_lit (by kernel_rfl) (by kernel_rfl) ?_; repeat (quiet_step (fail)))
        refine quiet_load_mat (by rfl) _ 3 rfl ⟨w.heap.size, 0, none⟩ rfl g HG.out (by rintro W ⟨nq, rfl⟩ j hj; exact (by rw [add_plain]; exact H1.cell j (mcells_get g j (by rw [HG.out]; exact hj)))) _ Tryz.underlying138 rfl sizeM (by simp only [Act.put, List.setIfInBounds_toArray, List.set_cons_zero, List.set_cons_succ]; rfl) ?_
        repeat (quiet_step (fail))
        refine quiet_load_mat (by rfl) _ 14 rfl (ad.add (k * 9)) rfl m HM.out.2 (by rintro W ⟨nq, rfl⟩ j hj; exact (by rw [add_add']; exact HC.out j hj)) _ Tryz.underlying138 rfl sizeM (by simp only [Act.put, List.setIfInBounds_toArray, List.set_cons_zero, List.set_cons_succ]; rfl) ?_
        (repeat (quiet_step (fail))); (refine wpQuiet_nil ?_; intro _ hw'; obtain ⟨nq, hw''⟩ := hw'; subst hw'')
        go_wp2
        go_roundw
        case rel => exact ⟨k + 1, by go_num, by omega, ⟨fun j hj => by rcases Nat.lt_succ_iff_lt_or_eq.1 hj with h | h; exact HZ.out j h; subst h; rw [← HM.out.1]; exact fun e => HS.out e.symm⟩, H1.drewN _, ⟨(by repeat (first | (with_reducible first | exact HB.out | apply below_alloc | apply pw_below_drewN | apply below_drew1) | exact HB.out | exact Below.refl _ _))⟩⟩
        case measure => simp [intOf]; omega
    · have HE := Aside0.mk (show k = l.length by omega)
      go_wp2
      go_ret
      exact ⟨ret_i (findM_none (by rw [← HE.out]; exact HZ.out)).symm, HB.out⟩

def hasB (l : List (List Int)) (g : List Int) : Bool := decide (g ∈ l)
theorem findM_hasB (l : List (List Int)) (g : List Int) : decide (0 ≤ findM l g) = hasB l g := by
  unfold hasB
  rw [Bool.eq_iff_iff, decide_eq_true_iff, decide_eq_true_iff]
  exact findM_mem
set_option maxHeartbeats 1000000 in
theorem contains_calls (A : Option Addr) (n c : Nat) (l : List (List Int)) (g : List Int) (w : World) (hr : kM.C w A n l) (hg : g.length = 9) :
    Calls Tryz.prog 220 #[.slice A n c, .agg (mcells g)] w fun e w' => e = .returned (.bool (hasB l g)) ∧ Below w.heap.size w w' := by
  have HR := Aside0.mk hr
  have HG := Aside0.mk hg
  clear hr hg
  go_enter Tryz.func220, Tryz.ntmps220
  have H1 := Blk.new w (mcells g) 138
  go_wp2_with (first
    | (refine load_blk rfl _ 3 rfl H1 rfl _ Tryz.underlying138 rfl (sizeM_of HG.out) ?_)
    | (go_at_call 255; refine (index_calls _ _ _ l g _ (Kd.C_alloc HR.out _) HG.out).mono ?_; rintro e w' ⟨rfl, hb⟩; have HB := Aside0.mk hb; clear hb))
  go_ret
  exact ⟨ret_b (findM_hasB l g), below_step (below_alloc (Below.refl _ _) _) HB.out⟩
set_option maxHeartbeats 1000000 in
theorem has_calls (p n : Int) (A : Option Addr) (k c : Nat) (l : List (List Int)) (g : List Int) (w : World) (hr : kM.C w A k l) (hg : g.length = 9) :
    Calls Tryz.prog 151 #[.agg #[.int .i64 p, .int .i64 n, .slice A k c], .agg (mcells g)] w fun e w' => e = .returned (.bool (hasB l g)) ∧ Below w.heap.size w w' := by
  have HR := Aside0.mk hr
  have HG := Aside0.mk hg
  clear hr hg
  go_enter Tryz.func151, Tryz.ntmps151
  have H1 := Blk.new1 w (.cells #[.int .i64 p, .int .i64 n, .slice A k c] 37) (mcells g) 138
  go_wp2_with (first
    | (refine load_blk rfl _ 3 rfl H1 rfl _ Tryz.underlying138 rfl (sizeM_of HG.out) ?_)
    | (go_at_call 220; refine (contains_calls _ _ _ l g _ (Kd.C_alloc (Kd.C_alloc HR.out _) _) HG.out).mono ?_; rintro e w' ⟨rfl, hb⟩; have HB := Aside0.mk hb; clear hb))
  go_ret
  exact ⟨rfl, below_step (below_alloc (below_alloc (Below.refl _ _) _) _) HB.out⟩

theorem cmp_bytes : ∀ (a b : List Int), (∀ x ∈ a, 0 ≤ x ∧ x ≤ 255) → (∀ x ∈ b, 0 ≤ x ∧ x ≤ 255) → Lib.compareBytes (a.map fun x => x.toNat.toUInt8) (b.map fun x => x.toNat.toUInt8) = cmpL a b
  | [], [], _, _ => rfl
  | [], _ :: _, _, _ => rfl
  | _ :: _, [], _, _ => rfl
  | a :: as', b :: bs, ha, hb => by
    have h1 := ha a (List.mem_cons_self ..)
    have h2 := hb b (List.mem_cons_self ..)
    have ih := cmp_bytes as' bs (fun x hx => ha x (List.mem_cons_of_mem _ hx)) (fun x hx => hb x (List.mem_cons_of_mem _ hx))
    have e1 : (a.toNat.toUInt8 < b.toNat.toUInt8) ↔ a < b := by
      rw [UInt8.lt_iff_toNat_lt]; simp; omega
    have e2 : (b.toNat.toUInt8 < a.toNat.toUInt8) ↔ b < a := by
      rw [UInt8.lt_iff_toNat_lt]; simp; omega
    simp only [List.map_cons, Lib.compareBytes, cmpL, e1, e2, ih]
theorem run_loadBytes3 {P : Program} (w : World) (ad : Addr) (a : List Int) (ha : a.length = 3) (hc : ∀ j, j < 3 → w.cell? (ad.add j) = some (.int .u8 (nt a j))) :
    (Extern.Bytes.loadBytes ad 3 .empty).run P w = .ok ⟨(a.map fun x => x.toNat.toUInt8).toArray⟩ w := by
  obtain ⟨x, y, z, rfl⟩ : ∃ x y z, a = [x, y, z] := by
    match a, ha with
    | [x, y, z], _ => exact ⟨x, y, z, rfl⟩
  have c0 := hc 0 (by omega)
  have c1 := hc 1 (by omega)
  have c2 := hc 2 (by omega)
  have e1 : (ad.add 1).add 1 = ad.add 2 := add_add' _ _ _
  rw [show ad.add 0 = ad by simp [Addr.add]] at c0
  have l0 : (load ad).run P w = .ok (.int .u8 x) w := by rw [run_load, c0]; rfl
  have l1 : (load (ad.add 1)).run P w = .ok (.int .u8 y) w := by rw [run_load, c1]; rfl
  have l2 : (load (ad.add 2)).run P w = .ok (.int .u8 z) w := by rw [run_load, c2]; rfl
  simp only [Extern.Bytes.loadBytes, Sem.run_bind, l0, Result.andThen_ok, l1, e1, l2, Sem.run_pure]
  rfl
theorem run_cmp3 {P : Program} (w : World) (ad ad' : Addr) (c c' : Nat) (a b : List Int) (ha : a.length = 3) (hb : b.length = 3) (ba : ∀ x ∈ a, 0 ≤ x ∧ x ≤ 255) (bb : ∀ x ∈ b, 0 ≤ x ∧ x ≤ 255)
    (hc : ∀ j, j < 3 → w.cell? (ad.add j) = some (.int .u8 (nt a j))) (hc' : ∀ j, j < 3 → w.cell? (ad'.add j) = some (.int .u8 (nt b j))) :
    (Extern.BytealgCompare.compare #[.slice (some ad) 3 c, .slice (some ad') 3 c']).run P w = .ok (.int .i64 (cmpL a b)) w := by
  change Sem.run P (do pure (goInt (Extern.BytealgCompare.cmp (← Extern.Bytes.bytesOf (.slice (some ad) 3 c)) (← Extern.Bytes.bytesOf (.slice (some ad') 3 c'))))) w = _
  simp only [Extern.Bytes.bytesOf, Sem.run_bind, run_loadBytes3 w ad a ha hc, Result.andThen_ok, run_loadBytes3 w ad' b hb hc', Sem.run_pure]
  rw [Lib.cmp_eq]
  show Result.ok (goInt (Lib.compareBytes (a.map fun x => x.toNat.toUInt8) (b.map fun x => x.toNat.toUInt8))) w = _
  rw [cmp_bytes a b ba bb]
  rfl

set_option maxRecDepth 100000 in
theorem bytesCompare_calls (ad ad' : Addr) (c c' : Nat) (a b : List Int) (w : World) (ha : a.length = 3) (hb : b.length = 3) (ba : ∀ x ∈ a, 0 ≤ x ∧ x ≤ 255) (bb : ∀ x ∈ b, 0 ≤ x ∧ x ≤ 255)
    (hc : ∀ j, j < 3 → w.cell? (ad.add j) = some (.int .u8 (nt a j))) (hc' : ∀ j, j < 3 → w.cell? (ad'.add j) = some (.int .u8 (nt b j))) :
    Calls Tryz.prog 219 #[.slice (some ad) 3 c, .slice (some ad') 3 c'] w fun e w' => e = .returned (.int .i64 (cmpL a b)) ∧ w' = w := by
  have HR := Aside0.mk (run_cmp3 (P := Tryz.prog) w ad ad' c c' a b ha hb ba bb hc hc')
  clear ha hb ba bb hc hc'
  go_enter Tryz.func219, Tryz.ntmps219
  go_wp2
  rw [run_callFunc_extern Tryz.func254 (by kernel_rfl) (by kernel_rfl) (by kernel_rfl) (e := Extern.BytealgCompare.compare) (by kernel_rfl), HR.out]
  simp only [Result.andThen]
  rw [Oper.upon_value]
  go_wp2
  go_ret
  exact ⟨rfl, rfl⟩

set_option maxRecDepth 100000 in
set_option maxHeartbeats 1000000 in
theorem compareMatrices_calls (m g : List Int) (w : World) (hm : IsM m) (hg : IsM g) :
    Calls Tryz.prog 150 #[.agg (mcells m), .agg (mcells g)] w fun e w' => e = .returned (.int .i64 (cmpL m g)) ∧ Below w.heap.size w w' := by
  have HM := Aside0.mk hm
  have HG := Aside0.mk hg
  clear hm hg
  go_enter Tryz.func150, Tryz.ntmps150
  go_wp2
  go_loopw [7] (fun v wr => ∃ k : Nat, v = .int .i64 k ∧ k ≤ 3 ∧ Aside0 (∀ j < k * 3, nt m j = nt g j) ∧ Blk wr w.heap.size 138 (mcells m) ∧ Blk wr (w.heap.size + 1) 138 (mcells g) ∧ Aside0 (Below w.heap.size w wr)) (fun v _ => 3 - (intOf v).toNat)
  case atStart => exact ⟨0, rfl, by omega, ⟨fun j hj => by omega⟩, (Blk.new _ _ _).alloc _, Blk.new1 _ _ _ _, ⟨below_alloc (below_alloc (Below.refl _ _) _) _⟩⟩
  case round =>
    obtain ⟨k, rfl, hk, HZ, H1, H2, HB⟩ := hrel
    by_cases hlt : k < 3
    · have HC := Aside0.mk (fun (W : World) (nq : Nat) (hW : W = wr.drewN nq) => bytesCompare_calls ⟨w.heap.size, k * 3, none⟩ ⟨w.heap.size + 1, k * 3, none⟩ 3 3 (rowM m k) (rowM g k) W (rowM_len HM.out.1 hlt) (rowM_len HG.out.1 hlt)
        (fun x hx => HM.out.2 x (List.mem_of_mem_drop (List.mem_of_mem_take hx))) (fun x hx => HG.out.2 x (List.mem_of_mem_drop (List.mem_of_mem_take hx)))
        (fun j hj => by rw [rowM_nt HM.out.1 hlt hj, hW, Addr.add_lit]; exact (H1.drewN nq).cell _ (mcells_get m _ (by have := HM.out.1; omega)))
        (fun j hj => by rw [rowM_nt HG.out.1 hlt hj, hW, Addr.add_lit]; exact (H2.drewN nq).cell _ (mcells_get g _ (by have := HG.out.1; omega))))
      have hcs := cmpL_cases (rowM m k) (rowM g k)
      by_cases hs : cmpL (rowM m k) (rowM g k) = 0
      · have hb : (cmpL (rowM m k) (rowM g k) != 0) = false := by simp [hs]
        have HN := Aside0.mk (rows_next HM.out.1 HG.out.1 hlt HZ.out hs)
        clear hs hcs
        go_wp2
        go_quiet ((go_at_call 219; exact Calls.quiet_of_same (HC.out _ _ rfl)))
        go_wp2
        go_roundw
        case rel => exact ⟨k + 1, by go_num, by omega, HN, H1.drewN _, H2.drewN _, ⟨(by repeat (first | (with_reducible first | exact HB.out | apply below_alloc | apply pw_below_drewN | apply below_drew1) | exact HB.out | exact Below.refl _ _))⟩⟩
        case measure => simp [intOf]; omega
      · have hb : (cmpL (rowM m k) (rowM g k) != 0) = true := by simpa using hs
        have HN := Aside0.mk (cmpL_row HM.out.1 HG.out.1 hlt HZ.out hs)
        clear hs hcs
        go_wp2
        go_quiet ((go_at_call 219; exact Calls.quiet_of_same (HC.out _ _ rfl)))
        go_wp2
        go_ret
        exact ⟨ret_i HN.out.symm, (by repeat (first | (with_reducible first | exact HB.out | apply below_alloc | apply pw_below_drewN | apply below_drew1) | exact HB.out | exact Below.refl _ _))⟩
    · have HE := Aside0.mk (show k = 3 by omega)
      go_wp2
      go_ret
      exact ⟨ret_i (cmpL_all HM.out.1 HG.out.1 (by have := HZ.out; rw [HE.out] at this; exact this)).symm, HB.out⟩

/-- Whether a matrix comes ahead. -/
def beforeB (m g : List Int) : Bool := decide (cmpL m g < 0)
set_option maxRecDepth 100000 in
set_option maxHeartbeats 1000000 in
theorem l02Before_calls (m g : List Int) (w : World) (hm : IsM m) (hg : IsM g) :
    Calls Tryz.prog 141 #[.agg (mcells m), .agg (mcells g)] w fun e w' => e = .returned (.bool (beforeB m g)) ∧ Below w.heap.size w w' := by
  have HM := Aside0.mk hm
  have HG := Aside0.mk hg
  clear hm hg
  go_enter Tryz.func141, Tryz.ntmps141
  go_wp2
  go_loopw [5] (fun v wr => ∃ k : Nat, v = .int .i64 k ∧ k ≤ 3 ∧ Aside0 (∀ j < k * 3, nt m j = nt g j) ∧ Blk wr w.heap.size 138 (mcells m) ∧ Blk wr (w.heap.size + 1) 138 (mcells g) ∧ Aside0 (Below w.heap.size w wr)) (fun v _ => 3 - (intOf v).toNat)
  case atStart => exact ⟨0, rfl, by omega, ⟨fun j hj => by omega⟩, (Blk.new _ _ _).alloc _, Blk.new1 _ _ _ _, ⟨below_alloc (below_alloc (Below.refl _ _) _) _⟩⟩
  case round =>
    obtain ⟨k, rfl, hk, HZ, H1, H2, HB⟩ := hrel
    by_cases hlt : k < 3
    · go_wp2
      obtain ⟨wo, rfl⟩ : ∃ wo, wo = wr := ⟨_, rfl⟩
      go_loopw [6] (fun v wr => ∃ q : Nat, v = .int .i64 q ∧ q ≤ 3 ∧ Aside0 (∀ j < k * 3 + q, nt m j = nt g j) ∧ Blk wr w.heap.size 138 (mcells m) ∧ Blk wr (w.heap.size + 1) 138 (mcells g) ∧ Aside0 (Below w.heap.size w wr)) (fun v _ => 3 - (intOf v).toNat)
      case atStart => exact ⟨0, rfl, by omega, HZ, H1, H2, HB⟩
      case round =>
        clear HZ H1 H2 HB
        obtain ⟨q, rfl, hq, HZ, H1, H2, HB⟩ := hrel
        by_cases hql : q < 3
        · have c1 := H1.cell (k * 3 + q) (mcells_get m _ (by have := HM.out.1; omega))
          have c2 := H2.cell (k * 3 + q) (mcells_get g _ (by have := HG.out.1; omega))
          have hl1 : k * 3 + q < m.length := by have := HM.out.1; omega
          have hl2 : k * 3 + q < g.length := by have := HG.out.1; omega
          rcases Int.lt_trichotomy (nt m (k * 3 + q)) (nt g (k * 3 + q)) with h | h | h
          · have hb : (nt m (k * 3 + q) != nt g (k * 3 + q)) = true := by rw [bne_iff_ne]; omega
            have hb2 : decide (nt m (k * 3 + q) < nt g (k * 3 + q)) = true := decide_eq_true h
            have HN := Aside0.mk (show beforeB m g = true from decide_eq_true (by rw [cmpL_lt hl1 hl2 HZ.out h]; omega))
            clear h hl1 hl2
            go_wp2
            go_quiet (fail)
            go_wp2
            go_quiet (fail)
            go_wp2
            go_ret
            exact ⟨ret_b HN.out.symm, (by repeat (first | (with_reducible first | exact HB.out | apply below_alloc | apply pw_below_drewN | apply below_drew1) | exact HB.out | exact Below.refl _ _))⟩
          · have hb : (nt m (k * 3 + q) != nt g (k * 3 + q)) = false := by simp [h]
            have HN := Aside0.mk h
            clear h hl1 hl2
            go_wp2
            go_quiet (fail)
            go_wp2
            go_roundw
            case rel => exact ⟨q + 1, by go_num, by omega, ⟨fun j hj => by rcases Nat.lt_succ_iff_lt_or_eq.1 (show j < (k * 3 + q) + 1 by omega) with h | h; exact HZ.out j h; subst h; exact HN.out⟩, H1.drewN _, H2.drewN _, ⟨(by repeat (first | (with_reducible first | exact HB.out | apply below_alloc | apply pw_below_drewN | apply below_drew1) | exact HB.out | exact Below.refl _ _))⟩⟩
            case measure => simp [intOf]; omega
          · have hb : (nt m (k * 3 + q) != nt g (k * 3 + q)) = true := by rw [bne_iff_ne]; omega
            have hb2 : decide (nt m (k * 3 + q) < nt g (k * 3 + q)) = false := decide_eq_false (by omega)
            have HN := Aside0.mk (show beforeB m g = false from decide_eq_false (by rw [cmpL_gt hl1 hl2 HZ.out h]; omega))
            clear h hl1 hl2
            go_wp2
            go_quiet (fail)
            go_wp2
            go_quiet (fail)
            go_wp2
            go_ret
            exact ⟨ret_b HN.out.symm, (by repeat (first | (with_reducible first | exact HB.out | apply below_alloc | apply pw_below_drewN | apply below_drew1) | exact HB.out | exact Below.refl _ _))⟩
        · have hqe : q = 3 := by omega
          have HN : Aside0 (∀ j < (k + 1) * 3, nt m j = nt g j) := ⟨fun j hj => HZ.out j (by omega)⟩
          clear hqe
          go_wp2
          go_roundw
          case rel => exact ⟨k + 1, by go_num, by omega, HN, H1, H2, HB⟩
          case measure => simp [intOf]; omega
    · have HE := Aside0.mk (show k = 3 by omega)
      go_wp2
      go_ret
      exact ⟨ret_b (by unfold beforeB; rw [cmpL_all HM.out.1 HG.out.1 (by have := HZ.out; rw [HE.out] at this; exact this)]; rfl), HB.out⟩
end Go.Proofs.YtbenhcognapdpaaGreat
/- Whole matrices and structs read at an address: in a walk, in a region. -/
set_option linter.unusedVariables false
set_option linter.unusedSimpArgs false
namespace Go.Proofs.YtbenhcognapdpaaGreat
open Go.RowKit Go.Proofs.YtbenhcognapdpaaGreatW.PrintWords Go.Proofs.YtbenhcognapdpaaGreatW.PrintLast Lin

/-- The cells of a whole value stand at an address. -/
def At (W : World) (ad : Addr) (cs : Array Value) : Prop := ∀ j v, cs[j]? = some v → W.cell? (ad.add j) = some v
def MAt (W : World) (ad : Addr) (m : List Int) : Prop := At W ad (mcells m)
theorem At.below {W W' : World} {ad : Addr} {cs : Array Value} (h : At W ad cs) (hb : Below W.heap.size W W') : At W' ad cs :=
  fun j v hv => (hb.cell (World.block_lt_of_cell? _ _ (h j v hv))).trans (h j v hv)
theorem At.below' {W0 W W' : World} {ad : Addr} {cs : Array Value} (h : At W0 ad cs) (hb : Below W0.heap.size W0 W') : At W' ad cs := h.below hb
theorem At.alloc {W : World} {ad : Addr} {cs : Array Value} (h : At W ad cs) (o : Obj) : At (W.alloc o) ad cs := h.below (below_alloc (Below.refl _ _) _)
theorem At.drewN {W : World} {ad : Addr} {cs : Array Value} (h : At W ad cs) (n : Nat) : At (W.drewN n) ad cs := fun j v hv => (World.cell?_drewN _ _ _).trans (h j v hv)
theorem At.drew {W : World} {ad : Addr} {cs : Array Value} (h : At W ad cs) : At W.drew ad cs := fun j v hv => h j v hv
theorem Blk.at {W : World} {g t : Nat} {cs : Array Value} (h : Blk W g t cs) : At W ⟨g, 0, none⟩ cs := fun j v hv => by rw [add_plain]; simpa using h.cell j hv
theorem MAt.cell {W : World} {ad : Addr} {m : List Int} (h : MAt W ad m) {j : Nat} (hj : j < m.length) : W.cell? (ad.add j) = some (.int .u8 (nt m j)) := h j _ (mcells_get m j hj)
theorem MAt.mk {W : World} {ad : Addr} {m : List Int} (hm : m.length = 9) (hc : ∀ j, j < 9 → W.cell? (ad.add j) = some (.int .u8 (nt m j))) : MAt W ad m := by
  intro j v hv
  have hj : j < m.length := by
    have := (Array.getElem?_eq_some_iff.1 hv).1
    rw [mcells_size] at this
    exact this
  rw [mcells_get m j hj] at hv
  rw [← hv]
  exact hc j (by omega)
theorem mat_at {w : World} {A : Option Addr} {n : Nat} {xs : List (List Int)} (h : kM.C w A n xs) (i : Nat) (h1 : i < n) :
    ∃ ad m, m = ntR xs i ∧ A = some ad ∧ m.length = 9 ∧ MAt w (ad.add (i * 9)) m := by
  obtain ⟨ad, m, h1, h2, h3, h4⟩ := at_mat h i h1
  exact ⟨ad, m, h1, h2, h3, MAt.mk h3 fun j hj => by rw [add_add']; exact h4 j hj⟩

/-- The read itself. -/
theorem run_op_load {P : Program} {o : Oper} {a : Act} (ty : TypeId) (x : Tmp) (ho : o.op = .load ty (.tmp x)) (ad : Addr) (hx : a.eval (.tmp x) = .pointer (some ad)) (w : World) (cs : Array Value) (hc : At w ad cs) (d : TypeDesc)
    (hu : P.underlying ty = some d) (hd : (match d with | .struct _ | .array _ _ => true | _ => false) = true) (hi : (P.info? ty).map (·.size) = some cs.size) :
    (execOp a.eval o).run P w = .ok (.value (.agg cs)) w := by
  have hr := run_loadVar_at (P := P) w ad ty cs.toList d (fun j v hv => hc j v (by simpa using hv)) hu hd (by rw [hi]; simp)
  unfold execOp
  simp only [ho, hx, Instr.loadAt, Instr.sureAddr, Sem.run_bind, Sem.run_pure, Result.andThen_ok, hr]
section
variable {P : Program} {ops : Array Oper} {rest : List Oper} {o : Oper} {a : Act} {Q : Exit → Act → World → Prop}
theorem load_agg {W : World} {cs : Array Value} (hgd : o.guard = none) (ty : TypeId) (x : Tmp) (ho : o.op = .load ty (.tmp x)) (ad : Addr) (hc : At W ad cs) (hx : a.eval (.tmp x) = .pointer (some ad)) (d : TypeDesc)
    (hu : P.underlying ty = some d) (hd : (match d with | .struct _ | .array _ _ => true | _ => false) = true) (hi : (P.info? ty).map (·.size) = some cs.size)
    (h : wpList P ops Q rest (a.put o.dst (.agg cs)) W) : wpList P ops Q (o :: rest) a W := by
  refine wpList_plain hgd fun K hK => ?_
  unfold Oper.wp
  rw [run_op_load ty x ho ad hx W cs hc d hu hd hi]
  exact hK _ _ h
end
end Go.Proofs.YtbenhcognapdpaaGreat
