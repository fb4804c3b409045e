/- Walks: products of matrices. -/
import Derived.Test.YtbenhcognapdpaaBase
import Derived.Test.YtbenhcognapdpaaMatM
set_option linter.unusedVariables false
set_option linter.unusedSimpArgs false
namespace Go.Proofs.Ytbenhcognapdpaa
open Go.RowKit Go.Proofs.YtbenhcognapdpaaW.PrintWords Go.Proofs.YtbenhcognapdpaaW.PrintLast Lin

/-- A matrix's cells. -/
def mcells (m : List Int) : Array Value := (encs (Value.int .u8) m).toArray
theorem mcells_get (m : List Int) (i : Nat) (h : i < m.length) : (mcells m)[i]? = some (.int .u8 (nt m i)) := by
  simp [mcells, encs, nt_eq m i h, List.getElem?_eq_getElem h]
theorem mcells_set (m : List Int) (i : Nat) (x : Int) : (mcells m).setIfInBounds i (.int .u8 x) = mcells (m.set i x) := by
  simp [mcells, encs, List.map_set]
theorem mcells_size (m : List Int) : (mcells m).size = m.length := by simp [mcells, encs]

theorem mcells_one (m : List Int) : (mcells m).all (·.oneCell') = true := by
  simp [mcells, encs, Value.oneCell', Function.comp_def]
theorem sizeM : (Try.prog.info? 103).map (·.size) = some 9 := by kernel_rfl
theorem sizeM_of {m : List Int} (h : m.length = 9) : (Try.prog.info? 103).map (·.size) = some (mcells m).size := by rw [mcells_size, h]; exact sizeM
/-- A function that hands back a matrix in a cell of its own. -/
theorem ret_mat {fn : Func} {p : Tmp} (h : fn.results = #[.cell p 103]) {R : Ending → World → Prop} {a : Act} {w : World} {g t : Nat} {m : List Int} (H : Blk w g t (mcells m)) (hm : m.length = 9) (hp : a.tmps.getD p undef = .pointer (some ⟨g, 0, none⟩)) (hd : a.defers = [])
    (hR : R (.returned (.agg (mcells m))) w) : bodyPost Try.prog fn R .ret a w :=
  ⟨hd, _, results_cell_row h a.tmps w g t (mcells m) (0, 0) _ hp H Try.underlying103 rfl (sizeM_of hm), hR⟩

set_option maxRecDepth 100000 in
set_option maxHeartbeats 1000000 in
theorem l02Times_calls (p : Int) (n : Nat) (g h : List Int) (w : World) (hp : 0 < p) (hp2 : p ≤ 256) (hn : n ≤ 3) (hg : IsM g) (hh : IsM h) :
    Calls Try.prog 84 #[.int .i64 p, .int .i64 n, .agg (mcells g), .agg (mcells h)] w fun e w' => e = .returned (.agg (mcells (timesM p n g h))) ∧ Below w.heap.size w w' := by
  have HG := Aside0.mk hg
  have HH := Aside0.mk hh
  clear hg hh
  go_enter Try.func84, Try.ntmps84
  have hz : (#[.int .u8 0, .int .u8 0, .int .u8 0, .int .u8 0, .int .u8 0, .int .u8 0, .int .u8 0, .int .u8 0, .int .u8 0] : Array Value) = mcells [0, 0, 0, 0, 0, 0, 0, 0, 0] := rfl
  have HZ := Aside0.mk hz
  clear hz
  have hp0 : (p == 0) = false := by rw [beq_eq_false_iff_ne]; omega
  go_wp2
  go_loopw [10] (fun v10 wr => ∃ (i : Nat) (o : List Int), v10 = .int .i64 i ∧ i ≤ n ∧ Aside0 (Part (fun a b => dot g h a b n % p) n i 0 o) ∧ Blk wr w.heap.size 103 (mcells g) ∧ Blk wr (w.heap.size + 1) 103 (mcells h) ∧ Blk wr (w.heap.size + 1 + 1) 103 (mcells [0, 0, 0, 0, 0, 0, 0, 0, 0]) ∧ Blk wr (w.heap.size + 1 + 1 + 1) 103 (mcells o) ∧ Aside0 (Below w.heap.size w wr)) (fun v10 _ => n - (intOf v10).toNat)
  case atStart => exact ⟨0, _, rfl, by omega, ⟨Part.start _ _⟩, (((Blk.new _ _ _).alloc _).alloc _).alloc _, ((Blk.new1 _ _ _ _).alloc _).alloc _, (Blk.new2 _ _ _ _ _).alloc _, Blk.new3 _ _ _ _ _ _, ⟨below_alloc (below_alloc (below_alloc (below_alloc (Below.refl _ _) _) _) _) _⟩⟩
  case round =>
    obtain ⟨i, o, rfl, hi, HPT, H1, H2, H3, H4, HB⟩ := hrel
    by_cases hlt : i < n
    · go_wp2
      obtain ⟨wo, rfl⟩ : ∃ wo, wo = wr := ⟨_, rfl⟩
      go_loopw [11] (fun v11 wr => ∃ (j : Nat) (o : List Int), v11 = .int .i64 j ∧ j ≤ n ∧ Aside0 (Part (fun a b => dot g h a b n % p) n i j o) ∧ Blk wr w.heap.size 103 (mcells g) ∧ Blk wr (w.heap.size + 1) 103 (mcells h) ∧ Blk wr (w.heap.size + 1 + 1) 103 (mcells [0, 0, 0, 0, 0, 0, 0, 0, 0]) ∧ Blk wr (w.heap.size + 1 + 1 + 1) 103 (mcells o) ∧ Aside0 (Below w.heap.size w wr)) (fun v11 _ => n - (intOf v11).toNat)
      case atStart => exact ⟨0, _, rfl, by omega, HPT, H1, H2, H3, H4, HB⟩
      case round =>
        clear HPT H1 H2 H3 H4 HB
        obtain ⟨j, o, rfl, hj, HPT, H1, H2, H3, H4, HB⟩ := hrel
        by_cases hjl : j < n
        · go_wp2
          obtain ⟨wo2, rfl⟩ : ∃ wo, wo = wr := ⟨_, rfl⟩
          go_loopw [12, 13] (fun v12 v13 wr => ∃ (k : Nat), v13 = .int .i64 k ∧ v12 = .int .i64 (dot g h i j k) ∧ k ≤ n ∧ Blk wr w.heap.size 103 (mcells g) ∧ Blk wr (w.heap.size + 1) 103 (mcells h) ∧ Blk wr (w.heap.size + 1 + 1) 103 (mcells [0, 0, 0, 0, 0, 0, 0, 0, 0]) ∧ Blk wr (w.heap.size + 1 + 1 + 1) 103 (mcells o) ∧ Aside0 (Below w.heap.size w wr)) (fun _ v13 _ => n - (intOf v13).toNat)
          case atStart => exact ⟨0, rfl, rfl, by omega, H1, H2, H3, H4, HB⟩
          case round =>
            clear H1 H2 H3 H4 HB
            obtain ⟨k, rfl, rfl, hk, H1, H2, H3, H4, HB⟩ := hrel
            have hd := dot_bd HG.out HH.out i j k
            have hd2 : dot g h i j k ≤ 3 * 65025 := by omega
            have hd1 := hd.1
            clear hd
            by_cases hkl : k < n
            · have c1 := H1.cell (i * 3 + k) (mcells_get g _ (by have := HG.out.1; omega))
              have c2 := H2.cell (k * 3 + j) (mcells_get h _ (by have := HH.out.1; omega))
              have e1 := HG.out.nt (i * 3 + k)
              have e2 := HH.out.nt (k * 3 + j)
              have m1 : 0 ≤ nt g (i * 3 + k) * nt h (k * 3 + j) := Int.mul_nonneg e1.1 e2.1
              have m2 : nt g (i * 3 + k) * nt h (k * 3 + j) ≤ 255 * 255 := Int.mul_le_mul e1.2 e2.2 e2.1 (by omega)
              go_wp2
              go_quiet (fail)
              go_wp2
              go_roundw
              case rel => exact ⟨k + 1, by go_num, by go_num, by omega, H1.drewN _, H2.drewN _, H3.drewN _, H4.drewN _, ⟨pw_below_drewN HB.out _⟩⟩
              case measure => simp [intOf]; omega
            · have hke : k = n := by omega
              have HK := Aside0.mk hke
              clear hke
              have f1 := H4.frozen (i * 3 + j)
              have f2 := H4.cell (i * 3 + j) (mcells_get o _ (by have := HPT.out.1; omega))
              go_wp2
              go_region
              have he : dot g h i j k % p % 256 = dot g h i j n % p := by
                rw [HK.out]
                exact Int.emod_eq_of_lt (Int.emod_nonneg _ (by omega)) (Int.lt_of_lt_of_le (Int.emod_lt_of_pos _ hp) hp2)
              have HE := Aside0.mk he
              clear he f1 f2
              go_wp2
              go_roundw
              case rel => exact ⟨j + 1, o.set (i * 3 + j) (dot g h i j n % p), by go_num, by omega, ⟨HPT.out.step (by omega) (by omega) hjl⟩, (H1.far (by dsimp only; omega) _).drew, (H2.far (by dsimp only; omega) _).drew, (H3.far (by dsimp only; omega) _).drew, by rw [← mcells_set, ← HE.out]; exact (H4.set _ _).drew, ⟨below_drew (HB.out.setCell (by simp; omega) _)⟩⟩
              case measure => simp [intOf]; omega
        · have hje : j = n := by omega
          have HPN : Aside0 (Part (fun a b => dot g h a b n % p) n (i + 1) 0 o) := ⟨by have := HPT.out; rw [hje] at this; exact this.next⟩
          clear hje
          go_wp2
          go_roundw
          case rel => exact ⟨i + 1, o, by go_num, by omega, HPN, H1, H2, H3, H4, HB⟩
          case measure => simp [intOf]; omega
    · have hie : i = n := by omega
      have HPN : Aside0 (o = timesM p n g h) := ⟨by have := HPT.out; rw [hie] at this; exact this.done⟩
      clear hie
      have ho9 := HPT.out.1
      go_wp2_with (first
        | (refine load_blk rfl _ 9 rfl H4 rfl _ Try.underlying103 rfl (sizeM_of ho9) ?_)
        | (refine store_blk rfl _ 8 _ rfl H3 rfl rfl (sizeM_of ho9) (by rw [mcells_size, mcells_size, ho9]; rfl) (mcells_one _) ?_))
      refine ret_mat (p := 8) rfl (H3.setRow _) ho9 rfl rfl ⟨by rw [HPN.out], below_setRow HB.out (by omega) _⟩
set_option maxRecDepth 100000 in
set_option maxHeartbeats 1000000 in
theorem times_calls (p : Int) (n : Nat) (g h : List Int) (w : World) (hp : 0 < p) (hp2 : p ≤ 256) (hn : n ≤ 3) (hg : IsM g) (hh : IsM h) :
    Calls Try.prog 98 #[.int .i64 p, .int .i64 n, .agg (mcells g), .agg (mcells h)] w fun e w' => e = .returned (.agg (mcells (timesM p n g h))) ∧ Below w.heap.size w w' := by
  have HG := Aside0.mk hg
  have HH := Aside0.mk hh
  clear hg hh
  go_enter Try.func98, Try.ntmps98
  have hz : (#[.int .u8 0, .int .u8 0, .int .u8 0, .int .u8 0, .int .u8 0, .int .u8 0, .int .u8 0, .int .u8 0, .int .u8 0] : Array Value) = mcells [0, 0, 0, 0, 0, 0, 0, 0, 0] := rfl
  have HZ := Aside0.mk hz
  clear hz
  have hp0 : (p == 0) = false := by rw [beq_eq_false_iff_ne]; omega
  go_wp2
  go_loopw [16] (fun v10 wr => ∃ (i : Nat) (o : List Int), v10 = .int .i64 i ∧ i ≤ n ∧ Aside0 (Part (fun a b => dot g h a b n % p) n i 0 o) ∧ Blk wr w.heap.size 103 (mcells g) ∧ Blk wr (w.heap.size + 1) 103 (mcells h) ∧ Blk wr (w.heap.size + 1 + 1) 103 (mcells [0, 0, 0, 0, 0, 0, 0, 0, 0]) ∧ Blk wr (w.heap.size + 1 + 1 + 1) 103 (mcells o) ∧ Aside0 (Below w.heap.size w wr)) (fun v10 _ => n - (intOf v10).toNat)
  case atStart => exact ⟨0, _, rfl, by omega, ⟨Part.start _ _⟩, (((Blk.new _ _ _).alloc _).alloc _).alloc _, ((Blk.new1 _ _ _ _).alloc _).alloc _, (Blk.new2 _ _ _ _ _).alloc _, Blk.new3 _ _ _ _ _ _, ⟨below_alloc (below_alloc (below_alloc (below_alloc (Below.refl _ _) _) _) _) _⟩⟩
  case round =>
    obtain ⟨i, o, rfl, hi, HPT, H1, H2, H3, H4, HB⟩ := hrel
    by_cases hlt : i < n
    · go_wp2
      obtain ⟨wo, rfl⟩ : ∃ wo, wo = wr := ⟨_, rfl⟩
      go_loopw [20] (fun v11 wr => ∃ (j : Nat) (o : List Int), v11 = .int .i64 j ∧ j ≤ n ∧ Aside0 (Part (fun a b => dot g h a b n % p) n i j o) ∧ Blk wr w.heap.size 103 (mcells g) ∧ Blk wr (w.heap.size + 1) 103 (mcells h) ∧ Blk wr (w.heap.size + 1 + 1) 103 (mcells [0, 0, 0, 0, 0, 0, 0, 0, 0]) ∧ Blk wr (w.heap.size + 1 + 1 + 1) 103 (mcells o) ∧ Aside0 (Below w.heap.size w wr)) (fun v11 _ => n - (intOf v11).toNat)
      case atStart => exact ⟨0, _, rfl, by omega, HPT, H1, H2, H3, H4, HB⟩
      case round =>
        clear HPT H1 H2 H3 H4 HB
        obtain ⟨j, o, rfl, hj, HPT, H1, H2, H3, H4, HB⟩ := hrel
        by_cases hjl : j < n
        · go_wp2
          obtain ⟨wo2, rfl⟩ : ∃ wo, wo = wr := ⟨_, rfl⟩
          go_loopw [12, 24] (fun v12 v13 wr => ∃ (k : Nat), v13 = .int .i64 k ∧ v12 = .int .i64 (dot g h i j k) ∧ k ≤ n ∧ Blk wr w.heap.size 103 (mcells g) ∧ Blk wr (w.heap.size + 1) 103 (mcells h) ∧ Blk wr (w.heap.size + 1 + 1) 103 (mcells [0, 0, 0, 0, 0, 0, 0, 0, 0]) ∧ Blk wr (w.heap.size + 1 + 1 + 1) 103 (mcells o) ∧ Aside0 (Below w.heap.size w wr)) (fun _ v13 _ => n - (intOf v13).toNat)
          case atStart => exact ⟨0, rfl, rfl, by omega, H1, H2, H3, H4, HB⟩
          case round =>
            clear H1 H2 H3 H4 HB
            obtain ⟨k, rfl, rfl, hk, H1, H2, H3, H4, HB⟩ := hrel
            have hd := dot_bd HG.out HH.out i j k
            have hd2 : dot g h i j k ≤ 3 * 65025 := by omega
            have hd1 := hd.1
            clear hd
            by_cases hkl : k < n
            · have c1 := H1.cell (i * 3 + k) (mcells_get g _ (by have := HG.out.1; omega))
              have c2 := H2.cell (k * 3 + j) (mcells_get h _ (by have := HH.out.1; omega))
              have e1 := HG.out.nt (i * 3 + k)
              have e2 := HH.out.nt (k * 3 + j)
              have m1 : 0 ≤ nt g (i * 3 + k) * nt h (k * 3 + j) := Int.mul_nonneg e1.1 e2.1
              have m2 : nt g (i * 3 + k) * nt h (k * 3 + j) ≤ 255 * 255 := Int.mul_le_mul e1.2 e2.2 e2.1 (by omega)
              go_wp2
              go_quiet (fail)
              go_wp2
              go_roundw
              case rel => exact ⟨k + 1, by go_num, by go_num, by omega, H1.drewN _, H2.drewN _, H3.drewN _, H4.drewN _, ⟨pw_below_drewN HB.out _⟩⟩
              case measure => simp [intOf]; omega
            · have hke : k = n := by omega
              have HK := Aside0.mk hke
              clear hke
              have f1 := H4.frozen (i * 3 + j)
              have f2 := H4.cell (i * 3 + j) (mcells_get o _ (by have := HPT.out.1; omega))
              go_wp2
              go_region
              have he : dot g h i j k % p % 256 = dot g h i j n % p := by
                rw [HK.out]
                exact Int.emod_eq_of_lt (Int.emod_nonneg _ (by omega)) (Int.lt_of_lt_of_le (Int.emod_lt_of_pos _ hp) hp2)
              have HE := Aside0.mk he
              clear he f1 f2
              go_wp2
              go_roundw
              case rel => exact ⟨j + 1, o.set (i * 3 + j) (dot g h i j n % p), by go_num, by omega, ⟨HPT.out.step (by omega) (by omega) hjl⟩, (H1.far (by dsimp only; omega) _).drew, (H2.far (by dsimp only; omega) _).drew, (H3.far (by dsimp only; omega) _).drew, by rw [← mcells_set, ← HE.out]; exact (H4.set _ _).drew, ⟨below_drew (HB.out.setCell (by simp; omega) _)⟩⟩
              case measure => simp [intOf]; omega
        · have hje : j = n := by omega
          have HPN : Aside0 (Part (fun a b => dot g h a b n % p) n (i + 1) 0 o) := ⟨by have := HPT.out; rw [hje] at this; exact this.next⟩
          clear hje
          go_wp2
          go_roundw
          case rel => exact ⟨i + 1, o, by go_num, by omega, HPN, H1, H2, H3, H4, HB⟩
          case measure => simp [intOf]; omega
    · have hie : i = n := by omega
      have HPN : Aside0 (o = timesM p n g h) := ⟨by have := HPT.out; rw [hie] at this; exact this.done⟩
      clear hie
      have ho9 := HPT.out.1
      go_wp2_with (first
        | (refine load_blk rfl _ 9 rfl H4 rfl _ Try.underlying103 rfl (sizeM_of ho9) ?_)
        | (refine store_blk rfl _ 8 _ rfl H3 rfl rfl (sizeM_of ho9) (by rw [mcells_size, mcells_size, ho9]; rfl) (mcells_one _) ?_))
      refine ret_mat (p := 8) rfl (H3.setRow _) ho9 rfl rfl ⟨by rw [HPN.out], below_setRow HB.out (by omega) _⟩

set_option maxRecDepth 100000 in
set_option maxHeartbeats 1000000 in
theorem l02Unit_calls (n : Nat) (w : World) (hn : n ≤ 3) :
    Calls Try.prog 85 #[.int .i64 n] w fun e w' => e = .returned (.agg (mcells (unitM n))) ∧ Below w.heap.size w w' := by
  go_enter Try.func85, Try.ntmps85
  go_wp2
  go_loopw [4] (fun v4 wr => ∃ (i : Nat) (o : List Int), v4 = .int .i64 i ∧ i ≤ n ∧ Aside0 (UPart n i o) ∧ Blk wr w.heap.size 103 (mcells [0, 0, 0, 0, 0, 0, 0, 0, 0]) ∧ Blk wr (w.heap.size + 1) 103 (mcells o) ∧ Aside0 (Below w.heap.size w wr)) (fun v4 _ => n - (intOf v4).toNat)
  case atStart => exact ⟨0, _, rfl, by omega, ⟨UPart.start n⟩, (Blk.new _ _ _).alloc _, Blk.new1 _ _ _ _, ⟨below_alloc (below_alloc (Below.refl _ _) _) _⟩⟩
  case round =>
    obtain ⟨i, o, rfl, hi, HPT, H1, H2, HB⟩ := hrel
    by_cases hlt : i < n
    · have f1 := H2.frozen (i * 3 + i)
      have f2 := H2.cell (i * 3 + i) (mcells_get o _ (by have := HPT.out.1; omega))
      go_wp2
      go_roundw
      case rel => exact ⟨i + 1, o.set (i * 3 + i) 1, by go_num, by omega, ⟨HPT.out.step (by omega) hlt⟩, H1.far (by dsimp only; omega) _, by rw [← mcells_set]; exact H2.set _ _, ⟨HB.out.setCell (by simp) _⟩⟩
      case measure => simp [intOf]; omega
    · have hie : i = n := by omega
      have HPN : Aside0 (o = unitM n) := ⟨by have := HPT.out; rw [hie] at this; exact this.done⟩
      clear hie
      have ho9 := HPT.out.1
      go_wp2_with (first
        | (refine load_blk rfl _ 3 rfl H2 rfl _ Try.underlying103 rfl (sizeM_of ho9) ?_)
        | (refine store_blk rfl _ 2 _ rfl H1 rfl rfl (sizeM_of ho9) (by rw [mcells_size, mcells_size, ho9]; rfl) (mcells_one _) ?_))
      refine ret_mat (p := 2) rfl (H1.setRow _) ho9 rfl rfl ⟨by rw [HPN.out], below_setRow HB.out (by omega) _⟩

set_option maxRecDepth 100000 in
set_option maxHeartbeats 1000000 in
theorem unit_calls (n : Nat) (w : World) (hn : n ≤ 3) :
    Calls Try.prog 99 #[.int .i64 n] w fun e w' => e = .returned (.agg (mcells (unitM n))) ∧ Below w.heap.size w w' := by
  go_enter Try.func99, Try.ntmps99
  go_wp2
  go_loopw [7] (fun v4 wr => ∃ (i : Nat) (o : List Int), v4 = .int .i64 i ∧ i ≤ n ∧ Aside0 (UPart n i o) ∧ Blk wr w.heap.size 103 (mcells [0, 0, 0, 0, 0, 0, 0, 0, 0]) ∧ Blk wr (w.heap.size + 1) 103 (mcells o) ∧ Aside0 (Below w.heap.size w wr)) (fun v4 _ => n - (intOf v4).toNat)
  case atStart => exact ⟨0, _, rfl, by omega, ⟨UPart.start n⟩, (Blk.new _ _ _).alloc _, Blk.new1 _ _ _ _, ⟨below_alloc (below_alloc (Below.refl _ _) _) _⟩⟩
  case round =>
    obtain ⟨i, o, rfl, hi, HPT, H1, H2, HB⟩ := hrel
    by_cases hlt : i < n
    · have f1 := H2.frozen (i * 3 + i)
      have f2 := H2.cell (i * 3 + i) (mcells_get o _ (by have := HPT.out.1; omega))
      go_wp2
      go_roundw
      case rel => exact ⟨i + 1, o.set (i * 3 + i) 1, by go_num, by omega, ⟨HPT.out.step (by omega) hlt⟩, H1.far (by dsimp only; omega) _, by rw [← mcells_set]; exact H2.set _ _, ⟨HB.out.setCell (by simp) _⟩⟩
      case measure => simp [intOf]; omega
    · have hie : i = n := by omega
      have HPN : Aside0 (o = unitM n) := ⟨by have := HPT.out; rw [hie] at this; exact this.done⟩
      clear hie
      have ho9 := HPT.out.1
      go_wp2_with (first
        | (refine load_blk rfl _ 3 rfl H2 rfl _ Try.underlying103 rfl (sizeM_of ho9) ?_)
        | (refine store_blk rfl _ 2 _ rfl H1 rfl rfl (sizeM_of ho9) (by rw [mcells_size, mcells_size, ho9]; rfl) (mcells_one _) ?_))
      refine ret_mat (p := 2) rfl (H1.setRow _) ho9 rfl rfl ⟨by rw [HPN.out], below_setRow HB.out (by omega) _⟩
end Go.Proofs.Ytbenhcognapdpaa
