/- slices.SortFunc at the headers of rows, by slices.Compare. -/
import Derived.Test.YtbenhcognapdpaaSortR
import Derived.Lib.OwnBridge
import Derived.Test.YtbenhcognapdpaaOrbM
set_option linter.unusedVariables false
set_option linter.unusedSimpArgs false
namespace Go.Proofs.Ytbenhcognapdpaa
open Go.RowKit Go.Proofs.YtbenhcognapdpaaW.PrintWords Go.Proofs.YtbenhcognapdpaaW.PrintLast Lin Go.Sort

theorem below_grow' (B : Nat) (w : World) (os : Array Obj) (h : B ≤ w.heap.size) : RowKit.Below B w (Sort.grow w os) := by
  refine ⟨rfl, rfl, rfl, by simp [Sort.grow], fun k hk => ?_⟩
  show (w.heap ++ os)[k]? = _
  rw [Array.getElem?_append_left (by omega)]
theorem putRow_heap {α : Type} [Inhabited α] (enc : α → Value) (w : World) (blk off m : Nat) (dk : Array α) (k : Nat) (hk : k ≠ blk) : (putRow enc (Sort.ahead w m) blk off dk).heap[k]? = w.heap[k]? := by
  unfold Sort.putRow Sort.mapBlock Sort.ahead
  show (w.heap.modify blk _)[k]? = _
  rw [Array.getElem?_modify, if_neg (fun e => hk e.symm)]
theorem below_putRow {α : Type} [Inhabited α] (enc : α → Value) (w : World) (blk off m : Nat) (dk : Array α) {B : Nat} (h : B ≤ blk) : RowKit.Below B w (putRow enc (Sort.ahead w m) blk off dk) :=
  ⟨rfl, rfl, rfl, by simp [Sort.putRow, Sort.mapBlock, Sort.ahead], fun k hk => putRow_heap enc w blk off m dk k (by omega)⟩
theorem cmpL_le_trans {a b c : List Int} (h1 : 0 ≤ cmpL a b) (h2 : 0 ≤ cmpL b c) : 0 ≤ cmpL a c := by
  have r1 := cmpL_rev a b
  have r2 := cmpL_rev b c
  have r3 := cmpL_rev a c
  rcases cmpL_cases b a with h | h | h
  · rcases cmpL_cases c b with h' | h' | h'
    · have := cmpL_trans (show cmpL c b < 0 by omega) (show cmpL b a < 0 by omega); omega
    · have := cmpL_eq_zero h'; subst this; omega
    · omega
  · have := cmpL_eq_zero h; subst this; omega
  · omega

/-- The headers of rows, by number. -/
def encH (inner : List Value) : Option (Fin inner.length) → Value
  | none => .slice none 0 0
  | some i => inner[i]
def rowH (xs : List (List Int)) {n : Nat} : Option (Fin n) → List Int
  | none => []
  | some i => ntR xs i.val
theorem swoH (xs : List (List Int)) (n : Nat) : SWO (ltOf (fun (x y : Option (Fin n)) => cmpL (rowH xs x) (rowH xs y))) where
  irrefl x := by simp [ltOf, cmpL_self]
  trans x y z h1 h2 := by
    simp only [ltOf, decide_eq_true_iff] at *
    exact cmpL_trans h1 h2
  ntrans x y z h1 h2 := by
    simp only [ltOf, decide_eq_false_iff_not, Int.not_lt] at *
    exact cmpL_le_trans h1 h2

theorem encH_map {n : Nat} (inner : List Value) : ((List.finRange inner.length).map some).map (encH inner) = inner := by
  apply List.ext_getElem
  · simp
  · intro i h1 h2
    simp [encH]
theorem rowH_map (xs : List (List Int)) : ((List.finRange xs.length).map some).map (rowH xs) = xs := by
  apply List.ext_getElem
  · simp
  · intro i h1 h2
    simp [rowH, ntR_eq xs i h2]
set_option maxHeartbeats 1000000 in
theorem sortRows_calls {base g cap n : Nat} {xs : List (List Int)} {w : World} (h : kR.R 38 w base (fun _ => True) (.slice (some ⟨g, 0, none⟩) n cap) xs) (hn : n < 1000000) (hbase : base ≤ w.heap.size) :
    Calls Try.prog 90 #[.slice (some ⟨g, 0, none⟩) n cap, .func (.func 91) #[] #[]] w fun e w' => e = .returned (.tuple #[]) ∧ ∃ ys : List (List Int), ys.Perm xs ∧ ys.Pairwise (fun a b => 0 ≤ cmpL b a) ∧
      kR.R 38 w' base (fun _ => True) (.slice (some ⟨g, 0, none⟩) n cap) ys ∧ RowKit.Below base w w' := by
  obtain ⟨hnx, _, _⟩ := R_rows' h
  obtain ⟨_, inner, hown, hr⟩ := h
  have hsz1 : kR.sz = 1 := rfl
  rw [hsz1] at hown hr
  have hlen : inner.length = n := by have := hown.1; omega
  have hxl : xs.length = n := hnx.symm
  subst hlen
  have hM : ∀ i : Fin inner.length, kI.R 2 w base (fun k => k ≠ g) inner[i] (ntR xs i.val) := by
    intro i
    have hi : i.val < xs.length := by omega
    have h1 := hr.2 i.val _ (List.getElem?_eq_getElem hi)
    obtain ⟨u, hu, hR⟩ := h1
    have hu2 : inner[i.val] = u := by
      have : (inner.drop (i.val * 1)).take 1 = [u] := hu
      rw [Nat.mul_one, List.drop_eq_getElem_cons i.isLt, List.take_succ_cons, List.take_zero] at this
      exact (List.cons.inj this).1
    rw [ntR_eq xs i.val hi]
    show kI.R _ w base _ (inner[i.val]) _
    rw [hu2]
    exact Kd.R_mono hR (fun k hk => fun e => hk.2 (by rw [e]; rfl))
  have h1c : OneCell (encH inner) := by
    intro x
    cases x with
    | none => rfl
    | some i =>
      obtain ⟨A, c, e⟩ := Kd.R_slice (hM i)
      show (inner[i.val]).oneCell' = true
      have : inner[i.val] = .slice A _ c := e
      rw [this]; rfl
  have hzs : w.ownsRow base 38 1 (.slice (some ⟨g, 0, none⟩) inner.length cap) inner.length (((List.finRange inner.length).map some).map (encH inner)) := by rw [encH_map (n := 0)]; exact hxl ▸ hown
  obtain ⟨g', cap', hv, hbg, hgl, hnc, hcm, hzl, hH⟩ := Go.Lib.holds_of_ownsRow hzs (by intro e; cases e)
  cases hv
  have hsz : (((List.finRange inner.length).map some).toArray : Array (Option (Fin inner.length))).size = inner.length := by simp
  have hread : ∀ W : World, (∀ k, k ≠ g → k < w.heap.size → W.heap[k]? = w.heap[k]?) → ∀ x : Option (Fin inner.length), ∃ A n c, encH inner x = .slice A n c ∧ kI.C W A n (rowH xs x) := by
    intro W hW x
    cases x with
    | none => exact ⟨none, 0, 0, rfl, rfl, by omega, fun h => by omega⟩
    | some i =>
      have h2 : kI.R 2 W base (fun k => k ≠ g) inner[i] (ntR xs i.val) := Kd.R_step (hM i) (fun k hk hl => hW k hk hl)
      obtain ⟨A, c, e, _, hC⟩ := Kd.R_reads h2
      exact ⟨A, _, c, e, hC⟩
  have hcmp : CmpLays1 Try.prog 91 #[] (encH inner) (fun x y => cmpL (rowH xs x) (rowH xs y)) g 0 (((List.finRange inner.length).map some).toArray : Array (Option (Fin inner.length))).size w := by
    intro m os dk hs x y
    have hW := fun k hk hl => sortWorld_heap (encH inner) w g 0 m dk os k hk hl
    obtain ⟨A, n, c, e1, hC1⟩ := hread _ hW x
    obtain ⟨A', n', c', e2, hC2⟩ := hread _ hW y
    rw [e1, e2]
    exact (slCompare_calls A n c _ A' n' c' _ _ hC1 hC2).mono fun e w' ⟨he, hw⟩ => ⟨he, 0, #[], by rw [← hw, Sort.grow_empty]; rfl⟩
  have eg : ∀ args w, (callFunc 91 args).run Try.prog w = .ok (.enter 91 args) w := enters_of Try.func91 (by kernel_rfl) rfl
  have hcon := Any.slices_SortFunc Try.sortRows (encH inner) h1c (fun x y => cmpL (rowH xs x) (rowH xs y)) (swoH xs inner.length) 91 #[] g 0 cap (((List.finRange inner.length).map some).toArray) w eg hcmp hH hgl (by rw [hsz]; omega)
  change Calls Try.prog 90 _ _ _ at hcon
  rw [hsz] at hcon
  refine hcon.mono ?_
  rintro e w' ⟨rfl, d', q, os, hp, hs, rfl⟩
  have hd : d'.size = inner.length := by rw [hp.1]; exact hsz
  have hperm : d'.toList.Perm ((List.finRange inner.length).map some) := by
    have := hp.2.2
    rw [Array.extract_eq_self_of_le (by omega), Array.extract_eq_self_of_le (by omega)] at this
    simpa using this
  refine ⟨rfl, d'.toList.map (rowH xs), ?_, ?_, ?_, ?_⟩
  · have := hperm.map (rowH xs)
    have e := rowH_map xs
    rw [hxl] at e
    rw [e] at this
    exact this
  · rw [List.pairwise_map, List.pairwise_iff_getElem]
    intro i j hi hj hij
    have h2 := hs i j (by omega) hij (by simpa [hd] using hj)
    simp only [ltOf, decide_eq_false_iff_not, Int.not_lt] at h2
    rw [getElem!_pos d' j (by simpa using hj), getElem!_pos d' i (by simpa using hi)] at h2
    simpa using h2
  · have hup := Go.Lib.ownsRow_putRow (q := q) (k := inner.length) (ys := d'.toList) hzs (by simpa using hd) (Nat.le_refl _)
    have htk : d'.toList.take inner.length = d'.toList := List.take_of_length_le (by simp [hd])
    rw [htk, Array.toArray_toList] at hup
    have hR : kR.R 38 (putRow (encH inner) (Sort.ahead w q) g 0 d') base (fun _ => True) (.slice (some ⟨g, 0, none⟩) inner.length cap) (d'.toList.map (rowH xs)) := by
      refine ⟨fun _ _ => trivial, d'.toList.map (encH inner), ?_, ?_⟩
      · have e : (d'.toList.map (rowH xs)).length = inner.length := by simp [hd]
        rw [e]; exact hup
      · refine ⟨by simp [kR, Kd.slice], fun j r hj => ?_⟩
        obtain ⟨hjl, hjr⟩ := List.getElem?_eq_some_iff.1 hj
        have hjd : j < d'.toList.length := by simpa using hjl
        have ecs : ((d'.toList.map (encH inner)).drop (j * 1)).take 1 = [encH inner d'.toList[j]] := by
          rw [Nat.mul_one, List.drop_eq_getElem_cons (by simpa using hjd)]
          simp
        have er : rowH xs d'.toList[j] = r := by simpa using hjr
        have hne : ∃ i, d'.toList[j] = some i := by
          have hmem := hperm.subset (List.getElem_mem hjd)
          obtain ⟨i, _, hi⟩ := List.mem_map.1 hmem
          exact ⟨i, hi.symm⟩
        obtain ⟨i, hi⟩ := hne
        refine ⟨inner[i], ?_, ?_⟩
        · show ((d'.toList.map (encH inner)).drop (j * 1)).take 1 = _
          rw [ecs, hi]; rfl
        · rw [← er, hi]
          exact Kd.R_mono (Kd.R_step (hM i) (fun k hk _ => putRow_heap (encH inner) w g 0 q d' k hk)) (fun k hk => ⟨trivial, fun e => hk (by simpa [Value.ownBlock] using e)⟩)
    exact Kd.R_below hR (below_grow' _ _ _ (Nat.le_refl _))
  · exact (below_putRow (encH inner) w g 0 q d' hbg).trans (below_grow' _ _ _ (by simp [Sort.putRow, Sort.mapBlock, Sort.ahead]; exact hbase))
end Go.Proofs.Ytbenhcognapdpaa
