/- Own texts of this claim, in one file: Compact, SortR2. -/
import Derived.Test.YtbenhcognapdpaaGreatKR9m
import Derived.Test.YtbenhcognapdpaaGreatKR9b
import Derived.Test.YtbenhcognapdpaaGreatKR9a
import Derived.Lib.SliceRun
import Derived.Lib.OwnBridge
/- Walk: slices.CompactFunc at rows in order, by slices.Equal. -/
set_option linter.unusedVariables false
set_option linter.unusedSimpArgs false
namespace Go.Proofs.YtbenhcognapdpaaGreat
open Go.RowKit Go.Proofs.YtbenhcognapdpaaGreatW.PrintWords Go.Proofs.YtbenhcognapdpaaGreatW.PrintLast Lin

section
variable {P : Program} {Q : Exit → Act → World → Prop} {ops : Array Oper}
/-- A call through a function value that a slot holds. -/
theorem goesV_ {oi : Oper} {N : Option Tmp} {a : Act} {w : World} {K : Act → World → Prop} {f : FuncId} {fn : Func} {x : Tmp} {as_ : Array Operand} {ts : Array TypeId} (hf : P.funcs[f]? = some fn) (hname : (fn.name == "runtime.NumGoroutine") = false) (hb : fn.body.isSome = true) (args : Array Value)
    (hw : Region.wanted oi (yielded ops a.tmps) = true) (hN : oi.dst = N) (hop : oi.op = .call { callee := .value (.tmp x), args := as_, argTypes := ts }) (hx : a.eval (.tmp x) = .func (.func f) #[] #[]) (hargs : as_.map a.eval = args)
    (h : Calls P f args w fun e w' => ∃ v, e = .returned v ∧ K (a.put N v) w') : if Region.wanted oi (yielded ops a.tmps) = true then Oper.wp P oi a w K Q else K (a.put N undef) w := by
  refine call_ f args hw hN ?_ h
  have he := enters_ hf hname hb args w
  unfold execOp
  simp [hop, resolve, Deferred.ofValue, invoke, hx, hargs, he]
end
/-- The headers of the first n rows stand in a block; all other blocks are as they were. -/
structure Heads (w wr : World) (g n : Nat) (u : Nat → Value) (s : Nat → Nat) : Prop where
  cell : ∀ j < n, wr.cell? ⟨g, j, none⟩ = some (u (s j))
  free : ∀ j < n, wr.frozen? ⟨g, j, none⟩ = false
  keep : ∀ k, k ≠ g → k < w.heap.size → wr.heap[k]? = w.heap[k]?
theorem Heads.drewN {w wr : World} {g n : Nat} {u : Nat → Value} {s : Nat → Nat} (h : Heads w wr g n u s) (m : Nat) : Heads w (wr.drewN m) g n u s :=
  ⟨fun j hj => (World.cell?_drewN _ _ _).trans (h.cell j hj), fun j hj => by have := h.free j hj; rw [World.frozen?] at *; simpa using this, fun k hk hl => by rw [World.heap_drewN]; exact h.keep k hk hl⟩
theorem Heads.drew {w wr : World} {g n : Nat} {u : Nat → Value} {s : Nat → Nat} (h : Heads w wr g n u s) : Heads w wr.drew g n u s :=
  ⟨fun j hj => h.cell j hj, fun j hj => h.free j hj, fun k hk hl => h.keep k hk hl⟩
theorem Heads.set {w wr : World} {g n : Nat} {u : Nat → Value} {s : Nat → Nat} (h : Heads w wr g n u s) {kk : Nat} (hk : kk < n) (i : Nat) : Heads w (wr.setCell ⟨g, kk, none⟩ (u i)) g n u (fun j => if j = kk then i else s j) := by
  refine ⟨fun j hj => ?_, fun j hj => by rw [World.frozen?_setCell]; exact h.free j hj, fun k hk' hl => (Below.heap_setCell _ _ _ _ hk').trans (h.keep k hk' hl)⟩
  by_cases e : j = kk
  · subst e
    rw [if_pos rfl]
    exact World.cell?_setCell_same _ _ _ (h.cell j hj)
  · rw [if_neg e, World.cell?_setCell_other _ _ _ _ (fun h => e (by injection h with _ h2; exact h2.symm))]
    exact h.cell j hj
theorem Heads.setCells {w wr : World} {g n : Nat} {u : Nat → Value} {s : Nat → Nat} (h : Heads w wr g n u s) {kk : Nat} (vs : List Value) (hk : kk ≤ n) : Heads w (wr.setCells g kk vs) g kk u s := by
  refine ⟨fun j hj => ?_, fun j hj => by rw [World.frozen?_setCells]; exact h.free j (by omega), ?_⟩
  · rw [World.cell?_setCells_out g vs kk wr _ (fun _ _ => .inl hj)]
    exact h.cell j (by omega)
  · have key : ∀ (vs : List Value) (o : Nat) (W : World), (∀ k, k ≠ g → k < w.heap.size → W.heap[k]? = w.heap[k]?) → ∀ k, k ≠ g → k < w.heap.size → (W.setCells g o vs).heap[k]? = w.heap[k]? := by
      intro vs
      induction vs with
      | nil => intro o W h; exact h
      | cons v vs ih => intro o W h; exact ih (o + 1) _ (fun k hk hl => (Below.heap_setCell _ _ _ _ hk).trans (h k hk hl))
    exact key vs kk wr h.keep
/-- What is asked of two neighbours. -/
theorem row_of {w wr : World} {g base : Nat} {v : Value} {r : List Int} (h : kI.R 2 w base (fun k => True ∧ k ≠ g) v r) (hk : ∀ k, k ≠ g → k < w.heap.size → wr.heap[k]? = w.heap[k]?) : ∃ A c, v = .slice A r.length c ∧ r.length ≤ c ∧ kI.C wr A r.length r := by
  have h2 : kI.R 2 wr base (fun k => True ∧ k ≠ g) v r := Kd.R_step h (fun k hk' hl => hk k hk'.2 hl)
  obtain ⟨A, c, e, hle, hC⟩ := Kd.R_reads h2
  exact ⟨A, c, e, hle, hC⟩

theorem sorted_neighbours {xs : List (List Int)} (hs : xs.Pairwise (fun a b => 0 ≤ cmpL b a)) (h : ∀ j, j + 1 < xs.length → ntR xs j ≠ ntR xs (j + 1)) : Sorted xs := by
  have step : ∀ i, i + 1 < xs.length → cmpL (ntR xs i) (ntR xs (i + 1)) < 0 := by
    intro i hi
    have h1 := List.pairwise_iff_getElem.1 hs i (i + 1) (by omega) hi (by omega)
    rw [← ntR_eq xs i (by omega), ← ntR_eq xs (i + 1) hi] at h1
    have h2 := cmpL_rev (ntR xs i) (ntR xs (i + 1))
    have h3 : cmpL (ntR xs i) (ntR xs (i + 1)) ≠ 0 := fun e => h i hi (cmpL_eq_zero e)
    omega
  refine List.pairwise_iff_getElem.2 fun i j hi hj hij => ?_
  rw [← ntR_eq xs i hi, ← ntR_eq xs j hj]
  have key : ∀ d, i + d + 1 < xs.length → cmpL (ntR xs i) (ntR xs (i + d + 1)) < 0 := by
    intro d
    induction d with
    | zero => intro h0; exact step i h0
    | succ d ih => intro h0; exact cmpL_trans (ih (by omega)) (step (i + d + 1) h0)
  have := key (j - i - 1) (by omega)
  rwa [show i + (j - i - 1) + 1 = j by omega] at this

/-- What the second loop keeps. -/
structure CInv (xs : List (List Int)) (k k2 kk : Nat) (s : Nat → Nat) : Prop where
  pos : 1 ≤ kk
  le : kk + 1 ≤ k + k2
  high : ∀ j, k + k2 ≤ j + 1 → s j = j
  low : ∀ j < kk, s j < k + k2
  up : ∀ j, j + 1 < kk → s j < s (j + 1)
  ne : ∀ j, j + 1 < kk → ntR xs (s j) ≠ ntR xs (s (j + 1))
  last : ntR xs (s (kk - 1)) = ntR xs (k + k2 - 1)
  all : ∀ i < k + k2, ∃ j < kk, ntR xs (s j) = ntR xs i
theorem CInv.skip {xs : List (List Int)} {k k2 kk : Nat} {s : Nat → Nat} (h : CInv xs k k2 kk s) (he : ntR xs (k + k2) = ntR xs (k + k2 - 1)) : CInv xs k (k2 + 1) kk s := by
  refine ⟨h.pos, by have := h.le; omega, fun j hj => h.high j (by omega), fun j hj => by have := h.low j hj; omega, h.up, h.ne, ?_, fun i hi => ?_⟩
  · rw [h.last, show k + (k2 + 1) - 1 = k + k2 by omega, he]
  · by_cases hik : i < k + k2
    · exact h.all i hik
    · obtain rfl : i = k + k2 := by omega
      exact ⟨kk - 1, by have := h.pos; omega, by rw [h.last, he]⟩
theorem CInv.keep {xs : List (List Int)} {k k2 kk : Nat} {s : Nat → Nat} (h : CInv xs k k2 kk s) (he : ntR xs (k + k2) ≠ ntR xs (k + k2 - 1)) : CInv xs k (k2 + 1) (kk + 1) (fun j => if j = kk then k + k2 else s j) := by
  have hp := h.pos
  have hl := h.le
  refine ⟨by omega, by omega, fun j hj => ?_, fun j hj => ?_, fun j hj => ?_, fun j hj => ?_, ?_, fun i hi => ?_⟩
  · show (if j = kk then k + k2 else s j) = j
    rw [if_neg (by omega)]; exact h.high j (by omega)
  · show (if j = kk then k + k2 else s j) < _
    split
    · omega
    · have := h.low j (by omega); omega
  · show (if j = kk then k + k2 else s j) < (if j + 1 = kk then k + k2 else s (j + 1))
    rw [if_neg (by omega)]
    split
    · exact h.low j (by omega)
    · exact h.up j (by omega)
  · show ntR xs (if j = kk then k + k2 else s j) ≠ ntR xs (if j + 1 = kk then k + k2 else s (j + 1))
    rw [if_neg (by omega)]
    split
    · rename_i e
      have : j = kk - 1 := by omega
      rw [this, h.last]
      exact fun e => he e.symm
    · exact h.ne j (by omega)
  · show ntR xs (if kk + 1 - 1 = kk then k + k2 else _) = _
    rw [if_pos (by omega)]
    rfl
  · by_cases hik : i < k + k2
    · obtain ⟨j, hj, hr⟩ := h.all i hik
      exact ⟨j, by omega, by show ntR xs (if j = kk then k + k2 else s j) = _; rw [if_neg (by omega)]; exact hr⟩
    · obtain rfl : i = k + k2 := by omega
      exact ⟨kk, by omega, by show ntR xs (if kk = kk then k + k2 else s kk) = _; rw [if_pos rfl]⟩
theorem CInv.done {xs : List (List Int)} {k k2 kk : Nat} {s : Nat → Nat} (h : CInv xs k k2 kk s) (hs : xs.Pairwise (fun a b => 0 ≤ cmpL b a)) (he : k + k2 = xs.length) :
    Sorted ((List.range kk).map fun j => ntR xs (s j)) ∧ ∀ r, r ∈ ((List.range kk).map fun j => ntR xs (s j)) ↔ r ∈ xs := by
  constructor
  · refine sorted_neighbours ?_ ?_
    · rw [List.pairwise_iff_getElem]
      intro i j hi hj hij
      simp only [List.getElem_map, List.getElem_range]
      have hi' : i < kk := by simpa using hi
      have hj' : j < kk := by simpa using hj
      have hlt : s i < s j := by
        have key : ∀ d, i + d + 1 < kk → s i < s (i + d + 1) := by
          intro d
          induction d with
          | zero => intro h0; exact h.up i h0
          | succ d ih => intro h0; exact Nat.lt_trans (ih (by omega)) (h.up (i + d + 1) h0)
        have := key (j - i - 1) (by omega)
        rwa [show i + (j - i - 1) + 1 = j by omega] at this
      have h1 := h.low j hj'
      have := List.pairwise_iff_getElem.1 hs (s i) (s j) (by omega) (by omega) hlt
      rwa [← ntR_eq xs (s i) (by omega), ← ntR_eq xs (s j) (by omega)] at this
    · intro j hj
      have hj' : j + 1 < kk := by simpa using hj
      rw [ntR_eq _ j (by simp; omega), ntR_eq _ (j + 1) hj]
      simp only [List.getElem_map, List.getElem_range]
      exact h.ne j hj'
  · intro r
    rw [List.mem_map]
    constructor
    · rintro ⟨j, hj, rfl⟩
      have := h.low j (List.mem_range.1 hj)
      exact ntR_mem xs _ (by omega)
    · intro hr
      obtain ⟨i, hi, rfl⟩ := List.mem_iff_getElem.1 hr
      obtain ⟨j, hj, e⟩ := h.all i (by omega)
      exact ⟨j, List.mem_range.2 hj, by rw [e, ntR_eq xs i hi]⟩
theorem sorted_small {xs : List (List Int)} (h : xs.length < 2) : Sorted xs := by
  match xs, h with
  | [], _ => exact List.Pairwise.nil
  | [a], _ => exact List.pairwise_singleton _ _
set_option maxRecDepth 100000 in
set_option maxHeartbeats 2000000 in
theorem compactFunc_calls {base g cap n : Nat} {xs : List (List Int)} {w : World} (h : kR.R 84 w base (fun _ => True) (.slice (some ⟨g, 0, none⟩) n cap) xs) (hs : xs.Pairwise (fun a b => 0 ≤ cmpL b a)) (hn : n < 1000000) :
    Calls Tryz.prog 171 #[.slice (some ⟨g, 0, none⟩) n cap, .func (.func 94) #[] #[]] w fun e w' => ∃ ys : List (List Int), e = .returned (.slice (some ⟨g, 0, none⟩) ys.length cap) ∧ Sorted ys ∧ (∀ r, r ∈ ys ↔ r ∈ xs) ∧
      kR.C w' (some ⟨g, 0, none⟩) ys.length ys ∧ Below base w w' := by
  obtain ⟨hnx, hle, _⟩ := R_rows' h
  subst hnx
  have HC0 := Aside0.mk (Kd.R_reads' h).2.2
  have HS := Aside0.mk hs
  have hex : ∀ i : Nat, ∃ Ac : Option Addr × Nat, i < xs.length → w.cell? ⟨g, i, none⟩ = some (.slice Ac.1 (ntR xs i).length Ac.2) ∧ kI.R 2 w base (fun k => True ∧ k ≠ g) (.slice Ac.1 (ntR xs i).length Ac.2) (ntR xs i) := by
    intro i
    by_cases hi : i < xs.length
    · obtain ⟨u, hc, hR⟩ := own_row h i hi
      obtain ⟨A, c, rfl⟩ := Kd.R_slice hR
      exact ⟨(A, c), fun _ => ⟨hc, hR⟩⟩
    · exact ⟨(none, 0), fun h => absurd h hi⟩
  obtain ⟨f, hf⟩ := Classical.axiomOfChoice hex
  have HF := Aside0.mk hf
  clear hex hf hs
  by_cases h2 : xs.length < 2
  · clear h HF
    go_enter Tryz.func171, Tryz.ntmps171
    go_wp2
    go_ret
    exact ⟨xs, rfl, sorted_small h2, fun _ => Iff.rfl, HC0.out, Below.refl _ _⟩
  obtain ⟨g', cap', hv, hbg, hgl, cells, hcell⟩ := Kd.R_form h (by omega)
  cases hv
  have HB0 : Aside0 (Blk w g 84 cells) := ⟨hcell⟩
  clear h hcell
  go_enter Tryz.func171, Tryz.ntmps171
  go_wp2
  go_loopw [5] (fun v wr => ∃ k : Nat, v = .int .i64 k ∧ 1 ≤ k ∧ k ≤ xs.length ∧ Aside0 (∀ j, j + 1 < k → ntR xs j ≠ ntR xs (j + 1)) ∧ Drawn0 w wr) (fun v _ => xs.length - (intOf v).toNat)
  case atStart => exact ⟨1, rfl, by omega, by omega, ⟨fun j hj => by omega⟩, Drawn0.refl _⟩
  case round =>
    obtain ⟨k, rfl, hk1, hk, HZ, ⟨m, rfl⟩⟩ := hrel
    by_cases hlt : k < xs.length
    · obtain ⟨k', hii⟩ : ∃ k', k = k' + 1 := ⟨k - 1, by omega⟩
      have hk'l : k' < xs.length := by omega
      have hsub : wrap64 ((k : Int) - 1) = (k' : Int) := by rw [IntWalk.wrap64_in _ ⟨by omega, by omega⟩]; omega
      have hd3 : decide ((k : Int) < xs.length) = true := decide_eq_true (by omega)
      obtain ⟨c1, r1⟩ := HF.out k hlt
      obtain ⟨c2, r2⟩ := HF.out k' hk'l
      have HK := Aside0.mk (fun W (hW : Below w.heap.size w W) => equal_calls _ _ (f k).2 _ _ _ (f k').2 _ W (Kd.R_reads' (Kd.R_below r1 hW)).2.2 (Kd.R_reads' (Kd.R_below r2 hW)).2.2)
      have HII := Aside0.mk hii
      clear r1 r2 hii
      obtain ⟨a1, ha1⟩ : ∃ a1, a1 = (f k).1 := ⟨_, rfl⟩
      obtain ⟨b1, hb1⟩ : ∃ b1, b1 = (f k).2 := ⟨_, rfl⟩
      obtain ⟨a2, ha2⟩ : ∃ a2, a2 = (f k').1 := ⟨_, rfl⟩
      obtain ⟨b2, hb2⟩ : ∃ b2, b2 = (f k').2 := ⟨_, rfl⟩
      obtain ⟨r1, hr1⟩ : ∃ r1, r1 = ntR xs k := ⟨_, rfl⟩
      obtain ⟨r2, hr2⟩ : ∃ r2, r2 = ntR xs k' := ⟨_, rfl⟩
      rw [← ha1, ← hb1, ← hr1] at c1
      rw [← ha2, ← hb2, ← hr2] at c2
      rw [← ha1, ← hb1, ← hr1, ← ha2, ← hb2, ← hr2] at HK
      have HR12 := Aside0.mk (And.intro hr1 hr2)
      clear ha1 hb1 ha2 hb2 hr1 hr2
      cases hsb : sameB r1 r2
      · have HZ2 : Aside0 (∀ j, j + 1 < k + 1 → ntR xs j ≠ ntR xs (j + 1)) := ⟨fun j hj => by
          rcases Nat.lt_succ_iff_lt_or_eq.1 hj with h | h
          · exact HZ.out j h
          · have e := HII.out
            obtain rfl : j = k' := by omega
            intro he
            have : r1 = r2 := by rw [HR12.out.1, HR12.out.2, e]; exact he.symm
            rw [show sameB r1 r2 = true from decide_eq_true this] at hsb
            cases hsb⟩
        rw [hsb] at HK
        go_wp2
        refine start_ (n := 11) (S := fun w' => w'.cell? ⟨g, k, none⟩ = some (.slice a1 r1.length b1) ∧ w'.cell? ⟨g, k', none⟩ = some (.slice a2 r2.length b2)) (ds := []) #[Nn,Nn,Nn,Nn,Nn,Nn,Nn,Nn,Nn,Nn,Nn] (by kernel_rfl) rfl rfl ⟨((World.cell?_drewN _ _ _).trans c1 : (w.drewN m).cell? ⟨g, k, none⟩ = _), ((World.cell?_drewN _ _ _).trans c2 : (w.drewN m).cell? ⟨g, k', none⟩ = _)⟩ (fun hHeld => ?_)
        refine pure_ (i := 0) (N := some 18) (v := ?_) (a' := ?_) #[Yy,Nn,Nn,Nn,Nn,Nn,Nn,Nn,Nn,Nn,Nn] rfl rfl (by kernel_rfl) (fun _ _ _ h => h) (Or.inl ⟨by rfl, ?_⟩) ?_ ?_
        rotate_left
        · intro w'
          go_simp
          with_reducible rfl
        rotate_left
        · simp only [Act.put, List.setIfInBounds_toArray, List.set_cons_zero, List.set_cons_succ, i64_w, i32_w]
          rfl
        refine pure_ (i := 1) (N := some 19) (v := ?_) (a' := ?_) #[Yy,Yy,Nn,Nn,Nn,Nn,Nn,Nn,Nn,Nn,Nn] rfl rfl (by kernel_rfl) (fun _ _ _ h => h) (Or.inl ⟨by rfl, ?_⟩) ?_ ?_
        rotate_left
        · intro w'
          go_simp
          with_reducible rfl
        rotate_left
        · simp only [Act.put, List.setIfInBounds_toArray, List.set_cons_zero, List.set_cons_succ, i64_w, i32_w]
          rfl
        refine pure_ (i := 2) (N := some 20) (v := ?_) (a' := ?_) #[Yy,Yy,Yy,Nn,Nn,Nn,Nn,Nn,Nn,Nn,Nn] rfl rfl (by kernel_rfl) (fun _ _ _ h => h) (Or.inl ⟨by rfl, ?_⟩) ?_ ?_
        rotate_left
        · intro w'
          go_simp
          with_reducible rfl
        rotate_left
        · simp only [Act.put, List.setIfInBounds_toArray, List.set_cons_zero, List.set_cons_succ, i64_w, i32_w]
          rfl
        refine pure_ (i := 3) (N := some 21) (v := ?_) (a' := ?_) #[Yy,Yy,Yy,Yy,Nn,Nn,Nn,Nn,Nn,Nn,Nn] rfl rfl (by kernel_rfl) (fun _ _ _ h => h) (Or.inl ⟨by rfl, ?_⟩) ?_ ?_
        rotate_left
        · intro w'
          go_simp
          with_reducible rfl
        rotate_left
        · simp only [Act.put, List.setIfInBounds_toArray, List.set_cons_zero, List.set_cons_succ, i64_w, i32_w]
          rfl
        refine pure_ (i := 5) (N := some 23) (v := ?_) (a' := ?_) #[Yy,Yy,Yy,Yy,Nn,Yy,Nn,Nn,Nn,Nn,Nn] rfl rfl (by kernel_rfl) (fun _ _ _ h => h) (Or.inl ⟨by rfl, ?_⟩) ?_ ?_
        rotate_left
        · intro w'
          go_simp
          with_reducible rfl
        rotate_left
        · simp only [Act.put, List.setIfInBounds_toArray, List.set_cons_zero, List.set_cons_succ, i64_w, i32_w]
          rfl
        refine pure_ (i := 6) (N := some 24) (v := ?_) (a' := ?_) #[Yy,Yy,Yy,Yy,Nn,Yy,Yy,Nn,Nn,Nn,Nn] rfl rfl (by kernel_rfl) (fun _ _ _ h => h) (Or.inl ⟨by rfl, ?_⟩) ?_ ?_
        rotate_left
        · intro w'
          go_simp
          with_reducible rfl
        rotate_left
        · simp only [Act.put, List.setIfInBounds_toArray, List.set_cons_zero, List.set_cons_succ, i64_w, i32_w]
          rfl
        refine pure_ (i := 7) (N := some 25) (v := ?_) (a' := ?_) #[Yy,Yy,Yy,Yy,Nn,Yy,Yy,Yy,Nn,Nn,Nn] rfl rfl (by kernel_rfl) (fun _ _ _ h => h) (Or.inl ⟨by rfl, ?_⟩) ?_ ?_
        rotate_left
        · intro w'
          go_simp
          with_reducible rfl
        rotate_left
        · simp only [Act.put, List.setIfInBounds_toArray, List.set_cons_zero, List.set_cons_succ, i64_w, i32_w]
          rfl
        refine pure_ (i := 8) (N := some 26) (v := ?_) (a' := ?_) #[Yy,Yy,Yy,Yy,Nn,Yy,Yy,Yy,Yy,Nn,Nn] rfl rfl (by kernel_rfl) (fun _ _ _ h => h) (Or.inl ⟨by rfl, ?_⟩) ?_ ?_
        rotate_left
        · intro w'
          go_simp
          with_reducible rfl
        rotate_left
        · simp only [Act.put, List.setIfInBounds_toArray, List.set_cons_zero, List.set_cons_succ, i64_w, i32_w]
          rfl
        refine take_ (i := 4) (N := some 22) (v := ?_) (a' := ?_) #[Yy,Yy,Yy,Yy,Yy,Yy,Yy,Yy,Yy,Nn,Nn] rfl rfl (by kernel_rfl) (fun _ _ _ h => h) (Or.inl ⟨by rfl, ?_⟩) hHeld ?_ ?_
        rotate_left
        · rintro w' ⟨s0, s1⟩
          go_simp
          with_reducible rfl
        rotate_left
        · simp only [Act.put, List.setIfInBounds_toArray, List.set_cons_zero, List.set_cons_succ, i64_w, i32_w]
          rfl
        refine take_ (i := 9) (N := some 27) (v := ?_) (a' := ?_) #[Yy,Yy,Yy,Yy,Yy,Yy,Yy,Yy,Yy,Yy,Nn] rfl rfl (by kernel_rfl) (fun _ _ _ h => h) (Or.inl ⟨by rfl, ?_⟩) hHeld ?_ ?_
        rotate_left
        · rintro w' ⟨s0, s1⟩
          go_simp
          with_reducible rfl
        rotate_left
        · simp only [Act.put, List.setIfInBounds_toArray, List.set_cons_zero, List.set_cons_succ, i64_w, i32_w]
          rfl
        refine one_ (i := 10) (N := some 28) #[Yy,Yy,Yy,Yy,Yy,Yy,Yy,Yy,Yy,Yy,Yy] rfl rfl (by kernel_rfl) (by decide) (fun K hK => ?_)
        refine goesV_ Tryz.func94 (by kernel_rfl) rfl #[.slice a1 r1.length b1, .slice a2 r2.length b2] (by rfl) rfl rfl (by rfl) (by simp only [List.map_toArray, List.map_cons, List.map_nil]; rfl) ?_
        with_reducible refine (HK.out _ (below_drew1 (pw_below_drewN (Below.refl _ _) _))).mono ?_
        rintro e w2 ⟨rfl, ⟨m2, rfl⟩⟩
        refine ⟨_, rfl, ?_⟩
        refine hK.out _ _ ⟨(World.cell?_drewN _ _ _).trans ((World.cell?_drewN _ _ _).trans c1 : (w.drewN m).cell? ⟨g, k, none⟩ = _), (World.cell?_drewN _ _ _).trans ((World.cell?_drewN _ _ _).trans c2 : (w.drewN m).cell? ⟨g, k', none⟩ = _)⟩ (fun hHeld => ?_)
        clear hK K
        refine norm_ (a' := ?_) ?_ ?_
        rotate_left
        · show Act.put _ (some 28) _ = _
          simp only [Act.put, List.setIfInBounds_toArray, List.set_cons_zero, List.set_cons_succ, i64_w, i32_w]
          rfl
        refine done_ (by kernel_rfl) ?_
        go_wp2
        go_roundw
        case rel => exact ⟨k + 1, by go_num, by omega, by omega, HZ2, (by repeat (first | exact Drawn0.refl _ | apply Drawn0.step))⟩
        case measure => simp [intOf]; omega
      · rw [hsb] at HK
        have hcut1 : ∀ W : World, (Instr.slice 41 (.slice (some ⟨g, 0, none⟩) xs.length cap) (some (.int .i64 k)) none none).run Tryz.prog W = .ok (.slice (some ⟨g, k, none⟩) (xs.length - k) (cap - k)) W := by
          intro W
          obtain ⟨iR, hiR, _, hszR, _⟩ := info_parts infoR
          have h := cut_from (P := Tryz.prog) 41 84 .i64 Tryz.underlying41 hiR 1 hszR (some ⟨g, 0, none⟩) xs.length cap k (by omega) (by omega) W
          rw [Int.toNat_natCast, if_neg (by omega), Option.map_some, add_plain, Nat.mul_one] at h
          exact h
        have heq : ntR xs (k - 1) = ntR xs k := by
          have h1 : r1 = r2 := of_decide_eq_true hsb
          have e := HII.out
          rw [show k - 1 = k' by omega, ← HR12.out.1, ← HR12.out.2, h1]
        have HI0 : Aside0 (CInv xs k 1 k (fun j => j)) := ⟨⟨hk1, by omega, fun j _ => rfl, fun j hj => by omega, fun j _ => by omega, fun j hj => HZ.out j hj, by rw [show k + 1 - 1 = k by omega]; exact heq, fun i hi => by
          by_cases hik : i < k
          · exact ⟨i, hik, rfl⟩
          · obtain rfl : i = k := by omega
            exact ⟨i - 1, by omega, heq⟩⟩⟩
        have HH0 : Heads w w g xs.length (fun i => .slice (f i).1 (ntR xs i).length (f i).2) (fun j => j) := ⟨fun j hj => (HF.out j hj).1, fun j hj => HB0.out.frozen j, fun k _ _ => rfl⟩
        have HHM := Aside0.mk (((HH0.drewN m).drew))
        clear HH0 heq
        go_wp2
        refine start_ (n := 11) (S := fun w' => w'.cell? ⟨g, k, none⟩ = some (.slice a1 r1.length b1) ∧ w'.cell? ⟨g, k', none⟩ = some (.slice a2 r2.length b2)) (ds := []) #[Nn,Nn,Nn,Nn,Nn,Nn,Nn,Nn,Nn,Nn,Nn] (by kernel_rfl) rfl rfl ⟨((World.cell?_drewN _ _ _).trans c1 : (w.drewN m).cell? ⟨g, k, none⟩ = _), ((World.cell?_drewN _ _ _).trans c2 : (w.drewN m).cell? ⟨g, k', none⟩ = _)⟩ (fun hHeld => ?_)
        refine pure_ (i := 0) (N := some 18) (v := ?_) (a' := ?_) #[Yy,Nn,Nn,Nn,Nn,Nn,Nn,Nn,Nn,Nn,Nn] rfl rfl (by kernel_rfl) (fun _ _ _ h => h) (Or.inl ⟨by rfl, ?_⟩) ?_ ?_
        rotate_left
        · intro w'
          go_simp
          with_reducible rfl
        rotate_left
        · simp only [Act.put, List.setIfInBounds_toArray, List.set_cons_zero, List.set_cons_succ, i64_w, i32_w]
          rfl
        refine pure_ (i := 1) (N := some 19) (v := ?_) (a' := ?_) #[Yy,Yy,Nn,Nn,Nn,Nn,Nn,Nn,Nn,Nn,Nn] rfl rfl (by kernel_rfl) (fun _ _ _ h => h) (Or.inl ⟨by rfl, ?_⟩) ?_ ?_
        rotate_left
        · intro w'
          go_simp
          with_reducible rfl
        rotate_left
        · simp only [Act.put, List.setIfInBounds_toArray, List.set_cons_zero, List.set_cons_succ, i64_w, i32_w]
          rfl
        refine pure_ (i := 2) (N := some 20) (v := ?_) (a' := ?_) #[Yy,Yy,Yy,Nn,Nn,Nn,Nn,Nn,Nn,Nn,Nn] rfl rfl (by kernel_rfl) (fun _ _ _ h => h) (Or.inl ⟨by rfl, ?_⟩) ?_ ?_
        rotate_left
        · intro w'
          go_simp
          with_reducible rfl
        rotate_left
        · simp only [Act.put, List.setIfInBounds_toArray, List.set_cons_zero, List.set_cons_succ, i64_w, i32_w]
          rfl
        refine pure_ (i := 3) (N := some 21) (v := ?_) (a' := ?_) #[Yy,Yy,Yy,Yy,Nn,Nn,Nn,Nn,Nn,Nn,Nn] rfl rfl (by kernel_rfl) (fun _ _ _ h => h) (Or.inl ⟨by rfl, ?_⟩) ?_ ?_
        rotate_left
        · intro w'
          go_simp
          with_reducible rfl
        rotate_left
        · simp only [Act.put, List.setIfInBounds_toArray, List.set_cons_zero, List.set_cons_succ, i64_w, i32_w]
          rfl
        refine pure_ (i := 5) (N := some 23) (v := ?_) (a' := ?_) #[Yy,Yy,Yy,Yy,Nn,Yy,Nn,Nn,Nn,Nn,Nn] rfl rfl (by kernel_rfl) (fun _ _ _ h => h) (Or.inl ⟨by rfl, ?_⟩) ?_ ?_
        rotate_left
        · intro w'
          go_simp
          with_reducible rfl
        rotate_left
        · simp only [Act.put, List.setIfInBounds_toArray, List.set_cons_zero, List.set_cons_succ, i64_w, i32_w]
          rfl
        refine pure_ (i := 6) (N := some 24) (v := ?_) (a' := ?_) #[Yy,Yy,Yy,Yy,Nn,Yy,Yy,Nn,Nn,Nn,Nn] rfl rfl (by kernel_rfl) (fun _ _ _ h => h) (Or.inl ⟨by rfl, ?_⟩) ?_ ?_
        rotate_left
        · intro w'
          go_simp
          with_reducible rfl
        rotate_left
        · simp only [Act.put, List.setIfInBounds_toArray, List.set_cons_zero, List.set_cons_succ, i64_w, i32_w]
          rfl
        refine pure_ (i := 7) (N := some 25) (v := ?_) (a' := ?_) #[Yy,Yy,Yy,Yy,Nn,Yy,Yy,Yy,Nn,Nn,Nn] rfl rfl (by kernel_rfl) (fun _ _ _ h => h) (Or.inl ⟨by rfl, ?_⟩) ?_ ?_
        rotate_left
        · intro w'
          go_simp
          with_reducible rfl
        rotate_left
        · simp only [Act.put, List.setIfInBounds_toArray, List.set_cons_zero, List.set_cons_succ, i64_w, i32_w]
          rfl
        refine pure_ (i := 8) (N := some 26) (v := ?_) (a' := ?_) #[Yy,Yy,Yy,Yy,Nn,Yy,Yy,Yy,Yy,Nn,Nn] rfl rfl (by kernel_rfl) (fun _ _ _ h => h) (Or.inl ⟨by rfl, ?_⟩) ?_ ?_
        rotate_left
        · intro w'
          go_simp
          with_reducible rfl
        rotate_left
        · simp only [Act.put, List.setIfInBounds_toArray, List.set_cons_zero, List.set_cons_succ, i64_w, i32_w]
          rfl
        refine take_ (i := 4) (N := some 22) (v := ?_) (a' := ?_) #[Yy,Yy,Yy,Yy,Yy,Yy,Yy,Yy,Yy,Nn,Nn] rfl rfl (by kernel_rfl) (fun _ _ _ h => h) (Or.inl ⟨by rfl, ?_⟩) hHeld ?_ ?_
        rotate_left
        · rintro w' ⟨s0, s1⟩
          go_simp
          with_reducible rfl
        rotate_left
        · simp only [Act.put, List.setIfInBounds_toArray, List.set_cons_zero, List.set_cons_succ, i64_w, i32_w]
          rfl
        refine take_ (i := 9) (N := some 27) (v := ?_) (a' := ?_) #[Yy,Yy,Yy,Yy,Yy,Yy,Yy,Yy,Yy,Yy,Nn] rfl rfl (by kernel_rfl) (fun _ _ _ h => h) (Or.inl ⟨by rfl, ?_⟩) hHeld ?_ ?_
        rotate_left
        · rintro w' ⟨s0, s1⟩
          go_simp
          with_reducible rfl
        rotate_left
        · simp only [Act.put, List.setIfInBounds_toArray, List.set_cons_zero, List.set_cons_succ, i64_w, i32_w]
          rfl
        refine one_ (i := 10) (N := some 28) #[Yy,Yy,Yy,Yy,Yy,Yy,Yy,Yy,Yy,Yy,Yy] rfl rfl (by kernel_rfl) (by decide) (fun K hK => ?_)
        refine goesV_ Tryz.func94 (by kernel_rfl) rfl #[.slice a1 r1.length b1, .slice a2 r2.length b2] (by rfl) rfl rfl (by rfl) (by simp only [List.map_toArray, List.map_cons, List.map_nil]; rfl) ?_
        with_reducible refine (HK.out _ (below_drew1 (pw_below_drewN (Below.refl _ _) _))).mono ?_
        rintro e w2 ⟨rfl, hd⟩
        refine ⟨_, rfl, ?_⟩
        have hdb := hd.below
        refine hK.out _ _ ⟨(hdb.cell (World.block_lt_of_cell? _ _ ((World.cell?_drewN _ _ _).trans c1 : (w.drewN m).cell? ⟨g, k, none⟩ = _))).trans ((World.cell?_drewN _ _ _).trans c1 : (w.drewN m).cell? ⟨g, k, none⟩ = _), (hdb.cell (World.block_lt_of_cell? _ _ ((World.cell?_drewN _ _ _).trans c2 : (w.drewN m).cell? ⟨g, k', none⟩ = _))).trans ((World.cell?_drewN _ _ _).trans c2 : (w.drewN m).cell? ⟨g, k', none⟩ = _)⟩ (fun hHeld => ?_)
        clear hK K
        refine norm_ (a' := ?_) ?_ ?_
        rotate_left
        · show Act.put _ (some 28) _ = _
          simp only [Act.put, List.setIfInBounds_toArray, List.set_cons_zero, List.set_cons_succ, i64_w, i32_w]
          rfl
        refine done_ (by kernel_rfl) ?_
        obtain ⟨m2, hm2⟩ := hd
        have HH : Aside0 (Heads w w2 g xs.length (fun i => .slice (f i).1 (ntR xs i).length (f i).2) (fun j => j)) := ⟨by rw [hm2]; exact HHM.out.drewN m2⟩
        have HBw : Aside0 (Below base w w2) := ⟨by rw [hm2]; exact pw_below_drewN (below_drew1 (pw_below_drewN (Below.refl _ _) _)) _⟩
        clear hm2 hdb c1 c2 HK HHM HZ
        go_wp2
        go_loopw [5, 7] (fun v5 v7 wr => ∃ (kk k2 : Nat) (s : Nat → Nat), v5 = .int .i64 kk ∧ v7 = .int .i64 k2 ∧ 1 ≤ k2 ∧ k + k2 ≤ xs.length ∧ Aside0 (CInv xs k k2 kk s) ∧ Aside0 (Heads w wr g xs.length (fun i => .slice (f i).1 (ntR xs i).length (f i).2) s) ∧ Aside0 (Below base w wr)) (fun _ v7 _ => xs.length - (intOf v7).toNat)
        case atStart => exact ⟨k, 1, _, rfl, rfl, by omega, by omega, HI0, HH, HBw⟩
        case round =>
          clear HH HBw HI0
          obtain ⟨kk, k2, s, rfl, rfl, h1, hle2, HI, HH, HBw⟩ := hrel
          have hkkl := HI.out.le
          have hkkp := HI.out.pos
          by_cases hl2 : k + k2 < xs.length
          · obtain ⟨j', hjj⟩ : ∃ j', k2 = j' + 1 := ⟨k2 - 1, by omega⟩
            have hsub2 : wrap64 ((k2 : Int) - 1) = (j' : Int) := by rw [IntWalk.wrap64_in _ ⟨by omega, by omega⟩]; omega
            have hd5 : decide ((k2 : Int) < ((xs.length - k : Nat) : Int)) = true := decide_eq_true (by omega)
            have hjl1 : j' < xs.length - k := by omega
            have hjl2 : k2 < xs.length - k := by omega
            have c1 := HH.out.cell (k + k2) hl2
            have c2 := HH.out.cell (k + j') (by omega)
            rw [HI.out.high (k + k2) (by omega)] at c1
            rw [HI.out.high (k + j') (by omega)] at c2
            have r1 := (HF.out (k + k2) hl2).2
            have r2 := (HF.out (k + j') (by omega)).2
            obtain ⟨A1, b1, e1, _, hC1⟩ := row_of r1 HH.out.keep
            obtain ⟨A2, b2, e2, _, hC2⟩ := row_of r2 HH.out.keep
            rw [e1] at c1
            rw [e2] at c2
            have HC1 := Aside0.mk hC1
            have HC2 := Aside0.mk hC2
            have HE1 := Aside0.mk e1
            have HJJ := Aside0.mk hjj
            clear r1 r2 e1 e2 hC1 hC2 hjj
            obtain ⟨x1, hx1⟩ : ∃ x1, x1 = ntR xs (k + k2) := ⟨_, rfl⟩
            obtain ⟨x2, hx2⟩ : ∃ x2, x2 = ntR xs (k + j') := ⟨_, rfl⟩
            rw [← hx1] at c1 HC1 HE1
            rw [← hx2] at c2 HC2
            have HX := Aside0.mk (And.intro hx1 hx2)
            clear hx1 hx2
            have HKE := Aside0.mk (fun W (hW : Below wr.heap.size wr W) => equal_calls A1 x1.length b1 x1 A2 x2.length b2 x2 W (Kd.C_below HC1.out hW) (Kd.C_below HC2.out hW))
            cases hsb2 : sameB x1 x2
            · have HI2 : Aside0 (CInv xs k (k2 + 1) (kk + 1) (fun j => if j = kk then k + k2 else s j)) := ⟨HI.out.keep (by
                rw [show k + k2 - 1 = k + j' by have := HJJ.out; omega, ← HX.out.1, ← HX.out.2]
                intro e
                rw [show sameB x1 x2 = true from decide_eq_true e] at hsb2
                cases hsb2)⟩
              rw [hsb2] at HKE
              have hkn : kk < xs.length := by omega
              go_wp2
              refine start_ (n := 12) (S := fun w' => w'.cell? ⟨g, k + k2, none⟩ = some (.slice A1 x1.length b1) ∧ w'.cell? ⟨g, k + j', none⟩ = some (.slice A2 x2.length b2)) (ds := []) #[Nn,Nn,Nn,Nn,Nn,Nn,Nn,Nn,Nn,Nn,Nn,Nn] (by kernel_rfl) rfl rfl ⟨c1, c2⟩ (fun hHeld => ?_)
              refine pure_ (i := 0) (N := some 38) (v := ?_) (a' := ?_) #[Yy,Nn,Nn,Nn,Nn,Nn,Nn,Nn,Nn,Nn,Nn,Nn] rfl rfl (by kernel_rfl) (fun _ _ _ h => h) (Or.inl ⟨by rfl, ?_⟩) ?_ ?_
              rotate_left
              · intro w'
                go_simp
                with_reducible rfl
              rotate_left
              · simp only [Act.put, List.setIfInBounds_toArray, List.set_cons_zero, List.set_cons_succ, i64_w, i32_w]
                rfl
              refine pure_ (i := 1) (N := some 39) (v := ?_) (a' := ?_) #[Yy,Yy,Nn,Nn,Nn,Nn,Nn,Nn,Nn,Nn,Nn,Nn] rfl rfl (by kernel_rfl) (fun _ _ _ h => h) (Or.inl ⟨by rfl, ?_⟩) ?_ ?_
              rotate_left
              · intro w'
                go_simp
                with_reducible rfl
              rotate_left
              · simp only [Act.put, List.setIfInBounds_toArray, List.set_cons_zero, List.set_cons_succ, i64_w, i32_w]
                rfl
              refine pure_ (i := 2) (N := some 40) (v := ?_) (a' := ?_) #[Yy,Yy,Yy,Nn,Nn,Nn,Nn,Nn,Nn,Nn,Nn,Nn] rfl rfl (by kernel_rfl) (fun _ _ _ h => h) (Or.inl ⟨by rfl, ?_⟩) ?_ ?_
              rotate_left
              · intro w'
                go_simp
                with_reducible rfl
              rotate_left
              · simp only [Act.put, List.setIfInBounds_toArray, List.set_cons_zero, List.set_cons_succ, i64_w, i32_w]
                rfl
              refine pure_ (i := 3) (N := some 41) (v := ?_) (a' := ?_) #[Yy,Yy,Yy,Yy,Nn,Nn,Nn,Nn,Nn,Nn,Nn,Nn] rfl rfl (by kernel_rfl) (fun _ _ _ h => h) (Or.inl ⟨by rfl, ?_⟩) ?_ ?_
              rotate_left
              · intro w'
                go_simp
                with_reducible rfl
              rotate_left
              · simp only [Act.put, List.setIfInBounds_toArray, List.set_cons_zero, List.set_cons_succ, i64_w, i32_w]
                rfl
              refine pure_ (i := 5) (N := some 43) (v := ?_) (a' := ?_) #[Yy,Yy,Yy,Yy,Nn,Yy,Nn,Nn,Nn,Nn,Nn,Nn] rfl rfl (by kernel_rfl) (fun _ _ _ h => h) (Or.inl ⟨by rfl, ?_⟩) ?_ ?_
              rotate_left
              · intro w'
                go_simp
                with_reducible rfl
              rotate_left
              · simp only [Act.put, List.setIfInBounds_toArray, List.set_cons_zero, List.set_cons_succ, i64_w, i32_w]
                rfl
              refine pure_ (i := 6) (N := some 44) (v := ?_) (a' := ?_) #[Yy,Yy,Yy,Yy,Nn,Yy,Yy,Nn,Nn,Nn,Nn,Nn] rfl rfl (by kernel_rfl) (fun _ _ _ h => h) (Or.inl ⟨by rfl, ?_⟩) ?_ ?_
              rotate_left
              · intro w'
                go_simp
                with_reducible rfl
              rotate_left
              · simp only [Act.put, List.setIfInBounds_toArray, List.set_cons_zero, List.set_cons_succ, i64_w, i32_w]
                rfl
              refine pure_ (i := 7) (N := some 45) (v := ?_) (a' := ?_) #[Yy,Yy,Yy,Yy,Nn,Yy,Yy,Yy,Nn,Nn,Nn,Nn] rfl rfl (by kernel_rfl) (fun _ _ _ h => h) (Or.inl ⟨by rfl, ?_⟩) ?_ ?_
              rotate_left
              · intro w'
                go_simp
                with_reducible rfl
              rotate_left
              · simp only [Act.put, List.setIfInBounds_toArray, List.set_cons_zero, List.set_cons_succ, i64_w, i32_w]
                rfl
              refine pure_ (i := 8) (N := some 46) (v := ?_) (a' := ?_) #[Yy,Yy,Yy,Yy,Nn,Yy,Yy,Yy,Yy,Nn,Nn,Nn] rfl rfl (by kernel_rfl) (fun _ _ _ h => h) (Or.inl ⟨by rfl, ?_⟩) ?_ ?_
              rotate_left
              · intro w'
                go_simp
                with_reducible rfl
              rotate_left
              · simp only [Act.put, List.setIfInBounds_toArray, List.set_cons_zero, List.set_cons_succ, i64_w, i32_w]
                rfl
              refine take_ (i := 4) (N := some 42) (v := ?_) (a' := ?_) #[Yy,Yy,Yy,Yy,Yy,Yy,Yy,Yy,Yy,Nn,Nn,Nn] rfl rfl (by kernel_rfl) (fun _ _ _ h => h) (Or.inl ⟨by rfl, ?_⟩) hHeld ?_ ?_
              rotate_left
              · rintro w' ⟨s0, s1⟩
                go_simp
                with_reducible rfl
              rotate_left
              · simp only [Act.put, List.setIfInBounds_toArray, List.set_cons_zero, List.set_cons_succ, i64_w, i32_w]
                rfl
              refine take_ (i := 9) (N := some 47) (v := ?_) (a' := ?_) #[Yy,Yy,Yy,Yy,Yy,Yy,Yy,Yy,Yy,Yy,Nn,Nn] rfl rfl (by kernel_rfl) (fun _ _ _ h => h) (Or.inl ⟨by rfl, ?_⟩) hHeld ?_ ?_
              rotate_left
              · rintro w' ⟨s0, s1⟩
                go_simp
                with_reducible rfl
              rotate_left
              · simp only [Act.put, List.setIfInBounds_toArray, List.set_cons_zero, List.set_cons_succ, i64_w, i32_w]
                rfl
              refine one_ (i := 10) (N := some 48) #[Yy,Yy,Yy,Yy,Yy,Yy,Yy,Yy,Yy,Yy,Yy,Nn] rfl rfl (by kernel_rfl) (by decide) (fun K hK => ?_)
              refine goesV_ Tryz.func94 (by kernel_rfl) rfl #[.slice A1 x1.length b1, .slice A2 x2.length b2] (by rfl) rfl rfl (by rfl) (by simp only [List.map_toArray, List.map_cons, List.map_nil]; rfl) ?_
              with_reducible refine (HKE.out _ (below_drew1 (Below.refl _ _))).mono ?_
              rintro e w3 ⟨rfl, hd3'⟩
              refine ⟨_, rfl, ?_⟩
              have hdb := hd3'.below
              refine hK.out _ _ ⟨(hdb.cell (World.block_lt_of_cell? wr.drew _ c1)).trans c1, (hdb.cell (World.block_lt_of_cell? wr.drew _ c2)).trans c2⟩ (fun hHeld => ?_)
              clear hK K
              refine norm_ (a' := ?_) ?_ ?_
              rotate_left
              · show Act.put _ (some 48) _ = _
                simp only [Act.put, List.setIfInBounds_toArray, List.set_cons_zero, List.set_cons_succ, i64_w, i32_w]
                rfl
              refine pure_ (i := 11) (N := some 49) (v := ?_) (a' := ?_) #[Yy,Yy,Yy,Yy,Yy,Yy,Yy,Yy,Yy,Yy,Yy,Yy] rfl rfl (by kernel_rfl) (fun _ _ _ h => h) (Or.inl ⟨by rfl, ?_⟩) ?_ ?_
              rotate_left
              · intro w'
                go_simp
                with_reducible rfl
              rotate_left
              · simp only [Act.put, List.setIfInBounds_toArray, List.set_cons_zero, List.set_cons_succ, i64_w, i32_w]
                rfl
              refine done_ (by kernel_rfl) ?_
              have c3 : w3.cell? ⟨g, k + k2, none⟩ = some (.slice A1 x1.length b1) := (hdb.cell (World.block_lt_of_cell? wr.drew _ c1)).trans c1
              obtain ⟨m3, hm3⟩ := hd3'
              have HH3 : Aside0 (Heads w w3 g xs.length (fun i => .slice (f i).1 (ntR xs i).length (f i).2) s) := ⟨by rw [hm3]; exact HH.out.drew.drewN m3⟩
              have HBw3 : Aside0 (Below base w w3) := ⟨by rw [hm3]; exact pw_below_drewN (below_drew1 HBw.out) _⟩
              have ck := HH3.out.cell kk hkn
              have fk := HH3.out.free kk hkn
              clear hm3 hdb c1 c2
              go_wp2
              go_roundw
              case rel => exact ⟨kk + 1, k2 + 1, _, by go_num, by go_num, by omega, by omega, HI2, ⟨by have h := HH3.out.set hkn (k + k2); rw [← HX.out.1, HE1.out] at h; exact h⟩, ⟨HBw3.out.setCell hbg _⟩⟩
              case measure => simp [intOf]; omega
            · have HI2 : Aside0 (CInv xs k (k2 + 1) kk s) := ⟨HI.out.skip (by rw [show k + k2 - 1 = k + j' by have := HJJ.out; omega, ← HX.out.1, ← HX.out.2]; exact of_decide_eq_true hsb2)⟩
              rw [hsb2] at HKE
              go_wp2
              refine start_ (n := 12) (S := fun w' => w'.cell? ⟨g, k + k2, none⟩ = some (.slice A1 x1.length b1) ∧ w'.cell? ⟨g, k + j', none⟩ = some (.slice A2 x2.length b2)) (ds := []) #[Nn,Nn,Nn,Nn,Nn,Nn,Nn,Nn,Nn,Nn,Nn,Nn] (by kernel_rfl) rfl rfl ⟨c1, c2⟩ (fun hHeld => ?_)
              refine pure_ (i := 0) (N := some 38) (v := ?_) (a' := ?_) #[Yy,Nn,Nn,Nn,Nn,Nn,Nn,Nn,Nn,Nn,Nn,Nn] rfl rfl (by kernel_rfl) (fun _ _ _ h => h) (Or.inl ⟨by rfl, ?_⟩) ?_ ?_
              rotate_left
              · intro w'
                go_simp
                with_reducible rfl
              rotate_left
              · simp only [Act.put, List.setIfInBounds_toArray, List.set_cons_zero, List.set_cons_succ, i64_w, i32_w]
                rfl
              refine pure_ (i := 1) (N := some 39) (v := ?_) (a' := ?_) #[Yy,Yy,Nn,Nn,Nn,Nn,Nn,Nn,Nn,Nn,Nn,Nn] rfl rfl (by kernel_rfl) (fun _ _ _ h => h) (Or.inl ⟨by rfl, ?_⟩) ?_ ?_
              rotate_left
              · intro w'
                go_simp
                with_reducible rfl
              rotate_left
              · simp only [Act.put, List.setIfInBounds_toArray, List.set_cons_zero, List.set_cons_succ, i64_w, i32_w]
                rfl
              refine pure_ (i := 2) (N := some 40) (v := ?_) (a' := ?_) #[Yy,Yy,Yy,Nn,Nn,Nn,Nn,Nn,Nn,Nn,Nn,Nn] rfl rfl (by kernel_rfl) (fun _ _ _ h => h) (Or.inl ⟨by rfl, ?_⟩) ?_ ?_
              rotate_left
              · intro w'
                go_simp
                with_reducible rfl
              rotate_left
              · simp only [Act.put, List.setIfInBounds_toArray, List.set_cons_zero, List.set_cons_succ, i64_w, i32_w]
                rfl
              refine pure_ (i := 3) (N := some 41) (v := ?_) (a' := ?_) #[Yy,Yy,Yy,Yy,Nn,Nn,Nn,Nn,Nn,Nn,Nn,Nn] rfl rfl (by kernel_rfl) (fun _ _ _ h => h) (Or.inl ⟨by rfl, ?_⟩) ?_ ?_
              rotate_left
              · intro w'
                go_simp
                with_reducible rfl
              rotate_left
              · simp only [Act.put, List.setIfInBounds_toArray, List.set_cons_zero, List.set_cons_succ, i64_w, i32_w]
                rfl
              refine pure_ (i := 5) (N := some 43) (v := ?_) (a' := ?_) #[Yy,Yy,Yy,Yy,Nn,Yy,Nn,Nn,Nn,Nn,Nn,Nn] rfl rfl (by kernel_rfl) (fun _ _ _ h => h) (Or.inl ⟨by rfl, ?_⟩) ?_ ?_
              rotate_left
              · intro w'
                go_simp
                with_reducible rfl
              rotate_left
              · simp only [Act.put, List.setIfInBounds_toArray, List.set_cons_zero, List.set_cons_succ, i64_w, i32_w]
                rfl
              refine pure_ (i := 6) (N := some 44) (v := ?_) (a' := ?_) #[Yy,Yy,Yy,Yy,Nn,Yy,Yy,Nn,Nn,Nn,Nn,Nn] rfl rfl (by kernel_rfl) (fun _ _ _ h => h) (Or.inl ⟨by rfl, ?_⟩) ?_ ?_
              rotate_left
              · intro w'
                go_simp
                with_reducible rfl
              rotate_left
              · simp only [Act.put, List.setIfInBounds_toArray, List.set_cons_zero, List.set_cons_succ, i64_w, i32_w]
                rfl
              refine pure_ (i := 7) (N := some 45) (v := ?_) (a' := ?_) #[Yy,Yy,Yy,Yy,Nn,Yy,Yy,Yy,Nn,Nn,Nn,Nn] rfl rfl (by kernel_rfl) (fun _ _ _ h => h) (Or.inl ⟨by rfl, ?_⟩) ?_ ?_
              rotate_left
              · intro w'
                go_simp
                with_reducible rfl
              rotate_left
              · simp only [Act.put, List.setIfInBounds_toArray, List.set_cons_zero, List.set_cons_succ, i64_w, i32_w]
                rfl
              refine pure_ (i := 8) (N := some 46) (v := ?_) (a' := ?_) #[Yy,Yy,Yy,Yy,Nn,Yy,Yy,Yy,Yy,Nn,Nn,Nn] rfl rfl (by kernel_rfl) (fun _ _ _ h => h) (Or.inl ⟨by rfl, ?_⟩) ?_ ?_
              rotate_left
              · intro w'
                go_simp
                with_reducible rfl
              rotate_left
              · simp only [Act.put, List.setIfInBounds_toArray, List.set_cons_zero, List.set_cons_succ, i64_w, i32_w]
                rfl
              refine take_ (i := 4) (N := some 42) (v := ?_) (a' := ?_) #[Yy,Yy,Yy,Yy,Yy,Yy,Yy,Yy,Yy,Nn,Nn,Nn] rfl rfl (by kernel_rfl) (fun _ _ _ h => h) (Or.inl ⟨by rfl, ?_⟩) hHeld ?_ ?_
              rotate_left
              · rintro w' ⟨s0, s1⟩
                go_simp
                with_reducible rfl
              rotate_left
              · simp only [Act.put, List.setIfInBounds_toArray, List.set_cons_zero, List.set_cons_succ, i64_w, i32_w]
                rfl
              refine take_ (i := 9) (N := some 47) (v := ?_) (a' := ?_) #[Yy,Yy,Yy,Yy,Yy,Yy,Yy,Yy,Yy,Yy,Nn,Nn] rfl rfl (by kernel_rfl) (fun _ _ _ h => h) (Or.inl ⟨by rfl, ?_⟩) hHeld ?_ ?_
              rotate_left
              · rintro w' ⟨s0, s1⟩
                go_simp
                with_reducible rfl
              rotate_left
              · simp only [Act.put, List.setIfInBounds_toArray, List.set_cons_zero, List.set_cons_succ, i64_w, i32_w]
                rfl
              refine one_ (i := 10) (N := some 48) #[Yy,Yy,Yy,Yy,Yy,Yy,Yy,Yy,Yy,Yy,Yy,Nn] rfl rfl (by kernel_rfl) (by decide) (fun K hK => ?_)
              refine goesV_ Tryz.func94 (by kernel_rfl) rfl #[.slice A1 x1.length b1, .slice A2 x2.length b2] (by rfl) rfl rfl (by rfl) (by simp only [List.map_toArray, List.map_cons, List.map_nil]; rfl) ?_
              with_reducible refine (HKE.out _ (below_drew1 (Below.refl _ _))).mono ?_
              rintro e w3 ⟨rfl, hd3'⟩
              refine ⟨_, rfl, ?_⟩
              have hdb := hd3'.below
              refine hK.out _ _ ⟨(hdb.cell (World.block_lt_of_cell? wr.drew _ c1)).trans c1, (hdb.cell (World.block_lt_of_cell? wr.drew _ c2)).trans c2⟩ (fun hHeld => ?_)
              clear hK K
              refine norm_ (a' := ?_) ?_ ?_
              rotate_left
              · show Act.put _ (some 48) _ = _
                simp only [Act.put, List.setIfInBounds_toArray, List.set_cons_zero, List.set_cons_succ, i64_w, i32_w]
                rfl
              refine pure_ (i := 11) (N := some 49) (v := ?_) (a' := ?_) #[Yy,Yy,Yy,Yy,Yy,Yy,Yy,Yy,Yy,Yy,Yy,Yy] rfl rfl (by kernel_rfl) (fun _ _ _ h => h) (Or.inl ⟨by rfl, ?_⟩) ?_ ?_
              rotate_left
              · intro w'
                go_simp
                with_reducible rfl
              rotate_left
              · simp only [Act.put, List.setIfInBounds_toArray, List.set_cons_zero, List.set_cons_succ, i64_w, i32_w]
                rfl
              refine done_ (by kernel_rfl) ?_
              obtain ⟨m3, hm3⟩ := hd3'
              have HH3 : Aside0 (Heads w w3 g xs.length (fun i => .slice (f i).1 (ntR xs i).length (f i).2) s) := ⟨by rw [hm3]; exact HH.out.drew.drewN m3⟩
              have HBw3 : Aside0 (Below base w w3) := ⟨by rw [hm3]; exact pw_below_drewN (below_drew1 HBw.out) _⟩
              clear hm3 hdb
              go_wp2
              go_roundw
              case rel => exact ⟨kk, k2 + 1, s, rfl, by go_num, by omega, by omega, HI2, HH3, HBw3⟩
              case measure => simp [intOf]; omega
          · have hend : k + k2 = xs.length := by omega
            have hkn : kk < xs.length := by omega
            obtain ⟨hsrt, hmem⟩ := HI.out.done HS.out hend
            obtain ⟨iR, hiR, _, hszR, _⟩ := info_parts infoR
            have hcut2 : ∀ W : World, (Instr.slice 41 (.slice (some ⟨g, 0, none⟩) xs.length cap) (some (.int .i64 kk)) none none).run Tryz.prog W = .ok (.slice (some ⟨g, kk, none⟩) (xs.length - kk) (cap - kk)) W := by
              intro W
              have h := cut_from (P := Tryz.prog) 41 84 .i64 Tryz.underlying41 hiR 1 hszR (some ⟨g, 0, none⟩) xs.length cap kk (by omega) (by omega) W
              rw [Int.toNat_natCast, if_neg (by omega), Option.map_some, add_plain, Nat.mul_one] at h
              exact h
            have hcl : ∀ ty, (Builtin.clear_ #[41] ty #[.slice (some ⟨g, kk, none⟩) (xs.length - kk) (cap - kk)]).run Tryz.prog wr = .ok (.tuple #[]) (wr.setCells g kk (List.replicate (xs.length - kk) (.slice none 0 0))) :=
              fun ty => Lib.run_clear_slice wr _ _ ty _ Tryz.underlying41 (fun w => by go_simp) rfl rfl g kk _ _ (by omega) (fun j hj => by rw [HH.out.cell (kk + j) (by omega)]; rfl) (fun j hj => HH.out.free (kk + j) (by omega))
            have HHE := Aside0.mk (HH.out.setCells (kk := kk) (List.replicate (xs.length - kk) (.slice none 0 0)) (by omega))
            have hlk : ((List.range kk).map fun j => ntR xs (s j)).length = kk := by simp
            have HCC : Aside0 (kR.C (wr.setCells g kk (List.replicate (xs.length - kk) (.slice none 0 0))) (some ⟨g, 0, none⟩) kk ((List.range kk).map fun j => ntR xs (s j))) := ⟨hlk, by omega, fun _ => ⟨⟨g, 0, none⟩, rfl, fun j p hj => by
              obtain ⟨hjl, hjp⟩ := List.getElem?_eq_some_iff.1 hj
              have hjk : j < kk := by simpa using hjl
              have hsl := HI.out.low j hjk
              obtain ⟨A, c, e, hle9, hC⟩ := row_of (HF.out (s j) (by omega)).2 HHE.out.keep
              have hp : ntR xs (s j) = p := by simpa using hjp
              subst hp
              refine ⟨[.slice A (ntR xs (s j)).length c], rfl, ⟨A, c, rfl, hle9, hC⟩, fun q u hu => ?_⟩
              have hq : q = 0 := by have := (List.getElem?_eq_some_iff.1 hu).1; simpa using this
              subst hq
              have hu' : Value.slice A (ntR xs (s j)).length c = u := by simpa using hu
              rw [← hu', add_plain]
              have hcc := HHE.out.cell j hjk
              rw [e] at hcc
              simpa [kR, Kd.slice] using hcc⟩⟩
            have hcut3 : ∀ W : World, (Instr.slice 41 (.slice (some ⟨g, 0, none⟩) xs.length cap) none (some (.int .i64 kk)) none).run Tryz.prog W = .ok (.slice (some ⟨g, 0, none⟩) kk cap) W := by
              intro W
              have h := cut_to (P := Tryz.prog) 41 84 .i64 Tryz.underlying41 hiR (some ⟨g, 0, none⟩) xs.length cap kk (by omega) (by omega) hle W
              rw [Int.toNat_natCast] at h
              exact h
            have HSM := Aside0.mk (And.intro hsrt hmem)
            have hsc : ∀ (vs : List Value) (o : Nat) (W : World), Below base w W → Below base w (W.setCells g o vs) := by
              intro vs
              induction vs with
              | nil => intro o W h; exact h
              | cons v vs ih => intro o W h; exact ih (o + 1) _ (h.setCell hbg _)
            have HBE := Aside0.mk (hsc (List.replicate (xs.length - kk) (.slice none 0 0)) kk wr HBw.out)
            clear hsrt hmem hsc
            go_wp2
            go_ret
            exact ⟨(List.range kk).map fun j => ntR xs (s j), by rw [hlk]; rfl, HSM.out.1, HSM.out.2, by rw [hlk]; exact HCC.out, HBE.out⟩
    · have HN : Aside0 (Sorted xs) := ⟨sorted_neighbours HS.out (fun j hj => HZ.out j (by omega))⟩
      go_wp2
      go_ret
      exact ⟨xs, rfl, HN.out, fun _ => Iff.rfl, Kd.C_drewN HC0.out _, pw_below_drewN (Below.refl _ _) _⟩
end Go.Proofs.YtbenhcognapdpaaGreat
/- slices.SortFunc at the headers of rows, by slices.Compare. -/
set_option linter.unusedVariables false
set_option linter.unusedSimpArgs false
namespace Go.Proofs.YtbenhcognapdpaaGreat
open Go.RowKit Go.Proofs.YtbenhcognapdpaaGreatW.PrintWords Go.Proofs.YtbenhcognapdpaaGreatW.PrintLast Lin Go.Sort

theorem below_grow' (B : Nat) (w : World) (os : Array Obj) (h : B ≤ w.heap.size) : RowKit.Below B w (Sort.grow w os) := by
  refine ⟨rfl, rfl, rfl, by simp [Sort.grow], fun k hk => ?_⟩
  show (w.heap ++ os)[k]? = _
  rw [Array.getElem?_append_left (by omega)]
theorem putRow_heap {α : Type} [Inhabited α] (enc : α → Value) (w : World) (blk off m : Nat) (dk : Array α) (k : Nat) (hk : k ≠ blk) : (putRow enc (Sort.ahead w m) blk off dk).heap[k]? = w.heap[k]? := by
  unfold Sort.putRow Sort.mapBlock Sort.ahead
  show (w.heap.modify blk _)[k]? = _
  rw [Array.getElem?_modify, if_neg (fun e => hk e.symm)]
theorem below_putRow {α : Type} [Inhabited α] (enc : α → Value) (w : World) (blk off m : Nat) (dk : Array α) {B : Nat} (h : B ≤ blk) : RowKit.Below B w (putRow enc (Sort.ahead w m) blk off dk) :=
  ⟨rfl, rfl, rfl, by simp [Sort.putRow, Sort.mapBlock, Sort.ahead], fun k hk => putRow_heap enc w blk off m dk k (by omega)⟩
theorem cmpL_le_trans {a b c : List Int} (h1 : 0 ≤ cmpL a b) (h2 : 0 ≤ cmpL b c) : 0 ≤ cmpL a c := by
  have r1 := cmpL_rev a b
  have r2 := cmpL_rev b c
  have r3 := cmpL_rev a c
  rcases cmpL_cases b a with h | h | h
  · rcases cmpL_cases c b with h' | h' | h'
    · have := cmpL_trans (show cmpL c b < 0 by omega) (show cmpL b a < 0 by omega); omega
    · have := cmpL_eq_zero h'; subst this; omega
    · omega
  · have := cmpL_eq_zero h; subst this; omega
  · omega

/-- The headers of rows, by number. -/
def encH (inner : List Value) : Option (Fin inner.length) → Value
  | none => .slice none 0 0
  | some i => inner[i]
def rowH (xs : List (List Int)) {n : Nat} : Option (Fin n) → List Int
  | none => []
  | some i => ntR xs i.val
theorem swoH (xs : List (List Int)) (n : Nat) : SWO (ltOf (fun (x y : Option (Fin n)) => cmpL (rowH xs x) (rowH xs y))) where
  irrefl x := by simp [ltOf, cmpL_self]
  trans x y z h1 h2 := by
    simp only [ltOf, decide_eq_true_iff] at *
    exact cmpL_trans h1 h2
  ntrans x y z h1 h2 := by
    simp only [ltOf, decide_eq_false_iff_not, Int.not_lt] at *
    exact cmpL_le_trans h1 h2

theorem encH_map {n : Nat} (inner : List Value) : ((List.finRange inner.length).map some).map (encH inner) = inner := by
  apply List.ext_getElem
  · simp
  · intro i h1 h2
    simp [encH]
theorem rowH_map (xs : List (List Int)) : ((List.finRange xs.length).map some).map (rowH xs) = xs := by
  apply List.ext_getElem
  · simp
  · intro i h1 h2
    simp [rowH, ntR_eq xs i h2]
set_option maxHeartbeats 1000000 in
theorem sortRows_calls {base g cap n : Nat} {xs : List (List Int)} {w : World} (h : kR.R 84 w base (fun _ => True) (.slice (some ⟨g, 0, none⟩) n cap) xs) (hn : n < 1000000) (hbase : base ≤ w.heap.size) :
    Calls Tryz.prog 132 #[.slice (some ⟨g, 0, none⟩) n cap, .func (.func 170) #[] #[]] w fun e w' => e = .returned (.tuple #[]) ∧ ∃ ys : List (List Int), ys.Perm xs ∧ ys.Pairwise (fun a b => 0 ≤ cmpL b a) ∧
      kR.R 84 w' base (fun _ => True) (.slice (some ⟨g, 0, none⟩) n cap) ys ∧ RowKit.Below base w w' := by
  obtain ⟨hnx, _, _⟩ := R_rows' h
  obtain ⟨_, inner, hown, hr⟩ := h
  have hsz1 : kR.sz = 1 := rfl
  rw [hsz1] at hown hr
  have hlen : inner.length = n := by have := hown.1; omega
  have hxl : xs.length = n := hnx.symm
  subst hlen
  have hM : ∀ i : Fin inner.length, kI.R 2 w base (fun k => k ≠ g) inner[i] (ntR xs i.val) := by
    intro i
    have hi : i.val < xs.length := by omega
    have h1 := hr.2 i.val _ (List.getElem?_eq_getElem hi)
    obtain ⟨u, hu, hR⟩ := h1
    have hu2 : inner[i.val] = u := by
      have : (inner.drop (i.val * 1)).take 1 = [u] := hu
      rw [Nat.mul_one, List.drop_eq_getElem_cons i.isLt, List.take_succ_cons, List.take_zero] at this
      exact (List.cons.inj this).1
    rw [ntR_eq xs i.val hi]
    show kI.R _ w base _ (inner[i.val]) _
    rw [hu2]
    exact Kd.R_mono hR (fun k hk => fun e => hk.2 (by rw [e]; rfl))
  have h1c : OneCell (encH inner) := by
    intro x
    cases x with
    | none => rfl
    | some i =>
      obtain ⟨A, c, e⟩ := Kd.R_slice (hM i)
      show (inner[i.val]).oneCell' = true
      have : inner[i.val] = .slice A _ c := e
      rw [this]; rfl
  have hzs : w.ownsRow base 84 1 (.slice (some ⟨g, 0, none⟩) inner.length cap) inner.length (((List.finRange inner.length).map some).map (encH inner)) := by rw [encH_map (n := 0)]; exact hxl ▸ hown
  obtain ⟨g', cap', hv, hbg, hgl, hnc, hcm, hzl, hH⟩ := Go.Lib.holds_of_ownsRow hzs (by intro e; cases e)
  cases hv
  have hsz : (((List.finRange inner.length).map some).toArray : Array (Option (Fin inner.length))).size = inner.length := by simp
  have hread : ∀ W : World, (∀ k, k ≠ g → k < w.heap.size → W.heap[k]? = w.heap[k]?) → ∀ x : Option (Fin inner.length), ∃ A n c, encH inner x = .slice A n c ∧ kI.C W A n (rowH xs x) := by
    intro W hW x
    cases x with
    | none => exact ⟨none, 0, 0, rfl, rfl, by omega, fun h => by omega⟩
    | some i =>
      have h2 : kI.R 2 W base (fun k => k ≠ g) inner[i] (ntR xs i.val) := Kd.R_step (hM i) (fun k hk hl => hW k hk hl)
      obtain ⟨A, c, e, _, hC⟩ := Kd.R_reads h2
      exact ⟨A, _, c, e, hC⟩
  have hcmp : CmpLays1 Tryz.prog 170 #[] (encH inner) (fun x y => cmpL (rowH xs x) (rowH xs y)) g 0 (((List.finRange inner.length).map some).toArray : Array (Option (Fin inner.length))).size w := by
    intro m os dk hs x y
    have hW := fun k hk hl => sortWorld_heap (encH inner) w g 0 m dk os k hk hl
    obtain ⟨A, n, c, e1, hC1⟩ := hread _ hW x
    obtain ⟨A', n', c', e2, hC2⟩ := hread _ hW y
    rw [e1, e2]
    exact (slCompare_calls A n c _ A' n' c' _ _ hC1 hC2).mono fun e w' ⟨he, hw⟩ => ⟨he, 0, #[], by rw [← hw, Sort.grow_empty]; rfl⟩
  have eg : ∀ args w, (callFunc 170 args).run Tryz.prog w = .ok (.enter 170 args) w := enters_of Tryz.func170 (by kernel_rfl) rfl
  have hcon := Any.slices_SortFunc Tryz.sortRows (encH inner) h1c (fun x y => cmpL (rowH xs x) (rowH xs y)) (swoH xs inner.length) 170 #[] g 0 cap (((List.finRange inner.length).map some).toArray) w eg hcmp hH hgl (by rw [hsz]; omega)
  change Calls Tryz.prog 132 _ _ _ at hcon
  rw [hsz] at hcon
  refine hcon.mono ?_
  rintro e w' ⟨rfl, d', q, os, hp, hs, rfl⟩
  have hd : d'.size = inner.length := by rw [hp.1]; exact hsz
  have hperm : d'.toList.Perm ((List.finRange inner.length).map some) := by
    have := hp.2.2
    rw [Array.extract_eq_self_of_le (by omega), Array.extract_eq_self_of_le (by omega)] at this
    simpa using this
  refine ⟨rfl, d'.toList.map (rowH xs), ?_, ?_, ?_, ?_⟩
  · have := hperm.map (rowH xs)
    have e := rowH_map xs
    rw [hxl] at e
    rw [e] at this
    exact this
  · rw [List.pairwise_map, List.pairwise_iff_getElem]
    intro i j hi hj hij
    have h2 := hs i j (by omega) hij (by simpa [hd] using hj)
    simp only [ltOf, decide_eq_false_iff_not, Int.not_lt] at h2
    rw [getElem!_pos d' j (by simpa using hj), getElem!_pos d' i (by simpa using hi)] at h2
    simpa using h2
  · have hup := Go.Lib.ownsRow_putRow (q := q) (k := inner.length) (ys := d'.toList) hzs (by simpa using hd) (Nat.le_refl _)
    have htk : d'.toList.take inner.length = d'.toList := List.take_of_length_le (by simp [hd])
    rw [htk, Array.toArray_toList] at hup
    have hR : kR.R 84 (putRow (encH inner) (Sort.ahead w q) g 0 d') base (fun _ => True) (.slice (some ⟨g, 0, none⟩) inner.length cap) (d'.toList.map (rowH xs)) := by
      refine ⟨fun _ _ => trivial, d'.toList.map (encH inner), ?_, ?_⟩
      · have e : (d'.toList.map (rowH xs)).length = inner.length := by simp [hd]
        rw [e]; exact hup
      · refine ⟨by simp [kR, Kd.slice], fun j r hj => ?_⟩
        obtain ⟨hjl, hjr⟩ := List.getElem?_eq_some_iff.1 hj
        have hjd : j < d'.toList.length := by simpa using hjl
        have ecs : ((d'.toList.map (encH inner)).drop (j * 1)).take 1 = [encH inner d'.toList[j]] := by
          rw [Nat.mul_one, List.drop_eq_getElem_cons (by simpa using hjd)]
          simp
        have er : rowH xs d'.toList[j] = r := by simpa using hjr
        have hne : ∃ i, d'.toList[j] = some i := by
          have hmem := hperm.subset (List.getElem_mem hjd)
          obtain ⟨i, _, hi⟩ := List.mem_map.1 hmem
          exact ⟨i, hi.symm⟩
        obtain ⟨i, hi⟩ := hne
        refine ⟨inner[i], ?_, ?_⟩
        · show ((d'.toList.map (encH inner)).drop (j * 1)).take 1 = _
          rw [ecs, hi]; rfl
        · rw [← er, hi]
          exact Kd.R_mono (Kd.R_step (hM i) (fun k hk _ => putRow_heap (encH inner) w g 0 q d' k hk)) (fun k hk => ⟨trivial, fun e => hk (by simpa [Value.ownBlock] using e)⟩)
    exact Kd.R_below hR (below_grow' _ _ _ (Nat.le_refl _))
  · exact (below_putRow (encH inner) w g 0 q d' hbg).trans (below_grow' _ _ _ (by simp [Sort.putRow, Sort.mapBlock, Sort.ahead]; exact hbase))
end Go.Proofs.YtbenhcognapdpaaGreat
