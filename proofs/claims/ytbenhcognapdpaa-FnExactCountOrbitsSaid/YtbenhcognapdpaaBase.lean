/- Words for the walks of this seat: kinds of elements, and what is read of them. -/
import Derived.Test.YtbenhcognapdpaaProg
import Derived.Test.YtbenhcognapdpaaLinM
import Derived.Test.YtbenhcognapdpaaWWords
import Derived.Test.YtbenhcognapdpaaWLast
import Derived.Test.YtbenhcognapdpaaWArr
import Derived.WalkKit
import Derived.WalkSpells
import Derived.Below
import Derived.Outline
import Derived.Deep.LoopGhost
import Derived.Deep.QuietTactic
import Derived.BigQuiet
import Derived.StillTailTactics
import Derived.Lib.Hide
set_option linter.unusedVariables false
set_option linter.unusedSimpArgs false
namespace Go.Proofs.Ytbenhcognapdpaa
open Go.RowKit Go.Proofs.YtbenhcognapdpaaW.PrintWords Go.Proofs.YtbenhcognapdpaaW.PrintLast Lin

abbrev kI : Kd Int := Kd.int .i64
abbrev kB : Kd Int := Kd.int .u8
abbrev kR : Kd (List Int) := Kd.slice 2 kI

theorem infoI : (Try.prog.info? 2).map (fun i => (i.zero, i.size, i.bytes)) = some (some (.int .i64 0), 1, 8) := by kernel_rfl
theorem infoR : (Try.prog.info? 38).map (fun i => (i.zero, i.size, i.bytes)) = some (some (.slice none 0 0), 1, 24) := by kernel_rfl

theorem ret_i {k : IntKind} {a b : Int} (h : a = b) : Ending.returned (.int k a) = .returned (.int k b) := by rw [h]
theorem ret_b {a b : Bool} (h : a = b) : Ending.returned (.bool a) = .returned (.bool b) := by rw [h]
/-- A slice that is read: its value. -/
def Rd {α : Type} (d : Kd α) (w : World) (v : Value) (xs : List α) : Prop := ∃ A c, v = .slice A xs.length c ∧ xs.length ≤ c ∧ d.C w A xs.length xs

/-- The cell of a number of a row that is read, the index a natural number. -/
theorem at_nt {w : World} {A : Option Addr} {n : Nat} {k : IntKind} {xs : List Int} (h : (Kd.int k).C w A n xs) (i : Nat) (h1 : i < n) : ∃ ad, A = some ad ∧ w.cell? (ad.add i) = some (.int k (nt xs i)) := by
  obtain ⟨ad, e, hc⟩ := Kd.at_int h (i : Int) (by omega) (by omega)
  exact ⟨ad, e, by simpa [rd, nt] using hc⟩

theorem bsize {w W : World} (h : Below w.heap.size w W) : w.heap.size ≤ W.heap.size := h.size
theorem tmod_mod {p x : Int} (hp : 0 < p) : (x.tmod p + p) % p = x % p := by
  have h1 := Int.lt_tmod_of_pos x hp
  rw [Int.add_emod_right]
  rw [Int.tmod_def, Int.sub_eq_add_neg, ← Int.mul_neg, Int.add_mul_emod_self_left]

section
variable {P : Program} {ops : Array Oper} {rest : List Oper} {o : Oper} {a : Act} {Q : Exit → Act → World → Prop}
/-- append(v, x): v an own slice of numbers. -/
theorem app_int {w0 W : World} (hgd : o.guard = none) (s x : Operand) (t : TypeId) (ho : o.op = .call { callee := .builtin .append, args := #[s, x], argTypes := #[t, t] })
    (ht : P.underlying t = some (.slice 2)) (hinfo : (P.info? 2).map (fun i => (i.zero, i.size, i.bytes)) = some (some (.int .i64 0), 1, 8))
    (v : Value) (xs : List Int) (p : Int) (hs : a.eval s = v) (hx : a.eval x = .slice (some ⟨W.heap.size, 0, none⟩) 1 1)
    (HO : kI.R 2 W w0.heap.size (fun _ => True) v xs) (HB : Below w0.heap.size w0 W) (hl : xs.length < 17592186044416)
    (h : ∀ v1 w1, kI.R 2 w1 w0.heap.size (fun _ => True) v1 (xs ++ [p]) → Below w0.heap.size w0 w1 → W.grownBy w1 v.ownBlock → (v1.ownBlock = v.ownBlock ∨ ∃ b, v1.ownBlock = some b ∧ W.heap.size ≤ b) → wpList P ops Q rest (a.put o.dst v1) w1) :
    wpList P ops Q (o :: rest) a (W.alloc (.cells #[.int .i64 p] 2)) :=
  Kd.R_append kI w0.heap.size hgd s x t 2 (.int .i64 0) 8 ho ht hinfo rfl (by decide) (by omega) v xs p [.int .i64 p] (fun _ => True) (fun _ => False) hs hx rfl (fun _ h => h.elim) (fun _ _ => trivial) HO HB HB.size (by omega) h
/-- append(v, ys...): v an own slice of numbers, ys read. -/
theorem app_ints {w0 W : World} (hgd : o.guard = none) (s x : Operand) (t : TypeId) (ho : o.op = .call { callee := .builtin .append, args := #[s, x], argTypes := #[t, t] })
    (ht : P.underlying t = some (.slice 2)) (hinfo : (P.info? 2).map (fun i => (i.zero, i.size, i.bytes)) = some (some (.int .i64 0), 1, 8))
    (v : Value) (xs ys : List Int) (A : Option Addr) (c : Nat) (hs : a.eval s = v) (hx : a.eval x = .slice A ys.length c)
    (HO : kI.R 2 W w0.heap.size (fun _ => True) v xs) (HR : kI.C W A ys.length ys) (HB : Below w0.heap.size w0 W) (hl : xs.length + ys.length < 17592186044416)
    (h : ∀ v1 w1, kI.R 2 w1 w0.heap.size (fun _ => True) v1 (xs ++ ys) → Below w0.heap.size w0 w1 → W.grownBy w1 v.ownBlock → (v1.ownBlock = v.ownBlock ∨ ∃ b, v1.ownBlock = some b ∧ W.heap.size ≤ b) → wpList P ops Q rest (a.put o.dst v1) w1) :
    wpList P ops Q (o :: rest) a W :=
  Kd.R_append_rows kI (Rr := kI.K W) w0.heap.size hgd s x t 2 (.int .i64 0) 8 ho ht hinfo rfl (by decide) (by omega) v xs ys A ys.length c (fun _ => True) (fun _ => False) hs hx HO HR (fun _ _ h => h) (fun _ h => h.elim) (fun _ _ => trivial) HB HB.size (by omega) h
end

/-- A literal without elements. -/
theorem R_lit0 {α : Type} (d : Kd α) (e : Nat) (w : World) (B : Nat) (h : B ≤ w.heap.size) : d.R e (w.alloc (.cells #[] e)) B (fun _ => True) (.slice (some ⟨w.heap.size, 0, none⟩) 0 0) [] := by
  refine ⟨fun _ _ => trivial, [], ?_, Reps.none _ _⟩
  have h2 := World.ownsRow_lit (base := B) (e := e) (size := d.sz) w #[] 0 h (by simp [maxLen]) (by simp)
  simpa using h2
/-- A row of a list of rows. (A name that simp does not open.) -/
def ntR (xs : List (List Int)) (i : Nat) : List Int := xs.getD i []
theorem ntR_eq (xs : List (List Int)) (i : Nat) (h : i < xs.length) : ntR xs i = xs[i] := by
  simp [ntR, List.getD_eq_getElem?_getD, List.getElem?_eq_getElem h]
theorem ntR_mem (xs : List (List Int)) (i : Nat) (h : i < xs.length) : ntR xs i ∈ xs := by rw [ntR_eq xs i h]; exact List.getElem_mem h
theorem take_succ_ntR (xs : List (List Int)) (i : Nat) (h : i < xs.length) : xs.take (i + 1) = xs.take i ++ [ntR xs i] := by
  rw [ntR_eq xs i h, List.take_succ_eq_append_getElem h]
theorem at_row {w : World} {A : Option Addr} {n : Nat} {xs : List (List Int)} (h : kR.C w A n xs) (i : Nat) (h1 : i < n) :
    ∃ ad A0 c0 r, r = ntR xs i ∧ A = some ad ∧ w.cell? (ad.add i) = some (.slice A0 r.length c0) ∧ r.length ≤ c0 ∧ kI.C w A0 r.length r := by
  obtain ⟨ad, c, e, _, hK, hc0⟩ := Kd.C_get h ([] : List Int) (i : Int) (by omega) (by omega)
  have hc : ∀ j u, c[j]? = some u → w.cell? (ad.add (i * 1 + j)) = some u := hc0
  obtain ⟨A0, c0, rfl, l0, g0⟩ := hK
  exact ⟨ad, A0, c0, ntR xs i, rfl, e, by have hq := hc 0 _ rfl; simpa [ntR] using hq, by simpa [ntR] using l0, by simpa [ntR] using g0⟩
/-- A number of a row of the call's own: read, written. -/
theorem own_cell {e base g n cap : Nat} {ok : Nat → Prop} {W : World} {xs : List Int} (h : kI.R e W base ok (.slice (some ⟨g, 0, none⟩) n cap) xs) (i : Nat) (hi : i < n) : W.cell? ⟨g, i, none⟩ = some (.int .i64 (nt xs i)) ∧ W.frozen? ⟨g, i, none⟩ = false := by
  have := Kd.R_celln (0 : Int) h (i : Int) (by omega) (by omega)
  simpa [rdOf, nt] using this
theorem own_put {e base g n cap : Nat} {ok : Nat → Prop} {W : World} {xs : List Int} (h : kI.R e W base ok (.slice (some ⟨g, 0, none⟩) n cap) xs) (i : Nat) (x : Int) : kI.R e (W.setCell ⟨g, i, none⟩ (.int .i64 x)) base ok (.slice (some ⟨g, 0, none⟩) n cap) (xs.set i x) := by
  have := Kd.R_putn h (i : Int) x
  simp only [Int.toNat_natCast] at this
  exact this
/-- A block that is new is none of an elder row's. -/
theorem R_fresh {α : Type} {d : Kd α} {e base : Nat} {ok : Nat → Prop} {W : World} {v : Value} {xs : List α} (h : d.R e W base ok v xs) (o : Obj) (n c : Nat) : d.R e (W.alloc o) base (fun k => some k ≠ (Value.slice (some ⟨W.heap.size, 0, none⟩) n c).ownBlock) v xs := by
  refine Kd.R_mono (Kd.R_alloc (Kd.R_bound h) o) (fun k hk => ?_)
  have := hk.2.2.1
  simp [Value.ownBlock]
  omega
theorem R_any {α : Type} {d : Kd α} {e base : Nat} {ok : Nat → Prop} {W : World} {v : Value} {xs : List α} (h : d.R e W base ok v xs) : d.R e W base (fun _ => True) v xs := Kd.R_mono h (fun _ _ => trivial)
/-- What is apart from an own row stays apart behind an append to it. -/
theorem R_next {α : Type} {d : Kd α} {e base : Nat} {W w1 : World} {u v v1 : Value} {xs : List α} (h : d.R e W base (fun k => some k ≠ v.ownBlock) u xs) (hg : W.grownBy w1 v.ownBlock) (hat : v1.ownBlock = v.ownBlock ∨ ∃ b, v1.ownBlock = some b ∧ W.heap.size ≤ b) : d.R e w1 base (fun k => some k ≠ v1.ownBlock) u xs :=
  Kd.R_mono (Kd.R_after (ok := fun _ => True) (Kd.R_mono h (fun k hk => ⟨trivial, hk⟩)) hg hat) (fun k hk => hk.2)

section
variable {P : Program} {ops : Array Oper} {rest : List Oper} {o : Oper} {a : Act} {Q : Exit → Act → World → Prop} {Kc : Act → World → Prop}
/-- append(v, u): v an own slice of rows, u an own row, another one. -/
theorem app_row {w0 W : World} (hgd : o.guard = none) (s x : Operand) (t : TypeId) (ho : o.op = .call { callee := .builtin .append, args := #[s, x], argTypes := #[t, t] })
    (ht : P.underlying t = some (.slice 38)) (hinfo : (P.info? 38).map (fun i => (i.zero, i.size, i.bytes)) = some (some (.slice none 0 0), 1, 24))
    (v : Value) (xs : List (List Int)) (u : Value) (p : List Int) (hs : a.eval s = v) (hx : a.eval x = .slice (some ⟨W.heap.size, 0, none⟩) 1 1)
    (HP : kI.R 2 W w0.heap.size (fun k => some k ≠ v.ownBlock) u p)
    (HO : kR.R 38 W w0.heap.size (fun _ => True) v xs) (HB : Below w0.heap.size w0 W) (hl : xs.length < 1000000000000)
    (h : ∀ v1 w1, kR.R 38 w1 w0.heap.size (fun _ => True) v1 (xs ++ [p]) → Below w0.heap.size w0 w1 → W.grownBy w1 v.ownBlock → (v1.ownBlock = v.ownBlock ∨ ∃ b, v1.ownBlock = some b ∧ W.heap.size ≤ b) → wpList P ops Q rest (a.put o.dst v1) w1) :
    wpList P ops Q (o :: rest) a (W.alloc (.cells #[u] 38)) :=
  Kd.R_append kR w0.heap.size hgd s x t 38 (.slice none 0 0) 24 ho ht hinfo rfl (by decide) (by omega) v xs p [u] (fun _ => True) (fun k => some k ≠ v.ownBlock) hs hx (Kd.M_row HP) (fun _ h => ⟨trivial, h⟩) (fun _ _ => trivial) HO HB HB.size (by omega) h
theorem app_row_step {w0 W : World} (hw : Region.wanted o (yielded ops a.tmps) = true) (s x : Operand) (t : TypeId) (ho : o.op = .call { callee := .builtin .append, args := #[s, x], argTypes := #[t, t] })
    (ht : P.underlying t = some (.slice 38)) (hinfo : (P.info? 38).map (fun i => (i.zero, i.size, i.bytes)) = some (some (.slice none 0 0), 1, 24))
    (v : Value) (xs : List (List Int)) (u : Value) (p : List Int) (hs : a.eval s = v) (hx : a.eval x = .slice (some ⟨W.heap.size, 0, none⟩) 1 1)
    (HP : kI.R 2 W w0.heap.size (fun k => some k ≠ v.ownBlock) u p)
    (HO : kR.R 38 W w0.heap.size (fun _ => True) v xs) (HB : Below w0.heap.size w0 W) (hl : xs.length < 1000000000000)
    (h : ∀ v1 w1, kR.R 38 w1 w0.heap.size (fun _ => True) v1 (xs ++ [p]) → Below w0.heap.size w0 w1 → W.grownBy w1 v.ownBlock → (v1.ownBlock = v.ownBlock ∨ ∃ b, v1.ownBlock = some b ∧ W.heap.size ≤ b) → Kc (a.put o.dst v1) w1) :
    if Region.wanted o (yielded ops a.tmps) = true then Oper.wp P o a (W.alloc (.cells #[u] 38)) Kc Q else Kc (a.put o.dst undef) (W.alloc (.cells #[u] 38)) :=
  Kd.R_append_step kR w0.heap.size hw s x t 38 (.slice none 0 0) 24 ho ht hinfo rfl (by decide) (by omega) v xs p [u] (fun _ => True) (fun k => some k ≠ v.ownBlock) hs hx (Kd.M_row HP) (fun _ h => ⟨trivial, h⟩) (fun _ _ => trivial) HO HB HB.size (by omega) h
end
/-- A block of the call's own, known whole. (A name that the walk does not open.) -/
def Blk (w : World) (g : Nat) (t : Nat) (cs : Array Value) : Prop := w.heap[g]? = some (.cells cs t (0, 0))
theorem Blk.new (w : World) (cs : Array Value) (t : Nat) : Blk (w.alloc (.cells cs t)) w.heap.size t cs := heap_alloc_new w _
theorem Blk.new1 (w : World) (o : Obj) (cs : Array Value) (t : Nat) : Blk ((w.alloc o).alloc (.cells cs t)) (w.heap.size + 1) t cs := by
  have h := Blk.new (w.alloc o) cs t
  have e : (w.alloc o).heap.size = w.heap.size + 1 := by simp
  rwa [e] at h
theorem Blk.new2 (w : World) (o o' : Obj) (cs : Array Value) (t : Nat) : Blk (((w.alloc o).alloc o').alloc (.cells cs t)) (w.heap.size + 1 + 1) t cs := by
  have h := Blk.new1 (w.alloc o) o' cs t
  have e : (w.alloc o).heap.size = w.heap.size + 1 := by simp
  rwa [e] at h
theorem Blk.new3 (w : World) (o o' o2 : Obj) (cs : Array Value) (t : Nat) : Blk ((((w.alloc o).alloc o').alloc o2).alloc (.cells cs t)) (w.heap.size + 1 + 1 + 1) t cs := by
  have h := Blk.new2 (w.alloc o) o' o2 cs t
  have e : (w.alloc o).heap.size = w.heap.size + 1 := by simp
  rwa [e] at h
section
variable {w w1 : World} {g t : Nat} {cs : Array Value}
theorem Blk.lt (h : Blk w g t cs) : g < w.heap.size := (Array.getElem?_eq_some_iff.1 h).1
theorem Blk.alloc (h : Blk w g t cs) (o : Obj) : Blk (w.alloc o) g t cs := (Below.heap_alloc _ _ _ h.lt).trans h
theorem Blk.drew (h : Blk w g t cs) : Blk w.drew g t cs := h
theorem Blk.drewN (h : Blk w g t cs) (n : Nat) : Blk (w.drewN n) g t cs := by rw [Blk, World.heap_drewN]; exact h
theorem Blk.cell (h : Blk w g t cs) (i : Nat) {v : Value} (hv : cs[i]? = some v) : w.cell? ⟨g, i, none⟩ = some v := (blk_cell h i).trans hv
theorem Blk.frozen (h : Blk w g t cs) (i : Nat) : w.frozen? ⟨g, i, none⟩ = false := blk_frozen h i
theorem Blk.set (h : Blk w g t cs) (i : Nat) (u : Value) : Blk (w.setCell ⟨g, i, none⟩ u) g t (cs.setIfInBounds i u) := blk_set h i u
theorem Blk.far (h : Blk w g t cs) {p : Addr} (hp : g ≠ p.block) (u : Value) : Blk (w.setCell p u) g t cs := blk_far h hp u
theorem Blk.below {B : Nat} (h : Blk w g t cs) (hb : Below B w w1) (hg : g < B) : Blk w1 g t cs := (hb.block g hg).trans h
theorem Blk.keep (h : Blk w g t cs) (hb : Below w.heap.size w w1) : Blk w1 g t cs := h.below hb h.lt
theorem Blk.grown {row : Option Nat} (h : Blk w g t cs) (hg : w.grownBy w1 row) (hn : some g ≠ row) : Blk w1 g t cs := (hg.block g h.lt hn).trans h
end
theorem Blk.setRow {w : World} {g t : Nat} {cs : Array Value} (h : Blk w g t cs) (cs' : Array Value) : Blk (w.setRow g cs') g t cs' := setRow_heap w g cs cs' t (0, 0) h
theorem Blk.setRow_far {w : World} {g g' t : Nat} {cs : Array Value} (h : Blk w g t cs) (hn : g' ≠ g) (cs' : Array Value) : Blk (w.setRow g' cs') g t cs := by
  unfold Blk at *
  simp only [World.setRow, Array.getElem?_modify]
  rw [if_neg hn]
  exact h
theorem below_setRow {B : Nat} {a w : World} (h : Below B a w) {g : Nat} (hg : B ≤ g) (cs : Array Value) : Below B a (w.setRow g cs) :=
  h.trans ⟨rfl, rfl, rfl, by simp [World.setRow], fun k hk => by simp only [World.setRow, Array.getElem?_modify]; rw [if_neg (by omega)]⟩
section
variable {P : Program} {ops : Array Oper} {rest : List Oper} {o : Oper} {a : Act} {Q : Exit → Act → World → Prop}
/-- A whole array or struct read out of a block. -/
theorem load_blk {W : World} {g t : Nat} {cs : Array Value} (hgd : o.guard = none) (ty : TypeId) (x : Tmp) (ho : o.op = .load ty (.tmp x)) (H : Blk W g t cs) (hx : a.eval (.tmp x) = .pointer (some ⟨g, 0, none⟩)) (d : TypeDesc)
    (hu : P.underlying ty = some d) (hd : (match d with | .struct _ | .array _ _ => true | _ => false) = true) (hi : (P.info? ty).map (·.size) = some cs.size)
    (h : wpList P ops Q rest (a.put o.dst (.agg cs)) W) : wpList P ops Q (o :: rest) a W := wpList_load_row hgd ty (.tmp x) ho g hx t cs (0, 0) d H hu hd hi h
/-- .. and written. -/
theorem store_blk {W : World} {g t : Nat} {old cs : Array Value} (hgd : o.guard = none) (ty : TypeId) (x : Tmp) (y : Operand) (ho : o.op = .store ty (.tmp x) y) (H : Blk W g t old) (hx : a.eval (.tmp x) = .pointer (some ⟨g, 0, none⟩)) (hy : a.eval y = .agg cs)
    (hi : (P.info? ty).map (·.size) = some cs.size) (hold : old.size = cs.size) (h1 : cs.all (·.oneCell') = true)
    (h : wpList P ops Q rest (a.put o.dst undef) (W.setRow g cs)) : wpList P ops Q (o :: rest) a W := wpList_store_row hgd ty (.tmp x) y ho g cs hx hy t old H hi hold h1 h
end
/-- A whole array or struct read at an address. -/
theorem run_loadVar_at {P : Program} (w : World) (ad : Addr) (ty : TypeId) (cs : List Value) (d : TypeDesc) (hc : ∀ j v, cs[j]? = some v → w.cell? (ad.add j) = some v)
    (hu : P.underlying ty = some d) (hd : (match d with | .struct _ | .array _ _ => true | _ => false) = true) (hi : (P.info? ty).map (·.size) = some cs.length) :
    (loadVar ty ad).run P w = .ok (.agg cs.toArray) w := by
  have hl : (loadCells ad cs.length).run P w = .ok cs.toArray w := run_loadCells_list (P := P) w ad cs hc
  cases hq : P.info? ty with
  | none => simp [hq] at hi
  | some i =>
    have hs : i.size = cs.length := by simpa [hq] using hi
    have hagg : (isAgg ty).run P w = .ok true w := by
      unfold isAgg
      rw [Sem.run_bind, run_underlying hu w]
      cases d <;> simp_all
    simp [loadVar, Sem.run_bind, hagg, sizeOf, typeInfo, hq, hs, hl]
section
variable {P : Program} {ops : Array Oper} {rest : List Oper} {o : Oper} {a : Act} {Q : Exit → Act → World → Prop}
theorem load_at {W : World} {cs : List Value} (hgd : o.guard = none) (ty : TypeId) (x : Tmp) (ho : o.op = .load ty (.tmp x)) (ad : Addr) (hc : ∀ j v, cs[j]? = some v → W.cell? (ad.add j) = some v) (hx : a.eval (.tmp x) = .pointer (some ad)) (d : TypeDesc)
    (hu : P.underlying ty = some d) (hd : (match d with | .struct _ | .array _ _ => true | _ => false) = true) (hi : (P.info? ty).map (·.size) = some cs.length)
    (h : wpList P ops Q rest (a.put o.dst (.agg cs.toArray)) W) : wpList P ops Q (o :: rest) a W := by
  refine wpList_plain hgd fun K hK => ?_
  unfold Oper.wp execOp
  simp only [ho, hx, Instr.loadAt, Instr.sureAddr, Sem.run_bind, Sem.run_pure, Result.andThen_ok, run_loadVar_at W ad ty cs d hc hu hd hi]
  exact hK _ _ h
end
end Go.Proofs.Ytbenhcognapdpaa
