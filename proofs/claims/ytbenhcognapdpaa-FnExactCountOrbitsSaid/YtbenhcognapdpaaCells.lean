/- Whole matrices and structs read at an address: in a walk, in a region. -/
import Derived.Test.YtbenhcognapdpaaMatW2
set_option linter.unusedVariables false
set_option linter.unusedSimpArgs false
namespace Go.Proofs.Ytbenhcognapdpaa
open Go.RowKit Go.Proofs.YtbenhcognapdpaaW.PrintWords Go.Proofs.YtbenhcognapdpaaW.PrintLast Lin

/-- The cells of a whole value stand at an address. -/
def At (W : World) (ad : Addr) (cs : Array Value) : Prop := ∀ j v, cs[j]? = some v → W.cell? (ad.add j) = some v
def MAt (W : World) (ad : Addr) (m : List Int) : Prop := At W ad (mcells m)
theorem At.below {W W' : World} {ad : Addr} {cs : Array Value} (h : At W ad cs) (hb : Below W.heap.size W W') : At W' ad cs :=
  fun j v hv => (hb.cell (World.block_lt_of_cell? _ _ (h j v hv))).trans (h j v hv)
theorem At.below' {W0 W W' : World} {ad : Addr} {cs : Array Value} (h : At W0 ad cs) (hb : Below W0.heap.size W0 W') : At W' ad cs := h.below hb
theorem At.alloc {W : World} {ad : Addr} {cs : Array Value} (h : At W ad cs) (o : Obj) : At (W.alloc o) ad cs := h.below (below_alloc (Below.refl _ _) _)
theorem At.drewN {W : World} {ad : Addr} {cs : Array Value} (h : At W ad cs) (n : Nat) : At (W.drewN n) ad cs := fun j v hv => (World.cell?_drewN _ _ _).trans (h j v hv)
theorem At.drew {W : World} {ad : Addr} {cs : Array Value} (h : At W ad cs) : At W.drew ad cs := fun j v hv => h j v hv
theorem Blk.at {W : World} {g t : Nat} {cs : Array Value} (h : Blk W g t cs) : At W ⟨g, 0, none⟩ cs := fun j v hv => by rw [add_plain]; simpa using h.cell j hv
theorem MAt.cell {W : World} {ad : Addr} {m : List Int} (h : MAt W ad m) {j : Nat} (hj : j < m.length) : W.cell? (ad.add j) = some (.int .u8 (nt m j)) := h j _ (mcells_get m j hj)
theorem MAt.mk {W : World} {ad : Addr} {m : List Int} (hm : m.length = 9) (hc : ∀ j, j < 9 → W.cell? (ad.add j) = some (.int .u8 (nt m j))) : MAt W ad m := by
  intro j v hv
  have hj : j < m.length := by
    have := (Array.getElem?_eq_some_iff.1 hv).1
    rw [mcells_size] at this
    exact this
  rw [mcells_get m j hj] at hv
  rw [← hv]
  exact hc j (by omega)
theorem mat_at {w : World} {A : Option Addr} {n : Nat} {xs : List (List Int)} (h : kM.C w A n xs) (i : Nat) (h1 : i < n) :
    ∃ ad m, m = ntR xs i ∧ A = some ad ∧ m.length = 9 ∧ MAt w (ad.add (i * 9)) m := by
  obtain ⟨ad, m, h1, h2, h3, h4⟩ := at_mat h i h1
  exact ⟨ad, m, h1, h2, h3, MAt.mk h3 fun j hj => by rw [add_add']; exact h4 j hj⟩

/-- The read itself. -/
theorem run_op_load {P : Program} {o : Oper} {a : Act} (ty : TypeId) (x : Tmp) (ho : o.op = .load ty (.tmp x)) (ad : Addr) (hx : a.eval (.tmp x) = .pointer (some ad)) (w : World) (cs : Array Value) (hc : At w ad cs) (d : TypeDesc)
    (hu : P.underlying ty = some d) (hd : (match d with | .struct _ | .array _ _ => true | _ => false) = true) (hi : (P.info? ty).map (·.size) = some cs.size) :
    (execOp a.eval o).run P w = .ok (.value (.agg cs)) w := by
  have hr := run_loadVar_at (P := P) w ad ty cs.toList d (fun j v hv => hc j v (by simpa using hv)) hu hd (by rw [hi]; simp)
  unfold execOp
  simp only [ho, hx, Instr.loadAt, Instr.sureAddr, Sem.run_bind, Sem.run_pure, Result.andThen_ok, hr]
section
variable {P : Program} {ops : Array Oper} {rest : List Oper} {o : Oper} {a : Act} {Q : Exit → Act → World → Prop}
theorem load_agg {W : World} {cs : Array Value} (hgd : o.guard = none) (ty : TypeId) (x : Tmp) (ho : o.op = .load ty (.tmp x)) (ad : Addr) (hc : At W ad cs) (hx : a.eval (.tmp x) = .pointer (some ad)) (d : TypeDesc)
    (hu : P.underlying ty = some d) (hd : (match d with | .struct _ | .array _ _ => true | _ => false) = true) (hi : (P.info? ty).map (·.size) = some cs.size)
    (h : wpList P ops Q rest (a.put o.dst (.agg cs)) W) : wpList P ops Q (o :: rest) a W := by
  refine wpList_plain hgd fun K hK => ?_
  unfold Oper.wp
  rw [run_op_load ty x ho ad hx W cs hc d hu hd hi]
  exact hK _ _ h
end
end Go.Proofs.Ytbenhcognapdpaa
