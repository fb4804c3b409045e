/- Equality of arrays of bytes, as the model runs it. -/
import Derived.Test.YtbenhcognapdpaaMatW1
import Derived.Test.YtbenhcognapdpaaSmallW2
import Derived.ChangeKeysEq
set_option linter.unusedVariables false
set_option linter.unusedSimpArgs false
namespace Go.Proofs.Ytbenhcognapdpaa
open Go.RowKit Go.Proofs.YtbenhcognapdpaaW.PrintWords Go.Proofs.YtbenhcognapdpaaW.PrintLast Lin

theorem bytes_list (xs : List Int) (i : Nat) (h : i < xs.length) : (encs (Value.int .u8) xs).toArray[i]? = some (.int .u8 (nt xs i)) := mcells_get xs i h
theorem info5 : ∃ i, Try.prog.info? 5 = some i := by
  have : (Try.prog.info? 5).isSome = true := by kernel_rfl
  exact Option.isSome_iff_exists.1 this
theorem cells5 : Try.prog.cellsOf 5 = 1 := by kernel_rfl
theorem cells73 : Try.prog.cellsOf 73 = 3 := by kernel_rfl
theorem info73 : ∃ i, Try.prog.info? 73 = some i := by
  have : (Try.prog.info? 73).isSome = true := by kernel_rfl
  exact Option.isSome_iff_exists.1 this
theorem size73 : (Try.prog.info? 73).map (·.size) = some 3 := by kernel_rfl

theorem list9 {m : List Int} (h : m.length = 9) : ∃ a b c d e f g i j, m = [a, b, c, d, e, f, g, i, j] := by
  match m, h with
  | [a, b, c, d, e, f, g, i, j], _ => exact ⟨a, b, c, d, e, f, g, i, j, rfl⟩
theorem eqItems_step {P : Program} {w : World} {d : Nat} {e : TypeId} {c : Nat} {xs ys : Array Value} {i : Nat} {is : List Nat} {a b : Value} {r : Bool} (ha : (part e xs (i * c)).run P w = .ok a w) (hb : (part e ys (i * c)).run P w = .ok b w) (hr : (Op.equalIn d e a b).run P w = .ok r w) {R : Bool}
    (h : r = true → (Op.eqItems d e c xs ys is).run P w = .ok R w) : (Op.eqItems d e c xs ys (i :: is)).run P w = .ok (r && R) w := by
  simp only [Op.eqItems, Sem.run_bind, ha, hb, hr, Result.andThen_ok]
  cases r
  · simp
  · simpa using h rfl
theorem eqItems3 {P : Program} {w : World} {d : Nat} {e : TypeId} {c : Nat} {xs ys : Array Value} (a b : Nat → Value) (r : Nat → Bool) (ha : ∀ i, i < 3 → (part e xs (i * c)).run P w = .ok (a i) w) (hb : ∀ i, i < 3 → (part e ys (i * c)).run P w = .ok (b i) w) (hr : ∀ i, i < 3 → (Op.equalIn d e (a i) (b i)).run P w = .ok (r i) w) :
    (Op.eqItems d e c xs ys (List.range 3)).run P w = .ok (r 0 && (r 1 && (r 2 && true))) w :=
  eqItems_step (ha 0 (by omega)) (hb 0 (by omega)) (hr 0 (by omega)) fun _ => eqItems_step (ha 1 (by omega)) (hb 1 (by omega)) (hr 1 (by omega)) fun _ => eqItems_step (ha 2 (by omega)) (hb 2 (by omega)) (hr 2 (by omega)) fun _ => by simp [Op.eqItems]

theorem part5 (w : World) (xs : List Int) (off : Nat) (h : off < xs.length) : (part 5 (mcells xs) off).run Try.prog w = .ok (.int .u8 (nt xs off)) w := by
  simp [part, isAgg, run_underlying Try.underlying5, mcells_get xs off h]
theorem part73 (w : World) (xs : List Int) (off : Nat) : (part 73 (mcells xs) off).run Try.prog w = .ok (.agg (mcells ((xs.drop off).take 3))) w := by
  have hs : (sizeOf 73).run Try.prog w = .ok 3 w := by
    obtain ⟨i, hi⟩ := info73
    have h2 := size73
    rw [hi] at h2
    simp at h2
    simp [sizeOf, typeInfo, hi, h2]
  have he : (mcells xs).extract off (off + 3) = mcells ((xs.drop off).take 3) := by
    simp [mcells, encs]
  simp only [part, isAgg, Sem.run_bind, run_underlying Try.underlying73, Result.andThen_ok, Sem.run_pure, if_true, hs, he]
theorem run_equalIn_3 (w : World) (d : Nat) (t : Nat) (ht : Try.prog.underlying t = some (.array 3 5)) {m g : List Int} (hm : m.length = 3) (hg : g.length = 3) :
    (Op.equalIn (d + 2) t (.agg (mcells m)) (.agg (mcells g))).run Try.prog w = .ok (sameB m g) w := by
  obtain ⟨i, hi⟩ := info5
  rw [run_equalIn_array w (d + 1) _ _ ht hi, cells5]
  rw [eqItems3 (fun i => .int .u8 (nt m i)) (fun i => .int .u8 (nt g i)) (fun i => nt m i == nt g i) (fun i h => by rw [Nat.mul_one]; exact part5 w m i (by omega)) (fun i h => by rw [Nat.mul_one]; exact part5 w g i (by omega)) (fun i _ => run_equalIn_int w d 5 .u8 .u8 _ _ Try.underlying5)]
  have hb : (nt m 0 == nt g 0 && (nt m 1 == nt g 1 && (nt m 2 == nt g 2 && true))) = sameB m g := by
    rw [Bool.eq_iff_iff]
    simp only [Bool.and_eq_true, beq_iff_eq, sameB, decide_eq_true_iff, and_true]
    constructor
    · rintro ⟨h0, h1, h2⟩
      refine row_ext (by omega) fun j hj => ?_
      have : j = 0 ∨ j = 1 ∨ j = 2 := by omega
      rcases this with rfl | rfl | rfl <;> assumption
    · rintro rfl; exact ⟨rfl, rfl, rfl⟩
  simp only [hb]
theorem run_eql_mat (w : World) (t : Nat) (ht : Try.prog.underlying t = some (.array 3 73)) {m g : List Int} (hm : m.length = 9) (hg : g.length = 9) :
    (binOp .eql t (.agg (mcells m)) (.agg (mcells g))).run Try.prog w = .ok (.bool (sameB m g)) w := by
  obtain ⟨i, hi⟩ := info73
  rw [run_eql_struct]
  have e1 := run_equalIn_array (P := Try.prog) w 9999 (mcells m) (mcells g) ht hi
  rw [cells73] at e1
  have e2 := eqItems3 (P := Try.prog) (w := w) (d := 9999) (e := 73) (c := 3) (xs := mcells m) (ys := mcells g) (fun i => .agg (mcells ((m.drop (i * 3)).take 3))) (fun i => .agg (mcells ((g.drop (i * 3)).take 3))) (fun i => sameB ((m.drop (i * 3)).take 3) ((g.drop (i * 3)).take 3)) (fun i _ => part73 w m _) (fun i _ => part73 w g _)
    (fun i h => run_equalIn_3 w 9997 73 Try.underlying73 (by rw [List.length_take, List.length_drop]; omega) (by rw [List.length_take, List.length_drop]; omega))
  rw [show (Op.equalIn 10000 t (.agg (mcells m)) (.agg (mcells g))).run Try.prog w = _ from e1.trans e2]
  simp only [Result.andThen_ok]
  have hb : (sameB ((m.drop (0 * 3)).take 3) ((g.drop (0 * 3)).take 3) && (sameB ((m.drop (1 * 3)).take 3) ((g.drop (1 * 3)).take 3) && (sameB ((m.drop (2 * 3)).take 3) ((g.drop (2 * 3)).take 3) && true))) = sameB m g := by
    obtain ⟨a, b, c, d, e, f, g', i', j, rfl⟩ := list9 hm
    obtain ⟨a', b', c', d', e', f', g'', i'', j', rfl⟩ := list9 hg
    rw [Bool.eq_iff_iff]
    simp [sameB]
    omega
  rw [hb]
theorem run_neq_mat (w : World) (t : Nat) (ht : Try.prog.underlying t = some (.array 3 73)) {m g : List Int} (hm : m.length = 9) (hg : g.length = 9) :
    (binOp .neq t (.agg (mcells m)) (.agg (mcells g))).run Try.prog w = .ok (.bool (!sameB m g)) w := by
  have h := run_eql_mat w t ht hm hg
  rw [run_eql_struct] at h
  rw [run_neq_struct]
  cases he : (Op.equalIn 10000 t (.agg (mcells m)) (.agg (mcells g))).run Try.prog w with
  | ok b w' =>
    rw [he] at h
    rw [Result.andThen_ok] at h ⊢
    have h1 : Value.bool b = .bool (sameB m g) ∧ w' = w := by
      cases h; exact ⟨rfl, rfl⟩
    have h2 : b = sameB m g := by cases h1.1; rfl
    rw [h2, h1.2]
  | halt x w' => rw [he] at h; cases h
theorem add_add' (ad : Addr) (i j : Nat) : (ad.add i).add j = ad.add (i + j) := by
  unfold Addr.add
  by_cases hi : i = 0
  · subst hi; simp
  · by_cases hj : j = 0
    · subst hj; simp [hi]
    · simp [hi, hj, Nat.add_assoc]
/-- A whole matrix read inside a region that draws its order and only reads. -/
theorem quiet_load_mat {P : Program} {ops : Array Oper} {C : World → Prop} {Q : Act → Prop} {a : Act} {o : Oper} {rest : List Oper} (hw : Region.wanted o (yielded ops a.tmps) = true) (ty : Nat) (x : Tmp) (ho : o.op = .load ty (.tmp x)) (ad : Addr) (hx : a.eval (.tmp x) = .pointer (some ad)) (m : List Int) (hm : m.length = 9)
    (hc : ∀ W, C W → ∀ j, j < 9 → W.cell? (ad.add j) = some (.int .u8 (nt m j))) (d : TypeDesc) (hu : P.underlying ty = some d) (hd : (match d with | .struct _ | .array _ _ => true | _ => false) = true) (hi : (P.info? ty).map (·.size) = some 9)
    {a' : Act} (ha : a.put o.dst (.agg (mcells m)) = a') (h : wpQuiet P ops C Q rest a') : wpQuiet P ops C Q (o :: rest) a := by
  refine wpQuiet_step fun K hK => ?_
  rw [if_pos hw]
  refine ⟨.agg (mcells m), fun W hW => ?_, hK _ (ha ▸ h)⟩
  have hr := run_loadVar_at (P := P) W ad ty (encs (Value.int .u8) m) d (fun j v hv => by
    have hj : j < m.length := by
      have := (List.getElem?_eq_some_iff.1 hv).1
      simpa [encs] using this
    have e := hc W hW j (by omega)
    rw [e, nt_eq m j hj]
    simpa [encs, List.getElem?_eq_getElem hj] using hv) hu hd (by rw [hi]; simp [encs, hm])
  unfold Oper.quietAt execOp
  simp only [ho, hx, Instr.loadAt, Instr.sureAddr, Sem.run_bind, Sem.run_pure, Result.andThen_ok, hr]
  exact ⟨rfl, rfl⟩
end Go.Proofs.Ytbenhcognapdpaa
