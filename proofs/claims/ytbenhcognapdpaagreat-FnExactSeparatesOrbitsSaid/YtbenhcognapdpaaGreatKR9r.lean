/- Own texts of this claim, in one file: MapK, SO1, F9, Open, OpenG, OpenP. -/
import Derived.Test.YtbenhcognapdpaaGreatKR9q
import Derived.Maps.OwnSet
import Derived.WideKeyArr
import Derived.Laws.CopyOwn
import Derived.Test.YtbenhcognapdpaaGreatKR9o
import Derived.Test.YtbenhcognapdpaaGreatKR9p
import Derived.Test.YtbenhcognapdpaaGreatKR9j
import Derived.WalkKit
import Derived.ProofKit
import Derived.OpenShut
import Derived.Deep.Slices
import Derived.Deep.Strs
import Derived.Test.YtbenhcognapdpaaGreatKR9c
/- Maps keyed by arrays of eight numbers, whose elements are told as they are (tokens). -/
set_option linter.unusedVariables false
set_option linter.unusedSimpArgs false
namespace Go.Proofs.YtbenhcognapdpaaGreat
open Go.RowKit Go.Maps Go.WideMaps Go.Proofs.YtbenhcognapdpaaGreatW.PrintWords Go.Proofs.YtbenhcognapdpaaGreatW.PrintLast Lin

theorem arr8 : ArrKey Tryz.prog 103 2 8 := ⟨Tryz.underlying103, by kernel_rfl, by kernel_rfl, by kernel_rfl⟩
theorem keyed8 : Keyed Tryz.prog 103 := Keyed.of_law arr8.law
theorem prog_types : ∃ m, Tryz.prog.types.size = m + 1 := ⟨Tryz.prog.types.size - 1, by have : 0 < Tryz.prog.types.size := (of_decide_eq_true (by kernel_rfl)); omega⟩
def klv (r : List Int) : Lit := .string (keyBytes (r.map (Lit.int .i64)))
theorem keyOf_oct {a b c d e f g h : Int} (wa : (Lit.int .i64 a).wf = true) (wb : (Lit.int .i64 b).wf = true) (wc : (Lit.int .i64 c).wf = true) (wd : (Lit.int .i64 d).wf = true) (we : (Lit.int .i64 e).wf = true) (wf : (Lit.int .i64 f).wf = true) (wg : (Lit.int .i64 g).wf = true) (wh : (Lit.int .i64 h).wf = true) :
    keyOf Tryz.prog 103 (.agg (encs (Value.int .i64) [a, b, c, d, e, f, g, h]).toArray) = some (klv [a, b, c, d, e, f, g, h]) := by
  have hkt := arr8.keyType prog_types
  obtain ⟨m, hm⟩ := prog_types
  unfold keyOf
  simp only [arr8.hu]
  rw [if_pos (by simp [hkt, Value.formed, arr8.hu, arr8.size, encs]), hm]
  unfold Program.keyLits
  simp only [arr8.hu, Value.cells]
  rw [if_pos (by rw [arr8.size]; rfl), show List.range 8 = [0, 1, 2, 3, 4, 5, 6, 7] from rfl, List.mapM_cons, List.mapM_cons, List.mapM_cons, List.mapM_cons, List.mapM_cons, List.mapM_cons, List.mapM_cons, List.mapM_cons, List.mapM_nil]
  simp [arr8.one, Program.keyLits, Tryz.underlying2, wa, wb, wc, wd, we, wf, wg, wh, encs, klv]
theorem keyOf_row {r : List Int} (h : r.length = 8) (hw : ∀ a ∈ r, (Lit.int .i64 a).wf = true) : keyOf Tryz.prog 103 (.agg (encs (Value.int .i64) r).toArray) = some (klv r) := by
  match r, h with
  | [a, b, c, d, e, f, g, h], _ => exact keyOf_oct (hw _ (by simp)) (hw _ (by simp)) (hw _ (by simp)) (hw _ (by simp)) (hw _ (by simp)) (hw _ (by simp)) (hw _ (by simp)) (hw _ (by simp))
theorem encs_inj : ∀ {a b : List Int}, encs (Value.int .i64) a = encs (Value.int .i64) b → a = b
  | [], [], _ => rfl
  | [], _ :: _, h => by cases h
  | _ :: _, [], h => by cases h
  | x :: a, y :: b, h => by
    have h1 : Value.int .i64 x :: encs (Value.int .i64) a = Value.int .i64 y :: encs (Value.int .i64) b := h
    rw [List.cons.injEq] at h1
    rw [(Value.int.inj h1.1).2, encs_inj h1.2]
theorem klv_inj {r s : List Int} (h : r.length = 8) (hw : ∀ a ∈ r, (Lit.int .i64 a).wf = true) (h' : s.length = 8) (hw' : ∀ a ∈ s, (Lit.int .i64 a).wf = true) (e : klv r = klv s) : r = s := by
  have h1 := keyOf_row h hw
  rw [e] at h1
  have h2 := congrArg Array.toList (Value.agg.inj (keyed8.inj h1 (keyOf_row h' hw')))
  exact encs_inj h2
def pad8 (v : List Int) : List Int := v ++ List.replicate (8 - v.length) 0
theorem pad8_len {v : List Int} (h : v.length ≤ 8) : (pad8 v).length = 8 := by simp [pad8]; omega
theorem pad8_inj {v v' : List Int} (h : v.length = v'.length) (e : pad8 v = pad8 v') : v = v' := (List.append_inj e h).1
theorem pad8_wf {v : List Int} (h : ∀ a ∈ v, (Lit.int .i64 a).wf = true) : ∀ a ∈ pad8 v, (Lit.int .i64 a).wf = true := by
  intro a ha
  rcases List.mem_append.1 ha with h1 | h1
  · exact h a h1
  · rw [(List.mem_replicate.1 h1).2]; decide
/-- An element is told as the value that it is. -/
def tokR (v : Value) : Option (DataW Value × List MemPlace) := some (.held v, [])
abbrev OwnTok (w : World) (b n : Nat) (D : DataW Value) : Prop := w.ownsMap Tryz.prog 103 tokR b n D
abbrev atTok (D : DataW Value) (l : Lit) : DataW Value := D.atKey l (.held (.slice none 0 0))
theorem OwnTok.heap {w w' : World} {b n : Nat} {D : DataW Value} (h : OwnTok w b n D) (hb : w'.heap[b]? = w.heap[b]?) : OwnTok w' b n D := by
  obtain ⟨es, clock, h1, h2⟩ := h
  exact ⟨es, clock, hb.trans h1, h2⟩
theorem OwnTok.below {w w' : World} {b n : Nat} {D : DataW Value} (h : OwnTok w b n D) (hb : Below w.heap.size w w') : OwnTok w' b n D := OwnTok.heap h (hb.block b (World.ownsMap.lt h))
/-- A row that is read stays, whatever is put into a map. -/
theorem kI_mapped {w w' : World} {A : Option Addr} {n : Nat} {l : List Int} (h : kI.C w A n l) {b m : Nat} {D : DataW Value} (hm : OwnTok w b m D) (hg : w.grownBy w' (some b)) : kI.C w' A n l := by
  obtain ⟨h1, h2, h3⟩ := h
  refine ⟨h1, h2, fun h0 => ?_⟩
  obtain ⟨ad, hA, hc⟩ := h3 h0
  refine ⟨ad, hA, fun j p hj => ?_⟩
  obtain ⟨c, c1, c2, c3⟩ := hc j p hj
  refine ⟨c, c1, c2, fun i u hu => ?_⟩
  have hcell := c3 i u hu
  obtain ⟨es, clock, hb, _⟩ := hm
  have hne : (ad.add (j * kI.sz + i)).block ≠ b := fun e => by
    unfold World.cell? at hcell
    rw [e, hb] at hcell
    cases hcell
  have hlt := World.block_lt_of_cell? _ _ hcell
  rw [← hcell]
  unfold World.cell?
  rw [hg.block _ hlt (fun e => hne (by injection e))]
section
variable {w : World} {ops : Array Oper} {rest : List Oper} {o : Oper} {a : Act} {Q : Exit → Act → World → Prop}
theorem look_has (hg : o.guard = none) (m x : Operand) (t : TypeId) (hop : o.op = Op.lookup t m x true) (e : TypeId) (ht : Tryz.prog.underlying t = some (.map 103 e)) (hz : (zeroValue e).run Tryz.prog w = .ok (.slice none 0 0) w) (b n : Nat) (D : DataW Value)
    (hm : a.eval m = .map (some b)) (hown : OwnTok w b n D) (key : Value) (kl : Lit) (hx : a.eval x = key) (hkey : keyOf Tryz.prog 103 key = some kl) (v : Value) (hh : Maps.has D kl = true) (hv : atTok D kl = .held v)
    (h : wpList Tryz.prog ops Q rest (a.put o.dst (.tuple #[v, .bool true])) w) : wpList Tryz.prog ops Q (o :: rest) a w :=
  wpList_lookup_own_ok w hg m x t hop 103 e keyed8 ht tokR hz (.held (.slice none 0 0)) [] rfl b n D hm hown key kl hx hkey (fun v' ps hv' => by
    have h1 : DataW.held v' = atTok D kl := congrArg Prod.fst (Option.some.inj hv')
    rw [hv] at h1
    injection h1 with h1
    rw [h1, hh]
    exact h)
theorem look_not (hg : o.guard = none) (m x : Operand) (t : TypeId) (hop : o.op = Op.lookup t m x true) (e : TypeId) (ht : Tryz.prog.underlying t = some (.map 103 e)) (hz : (zeroValue e).run Tryz.prog w = .ok (.slice none 0 0) w) (b n : Nat) (D : DataW Value)
    (hm : a.eval m = .map (some b)) (hown : OwnTok w b n D) (key : Value) (kl : Lit) (hx : a.eval x = key) (hkey : keyOf Tryz.prog 103 key = some kl) (hh : Maps.has D kl = false)
    (h : wpList Tryz.prog ops Q rest (a.put o.dst (.tuple #[.slice none 0 0, .bool false])) w) : wpList Tryz.prog ops Q (o :: rest) a w := by
  have hat : atTok D kl = .held (.slice none 0 0) := by
    obtain ⟨es, clock, hb, F, _, rfl⟩ := hown
    rcases Maps.fit_look true keyed8 ht hz hb F hkey with ⟨_, _, hat⟩ | ⟨e0, y, _, _, _, _, hat, _⟩
    · exact hat _
    · rw [Maps.has_true_of_atKey hat] at hh
      cases hh
  exact wpList_lookup_own_ok w hg m x t hop 103 e keyed8 ht tokR hz (.held (.slice none 0 0)) [] rfl b n D hm hown key kl hx hkey (fun v' ps hv' => by
    have h1 : DataW.held v' = atTok D kl := congrArg Prod.fst (Option.some.inj hv')
    rw [hat] at h1
    injection h1 with h1
    rw [h1, hh]
    exact h)
end
end Go.Proofs.YtbenhcognapdpaaGreat
/- Whether polynomials part the orbits: the walk in the program, over its map. -/
set_option linter.unusedVariables false
set_option linter.unusedSimpArgs false
namespace Go.Proofs.YtbenhcognapdpaaGreat
open Go.RowKit Go.Proofs.YtbenhcognapdpaaGreatW.PrintWords Go.Proofs.YtbenhcognapdpaaGreatW.PrintLast Lin

theorem kI_unique {w : World} {A : Option Addr} {n : Nat} {l l' : List Int} (h : kI.C w A n l) (h' : kI.C w A n l') : l = l' := by
  have e1 := Kd.C_len h
  have e2 := Kd.C_len h'
  refine row_ext (by omega) fun j hj => ?_
  obtain ⟨ad, hA, hc⟩ := at_nt h j (by omega)
  obtain ⟨ad', hA', hc'⟩ := at_nt h' j (by omega)
  rw [hA] at hA'
  injection hA' with hA'
  subst hA'
  rw [hc] at hc'
  injection hc' with e
  injection e
/-- What the map holds behind i points. -/
structure SeenOk (w : World) (V L : Nat → List Int) (i : Nat) (D : DataW Value) : Prop where
  has : ∀ j < i, Maps.has D (klv (pad8 (V j))) = true
  elem : ∀ j < i, ∃ A n c, atTok D (klv (pad8 (V j))) = .held (.slice A n c) ∧ kI.C w A n (L j)
  only : ∀ kl, Maps.has D kl = true → ∃ j < i, kl = klv (pad8 (V j))
theorem SeenOk.start (w : World) (V L : Nat → List Int) : SeenOk w V L 0 (.map []) := ⟨fun j hj => by omega, fun j hj => by omega, fun kl h => by cases h⟩
theorem SeenOk.keep {w w' : World} {V L : Nat → List Int} {i : Nat} {D : DataW Value} (h : SeenOk w V L i D) (hk : ∀ A n l, kI.C w A n l → kI.C w' A n l) : SeenOk w' V L i D :=
  ⟨h.has, fun j hj => by obtain ⟨A, n, c, h1, h2⟩ := h.elem j hj; exact ⟨A, n, c, h1, hk _ _ _ h2⟩, h.only⟩
/-- The key is there: an elder point has these values; all such points have one answer. -/
theorem SeenOk.there {w : World} {V L : Nat → List Int} {i k : Nat} {D : DataW Value} (h : SeenOk w V L i D) (hl : ∀ j ≤ i, (V j).length = k ∧ ∀ a ∈ V j, (Lit.int .i64 a).wf = true) (hk : k ≤ 8) (hh : Maps.has D (klv (pad8 (V i))) = true) :
    ∃ j < i, V j = V i ∧ (∃ A n c, atTok D (klv (pad8 (V i))) = .held (.slice A n c) ∧ kI.C w A n (L j)) ∧ ∀ j' < i, V j' = V i → L j' = L j := by
  obtain ⟨j, hj, e⟩ := h.only _ hh
  have e1 : V j = V i := (pad8_inj (by rw [(hl i (Nat.le_refl _)).1, (hl j (by omega)).1]) (klv_inj (pad8_len (by rw [(hl i (Nat.le_refl _)).1]; exact hk)) (pad8_wf (hl i (Nat.le_refl _)).2) (pad8_len (by rw [(hl j (by omega)).1]; exact hk)) (pad8_wf (hl j (by omega)).2) e)).symm
  obtain ⟨A, n, c, h1, h2⟩ := h.elem j hj
  refine ⟨j, hj, e1, ⟨A, n, c, by rw [← e1]; exact h1, h2⟩, fun j' hj' e' => ?_⟩
  obtain ⟨A', n', c', h1', h2'⟩ := h.elem j' hj'
  rw [e', ← e1, h1] at h1'
  injection h1' with h1'
  cases h1'
  exact kI_unique h2' h2
theorem SeenOk.put {w w' : World} {V L : Nat → List Int} {i k m b : Nat} {D : DataW Value} {A : Option Addr} {n c : Nat} (h : SeenOk w V L i D) (hm : OwnTok w b m D) (hl : ∀ j ≤ i, (V j).length = k ∧ ∀ a ∈ V j, (Lit.int .i64 a).wf = true) (hk : k ≤ 8)
    (hg : w.grownBy w' (some b)) (hC : kI.C w A n (L i)) (he : ∀ j < i, V j = V i → L j = L i) : SeenOk w' V L (i + 1) (D.put (klv (pad8 (V i))) (.held (.slice A n c))) := by
  have hM : Maps.IsMap D := World.ownsMap.isMap hm
  have hK : WideAt.IsKeyLit (klv (pad8 (V i))) := trivial
  have hin : ∀ j < i, V j ≠ V i → klv (pad8 (V j)) ≠ klv (pad8 (V i)) := fun j hj hne e => hne (pad8_inj (by rw [(hl i (Nat.le_refl _)).1, (hl j (by omega)).1]) (klv_inj (pad8_len (by rw [(hl j (by omega)).1]; exact hk)) (pad8_wf (hl j (by omega)).2) (pad8_len (by rw [(hl i (Nat.le_refl _)).1]; exact hk)) (pad8_wf (hl i (Nat.le_refl _)).2) e))
  refine ⟨fun j hj => ?_, fun j hj => ?_, fun kl hkl => ?_⟩
  · by_cases e : V j = V i
    · rw [e]; exact Maps.has_put_same hM hK _
    · rcases Nat.lt_succ_iff_lt_or_eq.1 hj with h1 | h1
      · rw [Maps.has_put_other (hin j h1 e)]; exact h.has j h1
      · subst h1; exact absurd rfl e
  · by_cases e : V j = V i
    · refine ⟨A, n, c, by rw [e]; exact Maps.atKey_put_same hM hK _ _, ?_⟩
      rcases Nat.lt_succ_iff_lt_or_eq.1 hj with h1 | h1
      · rw [he j h1 e]; exact kI_mapped hC hm hg
      · subst h1; exact kI_mapped hC hm hg
    · rcases Nat.lt_succ_iff_lt_or_eq.1 hj with h1 | h1
      · obtain ⟨A', n', c', h2, h3⟩ := h.elem j h1
        exact ⟨A', n', c', by rw [← h2]; exact Maps.atKey_put_other (hin j h1 e) _ _, kI_mapped h3 hm hg⟩
      · subst h1; exact absurd rfl e
  · by_cases e : kl = klv (pad8 (V i))
    · exact ⟨i, by omega, e⟩
    · rw [Maps.has_put_other e] at hkl
      obtain ⟨j, hj, h1⟩ := h.only kl hkl
      exact ⟨j, by omega, h1⟩
theorem splice_pad {v : List Int} (h : v.length ≤ 8) : splice (encs (Value.int .i64) [0, 0, 0, 0, 0, 0, 0, 0]) 0 (encs (Value.int .i64) v) = encs (Value.int .i64) (pad8 v) := by
  have e : encs (Value.int .i64) [0, 0, 0, 0, 0, 0, 0, 0] = List.replicate 8 (Value.int .i64 0) := rfl
  rw [e, show splice (List.replicate 8 (Value.int .i64 0)) 0 (encs (Value.int .i64) v) = encs (Value.int .i64) v ++ (List.replicate 8 (Value.int .i64 0)).drop v.length from by simp [splice, encs, -List.drop_replicate, -List.reduceReplicate], List.drop_replicate]
  simp [encs, pad8]
theorem valsV_wf {p : Int} {n : Nat} {ps : List Pv} {x : List Int} (hf : ForP p n ps) (hp : 0 < p) (hp2 : p ≤ 1000) : ∀ a ∈ valsV ps x, (Lit.int .i64 a).wf = true := by
  intro a ha
  obtain ⟨P, hP, rfl⟩ := List.mem_map.1 ha
  have e := (hf P hP).2.1
  have h1 := Int.emod_nonneg (sumV P.1 x P.2.2 P.2.2.length) (show P.1 ≠ 0 by omega)
  have h2 := Int.emod_lt_of_pos (sumV P.1 x P.2.2 P.2.2.length) (show 0 < P.1 by omega)
  exact WalkArith.wf_i64 (by unfold valueV; omega)
theorem kI_cells {w : World} {A : Option Addr} {n : Nat} {l : List Int} (h : kI.C w A n l) (h0 : 0 < l.length) : ∃ ad, A = some ad ∧ ∀ j v, (encs (Value.int .i64) l)[j]? = some v → w.cell? (ad.add j) = some v := by
  have e1 := Kd.C_len h
  obtain ⟨ad, hA, _⟩ := at_nt h 0 (by omega)
  refine ⟨ad, hA, fun j v hv => ?_⟩
  have hj : j < l.length := by
    have := (List.getElem?_eq_some_iff.1 hv).1
    simpa [encs] using this
  obtain ⟨ad', hA', hc⟩ := at_nt h j (by omega)
  rw [hA] at hA'
  injection hA' with hA'
  subst hA'
  rw [hc, ← hv]
  simp [encs, nt_eq l j hj, List.getElem?_eq_getElem hj]
theorem size8 : (Tryz.prog.info? 103).map (·.size) = some 8 := by kernel_rfl
theorem size1I : (Tryz.prog.info? 2).map (·.size) = some 1 := by kernel_rfl
theorem zero_sl (w : World) : (zeroValue 84).run Tryz.prog w = .ok (.slice none 0 0) w := by kernel_rfl
abbrev zeros8 : Array Value := #[.int .i64 0, .int .i64 0, .int .i64 0, .int .i64 0, .int .i64 0, .int .i64 0, .int .i64 0, .int .i64 0]
set_option maxRecDepth 100000 in
set_option maxHeartbeats 4000000 in
theorem implSep_calls (p n : Int) (A : Option Addr) (q c : Nat) (l : List (List Int)) (A1 : Option Addr) (q1 c1 : Nat) (ps : List Pv) (w : World) (hr : kM.C w A q l) (hl : ∀ m ∈ l, IsM m) (hr1 : kP.C w A1 q1 ps) (ht : ∀ P ∈ ps, IsPv P) (hs : ∀ P ∈ ps, P.2.2.length ≤ 1048576) :
    Calls Tryz.prog 37 #[.agg #[.int .i64 p, .int .i64 n, .slice A q c], .slice A1 q1 c1] w fun e w' => e = .returned (.tuple #[.bool (sepsR p n l ps).1, .int .i64 (sepsR p n l ps).2]) ∧ Below w.heap.size w w' := by
  obtain rfl := Kd.C_len hr1
  obtain rfl := Kd.C_len hr
  have HR1 := Aside0.mk hr1
  have HR := Aside0.mk hr
  have HL := Aside0.mk hl
  have hbox := below_alloc (Below.refl w.heap.size w) (.cells #[.int .i64 p, .int .i64 n, .slice A l.length c] 37)
  have HB := Aside0.mk hbox
  have HKS := Aside0.mk (separationCode_calls p n A l.length c l A1 ps.length c1 ps _ (Kd.C_below hr hbox) hl (Kd.C_below hr1 hbox) ht)
  have H1 := Blk.new w #[.int .i64 p, .int .i64 n, .slice A l.length c] 37
  by_cases hz : sepC p n l ps = 0
  · obtain ⟨hok, hpb, hlb, hfb, hfw⟩ := sep_zero hz
    have hP := primeB_iff.1 hok.prime
    have hpp := hP.pos
    have hp256 : p ≤ 1000 := by rcases hP with h | h | h | h | h | h <;> omega
    have hvv : 1 ≤ n ∧ n ≤ 3 := of_decide_eq_true hok.vars
    have hlm := hok.most
    have hln := hok.least
    obtain ⟨n, rfl⟩ : ∃ k : Nat, n = k := ⟨n.toNat, by omega⟩
    obtain ⟨P, rfl⟩ : ∃ k : Nat, p = k := ⟨p.toNat, by omega⟩
    obtain ⟨hfp, h8⟩ := forP_of hpb hlb hfb ht hs
    have HFP := Aside0.mk hfp
    have HWF : Aside0 (∀ x, (valsV ps x).length = ps.length ∧ ∀ a ∈ valsV ps x, (Lit.int .i64 a).wf = true) := ⟨fun x => ⟨valsV_len ps x, valsV_wf hfp (by omega) hp256⟩⟩
    have HN : Aside0 (∀ b, sepsB P n l ps (ptsI P n) = b → sepsR P n l ps = (b, 0)) := ⟨fun b e => by
      unfold sepsR
      rw [if_pos hz, Int.toNat_natCast, Int.toNat_natCast, ← sepsB_perm (pts_perm (by omega) n), e]⟩
    have HPT : Aside0 (∀ x ∈ ptsI P n, Pt P n x) := ⟨fun x hx => (ptsI_mem (by omega) n x).1 hx⟩
    have hpl : (ptsI P n).length ≤ 400 := by
      rw [ptsI_len]
      exact of_decide_eq_true (by simpa [fewB] using hfw)
    rw [hz] at HKS
    rw [Int.toNat_natCast, Int.toNat_natCast] at HKS
    clear hz hok hpb hlb hfb hfw hP hfp hr hl hr1 hbox ht hs
    obtain ⟨pts, hpts⟩ : ∃ pts, pts = ptsI P n := ⟨_, rfl⟩
    rw [← hpts] at HKS HN HPT hpl
    clear hpts
    have hmm := @run_makeMap Tryz.prog
    go_enter Tryz.func37, Tryz.ntmps37
    go_wp2_with (first
      | (refine load_blk rfl _ 2 rfl H1 rfl _ Tryz.underlying37 rfl sizeG ?_)
      | (go_at_call 89; refine HKS.out.mono ?_; rintro e w1 ⟨v, rfl, ho, hb⟩; obtain ⟨A2, c2, rfl, hc2, hC2⟩ := ho rfl; have HC2 := Aside0.mk hC2; have hsz : w.heap.size < w1.heap.size := Nat.lt_of_lt_of_le H1.lt hb.size; replace H1 := H1.keep hb; replace HB := Aside0.mk (below_step HB.out hb); clear hb ho hC2))
    clear hmm
    go_loopw [27] (fun v27 wr => ∃ (i : Nat) (D : DataW Value), v27 = .int .i64 i ∧ i ≤ pts.length ∧ Aside0 (OwnTok wr w1.heap.size i D) ∧ Aside0 (SeenOk wr (fun j => valsV ps (ntR pts j)) (fun j => ntR' (orbitS P n l (ntR pts j))) i D) ∧ Aside0 (Below w1.heap.size w1 wr)) (fun v27 _ => pts.length - (intOf v27).toNat)
    case atStart => exact ⟨0, .map [], rfl, by omega, ⟨World.ownsMap_made _ _ _ _⟩, ⟨SeenOk.start _ _ _⟩, ⟨below_alloc (Below.refl _ _) _⟩⟩
    case round =>
      obtain ⟨i, D, rfl, hi, HM, HS, HB2⟩ := hrel
      obtain ⟨wo, rfl⟩ : ∃ wo, wo = wr := ⟨_, rfl⟩
      by_cases hlt : i < pts.length
      · obtain ⟨ad, A4, c4, x, hrr, rfl, hc1, hrc, hC1⟩ := at_row HC2.out i hlt
        have hlt1 := World.block_lt_of_cell? _ _ hc1
        have hc := (HB2.out.cell hlt1).trans hc1
        have HPX : Aside0 (Pt P n x) := ⟨HPT.out x (by rw [hrr]; exact ntR_mem pts i hlt)⟩
        have HRR := Aside0.mk hrr
        obtain ⟨wz, hwz⟩ : ∃ wz, wz = wo.alloc (.cells zeros8 103) := ⟨_, rfl⟩
        have hbz : Below wo.heap.size wo wz := by rw [hwz]; exact below_alloc (Below.refl _ _) _
        have HZ : Blk wz wo.heap.size 103 zeros8 := by rw [hwz]; exact Blk.new _ _ _
        have hszz : w1.heap.size ≤ wo.heap.size := HB2.out.size
        have hB3 := below_step HB2.out hbz
        have HK := Aside0.mk (values_calls P n A1 ps.length c1 ps A4 x.length c4 x wz.drew (Kd.C_drew (Kd.C_below HR1.out (below_step HB.out hB3))) HFP.out (Kd.C_drew (Kd.C_below hC1 hB3)) HPX.out h8)
        have HV := Aside0.mk (HWF.out x)
        have HX := Aside0.mk (Kd.C_below hC1 hB3)
        have HBZ := Aside0.mk hbz
        have HB2o := HB2
        have HC1 := Aside0.mk hC1
        clear hC1 hrr hbz hB3
        obtain ⟨own, hown⟩ : ∃ own, own = valsV ps x := ⟨_, rfl⟩
        rw [← hown] at HK HV
        have HOWN := Aside0.mk hown
        have hv8 : own.length ≤ 8 := by rw [HV.out.1]; exact h8
        clear hown
        have hd3 : decide ((i : Int) < pts.length) = true := decide_eq_true (by omega)
        go_wp2_with (refine gate_ (.store 103 (.tmp 11) (.tmp 31)) rfl ?_; go_must (refine store_blk (cs := zeros8) rfl _ 11 _ rfl (Blk.new wo zeros8 103) rfl rfl size8 rfl (by simp [Value.oneCell']) ?_; rw [World.setRow_alloc_new, ← hwz]))
        refine start_ (n := 5) (S := fun w' => True) (ds := []) #[Nn,Nn,Nn,Nn,Nn] (by kernel_rfl) rfl rfl trivial (fun hHeld => ?_)
        refine pure_ (i := 0) (N := some 32) (v := ?_) (a' := ?_) #[Yy,Nn,Nn,Nn,Nn] rfl rfl (by kernel_rfl) (fun _ _ _ h => h) (Or.inl ⟨by rfl, ?_⟩) ?_ ?_
        rotate_left
        · intro w'
          go_simp
          with_reducible rfl
        rotate_left
        · simp only [Act.put, List.setIfInBounds_toArray, List.set_cons_zero, List.set_cons_succ, i64_w, i32_w]
          rfl
        refine pure_ (i := 1) (N := some 33) (v := ?_) (a' := ?_) #[Yy,Yy,Nn,Nn,Nn] rfl rfl (by kernel_rfl) (fun _ _ _ h => h) (Or.inl ⟨by rfl, ?_⟩) ?_ ?_
        rotate_left
        · intro w'
          go_simp
          with_reducible rfl
        rotate_left
        · simp only [Act.put, List.setIfInBounds_toArray, List.set_cons_zero, List.set_cons_succ, i64_w, i32_w]
          rfl
        refine pure_ (i := 2) (N := some 34) (v := ?_) (a' := ?_) #[Yy,Yy,Yy,Nn,Nn] rfl rfl (by kernel_rfl) (fun _ _ _ h => h) (Or.inl ⟨by rfl, ?_⟩) ?_ ?_
        rotate_left
        · intro w'
          go_simp
          with_reducible rfl
        rotate_left
        · simp only [Act.put, List.setIfInBounds_toArray, List.set_cons_zero, List.set_cons_succ, i64_w, i32_w]
          rfl
        refine one_ (i := 3) (N := some 35) #[Yy,Yy,Yy,Yy,Nn] rfl rfl (by kernel_rfl) (by decide) (fun K hK => ?_)
        refine goes_ Tryz.func92 (by kernel_rfl) rfl #[.slice A1 ps.length c1, .slice A4 x.length c4] (by rfl) rfl rfl (by simp only [List.map_toArray, List.map_cons, List.map_nil]; rfl) ?_
        with_reducible refine (HK.out).mono ?_
        rintro e w5 ⟨v35, rfl, ho, hb⟩
        refine ⟨_, rfl, ?_⟩
        obtain ⟨A23, c23, rfl⟩ := Kd.R_slice ho
        have HO5 := Aside0.mk (Kd.R_reads' ho).2.2
        have HB5 := Aside0.mk (below_step (below_drew1 HBZ.out) hb)
        have HZ5 := HZ.drew.keep hb
        clear hb ho
        refine hK.out _ _ trivial (fun hHeld => ?_)
        clear hK K
        refine norm_ (a' := ?_) ?_ ?_
        rotate_left
        · show Act.put _ (some 35) _ = _
          simp only [Act.put, List.setIfInBounds_toArray, List.set_cons_zero, List.set_cons_succ, i64_w, i32_w]
          rfl
        refine one_ (i := 4) (N := some 36) #[Yy,Yy,Yy,Yy,Yy] rfl rfl (by kernel_rfl) (by decide) (fun K hK => ?_)
        refine step_copy_splice rfl (.tmp 32) (.tmp 35) _ _ rfl 2 Tryz.underlying84 size1I (some ⟨wo.heap.size, 0, none⟩) A23 8 8 own.length c23 rfl rfl wo.heap.size 0 (encs (Value.int .i64) [0, 0, 0, 0, 0, 0, 0, 0]) 103 HZ5 (encs (Value.int .i64) own) (by rw [show Nat.min own.length 8 = own.length from Nat.min_eq_left hv8]; simp [encs]) (fun h0 => ⟨rfl, kI_cells HO5.out (by simpa [encs] using h0)⟩) (by simp [encs]; omega) (ints_oneCell _ _) wo.heap.size wo HB5.out (Nat.le_refl _) ?_
        intro w7 h7 hb7
        refine hK.out _ _ trivial (fun hHeld => ?_)
        clear hK K
        refine norm_ (a' := ?_) ?_ ?_
        rotate_left
        · show Act.put _ (some 36) _ = _
          simp only [Act.put, List.setIfInBounds_toArray, List.set_cons_zero, List.set_cons_succ, i64_w, i32_w]
          rfl
        refine done_ (by kernel_rfl) ?_
        have HZ7 : Blk w7 wo.heap.size 103 (encs (Value.int .i64) (pad8 own)).toArray := by
          have h := h7.out
          rw [splice_pad hv8] at h
          exact h
        have HM7 := Aside0.mk (OwnTok.below HM.out hb7)
        have HS7 := Aside0.mk (HS.out.keep fun A n l h => Kd.C_below h hb7)
        have HKEY := Aside0.mk (keyOf_row (pad8_len hv8) (pad8_wf HV.out.2))
        have HSZ := Aside0.mk (show (Tryz.prog.info? 103).map (·.size) = some (encs (Value.int .i64) (pad8 own)).toArray.size by rw [size8]; simp [encs, pad8_len hv8])
        have hcw := (hb7.cell (World.block_lt_of_cell? _ _ hc)).trans hc
        replace HB2 := Aside0.mk (below_step HB2o.out hb7)
        have H17 := H1.below HB2.out hsz
        have HK2 := Aside0.mk (orbitOfPoint_calls P n A l.length c l A4 x.length c4 x w7 (Kd.C_below HR.out (below_step HB.out HB2.out)) HL.out (Kd.C_below HC1.out HB2.out) (by omega) hp256 (by omega) (by omega) HPX.out hlm hln)
        have hne := orbitS_neZ (p := (P : Int)) (n := n) (x := x) hln
        clear h7 hb7 HM HS HZ HO5 HB5 HZ5
        go_wp2_with (refine load_blk rfl _ 2 rfl H17 rfl _ Tryz.underlying37 rfl sizeG ?_)
        go_at_call 93
        refine HK2.out.mono ?_
        rintro e w8 ⟨A6, c6, rfl, hC6, hb8⟩
        obtain ⟨ad6, B0, b0, r, hr0, rfl, hc6, hrc6, hD0⟩ := at_row hC6 0 hne
        have HD0 := Aside0.mk hD0
        have HR0 : Aside0 (r = ntR' (orbitS P n l (ntR pts i))) := ⟨by rw [← HRR.out]; exact hr0⟩
        have HVI : Aside0 (own = valsV ps (ntR pts i)) := ⟨by rw [← HRR.out]; exact HOWN.out⟩
        have HZ8 := HZ7.keep hb8
        have HM8 := Aside0.mk (OwnTok.below HM7.out hb8)
        have HS8 := Aside0.mk (HS7.out.keep fun A n l h => Kd.C_below h hb8)
        replace HB2 := Aside0.mk (below_step HB2.out hb8)
        rw [show ad6.add 0 = ad6 by simp [Addr.add]] at hc6
        have hc60 : w8.cell? (ad6.add 0) = some (.slice B0 r.length b0) := (by rw [show ad6.add 0 = ad6 by simp [Addr.add]]; exact hc6)
        clear hC6 hb8 hD0 hr0 HZ7 H17 HM7 HS7 HRR HOWN HKS
        cases hh : Maps.has D (klv (pad8 own))
        · have HH := Aside0.mk hh
          have HE : Aside0 (∀ j < i, valsV ps (ntR pts j) = valsV ps (ntR pts i) → ntR' (orbitS P n l (ntR pts j)) = ntR' (orbitS P n l (ntR pts i))) := ⟨fun j hj e => by
            have h1 := HS8.out.has j hj
            rw [show valsV ps (ntR pts j) = own from e.trans HVI.out.symm, HH.out] at h1
            cases h1⟩
          clear hh
          go_wp2_with (first
            | (refine load_blk rfl _ 11 rfl HZ8 rfl _ Tryz.underlying103 rfl HSZ.out ?_)
            | (at_lookup; go_must (refine look_not rfl (.tmp 43) (.tmp 44) _ rfl 84 Tryz.underlying112 (zero_sl _) w1.heap.size i D rfl HM8.out _ (klv (pad8 own)) rfl HKEY.out HH.out ?_))
            | (at_mapUpdate; go_must (refine wpList_mapUpdate_own _ rfl _ _ _ _ rfl 103 84 keyed8 Tryz.underlying112 tokR w1.heap.size i D rfl HM8.out (by unfold maxLen; omega) _ _ (klv (pad8 own)) rfl rfl HKEY.out (.held (.slice B0 r.length b0)) [] rfl ?_; intro w9 hown9 hg9)))
          have HS9 : Aside0 (SeenOk w9 (fun j => valsV ps (ntR pts j)) (fun j => ntR' (orbitS P n l (ntR pts j))) (i + 1) (D.put (klv (pad8 own)) (.held (.slice B0 r.length b0)))) := ⟨by
            rw [HVI.out]
            exact SeenOk.put (k := ps.length) HS8.out HM8.out (fun j _ => HWF.out _) h8 hg9 (by rw [← HR0.out]; exact HD0.out) HE.out⟩
          have HB9 := Aside0.mk (HB2.out.grown hg9 HB2.out.size (fun j hj => by cases hj; exact Nat.le_refl _))
          go_roundw
          case rel => exact ⟨i + 1, _, by go_num, by omega, ⟨hown9⟩, HS9, HB9⟩
          case measure => simp [intOf]; omega
        · have HH := Aside0.mk hh
          obtain ⟨j, hj, hVj, ⟨A', n', c', hat, hCj⟩, hall⟩ := SeenOk.there (k := ps.length) HS8.out (fun j _ => HWF.out _) h8 (show Maps.has D (klv (pad8 (valsV ps (ntR pts i)))) = true by rw [← HVI.out]; exact hh)
          obtain ⟨Lj, hLj⟩ : ∃ Lj, Lj = ntR' (orbitS P n l (ntR pts j)) := ⟨_, rfl⟩
          have hCj' : kI.C w8 A' n' Lj := by rw [hLj]; exact hCj
          have HCJ := Aside0.mk hCj'
          have HAT : Aside0 (atTok D (klv (pad8 own)) = .held (.slice A' n' c')) := ⟨by rw [HVI.out]; exact hat⟩
          cases hsb : sameB Lj r
          · have HF : Aside0 (sepsR P n l ps = (false, 0)) := ⟨HN.out false (sepsB_false (i := j) (k := i) (by omega) hlt hVj (by rw [← hLj, ← HR0.out]; exact of_decide_eq_false hsb))⟩
            have HSB := Aside0.mk hsb
            clear hh hat hCj hCj' hall hVj hLj hsb
            go_wp2_with (first
              | (refine load_blk rfl _ 11 rfl HZ8 rfl _ Tryz.underlying103 rfl HSZ.out ?_)
              | (at_lookup; go_must (refine look_has rfl (.tmp 43) (.tmp 44) _ rfl 84 Tryz.underlying112 (zero_sl _) w1.heap.size i D rfl HM8.out _ (klv (pad8 own)) rfl HKEY.out (.slice A' n' c') HH.out HAT.out ?_))
              | (go_at_call 94; refine (equal_calls A' n' c' Lj B0 r.length b0 r _ HCJ.out HD0.out).mono ?_; rw [HSB.out]; rintro e w9 ⟨rfl, hd⟩; replace HB2 := Aside0.mk (below_step HB2.out hd.below); clear hd))
            refine bodyPost_ret (results_tmp2 rfl _ _ _) rfl ?_
            exact ⟨by rw [HF.out]; rfl, below_step HB.out HB2.out⟩
          · have HE : Aside0 (∀ j < i, valsV ps (ntR pts j) = valsV ps (ntR pts i) → ntR' (orbitS P n l (ntR pts j)) = ntR' (orbitS P n l (ntR pts i))) := ⟨fun j' hj' e => by
              rw [hall j' hj' e, ← HR0.out, ← hLj]
              exact of_decide_eq_true hsb⟩
            have HSB := Aside0.mk hsb
            clear hh hat hCj hCj' hall hVj hLj hsb
            go_wp2_with (first
              | (refine load_blk rfl _ 11 rfl HZ8 rfl _ Tryz.underlying103 rfl HSZ.out ?_)
              | (at_lookup; go_must (refine look_has rfl (.tmp 43) (.tmp 44) _ rfl 84 Tryz.underlying112 (zero_sl _) w1.heap.size i D rfl HM8.out _ (klv (pad8 own)) rfl HKEY.out (.slice A' n' c') HH.out HAT.out ?_)))
            go_at_call 94
            refine (equal_calls A' n' c' Lj B0 r.length b0 r _ HCJ.out HD0.out).mono ?_
            rw [HSB.out]
            rintro e w8' ⟨rfl, hd⟩
            have HZ9 := HZ8.keep hd.below
            have HM9 := Aside0.mk (OwnTok.below HM8.out hd.below)
            have HS8' := Aside0.mk (HS8.out.keep fun A n l h => Kd.C_below h hd.below)
            have HD9 := Aside0.mk (Kd.C_below HD0.out hd.below)
            replace HB2 := Aside0.mk (below_step HB2.out hd.below)
            clear hd HCJ HAT HM8 HS8 HD0 HZ8
            go_wp2_with (first
              | (refine load_blk rfl _ 11 rfl HZ9 rfl _ Tryz.underlying103 rfl HSZ.out ?_)
              | fail
              | (at_mapUpdate; go_must (refine wpList_mapUpdate_own _ rfl _ _ _ _ rfl 103 84 keyed8 Tryz.underlying112 tokR w1.heap.size i D rfl HM9.out (by unfold maxLen; omega) _ _ (klv (pad8 own)) rfl rfl HKEY.out (.held (.slice B0 r.length b0)) [] rfl ?_; intro w9 hown9 hg9)))
            have HS9 : Aside0 (SeenOk w9 (fun j => valsV ps (ntR pts j)) (fun j => ntR' (orbitS P n l (ntR pts j))) (i + 1) (D.put (klv (pad8 own)) (.held (.slice B0 r.length b0)))) := ⟨by
              rw [HVI.out]
              exact SeenOk.put (k := ps.length) HS8'.out HM9.out (fun j _ => HWF.out _) h8 hg9 (by rw [← HR0.out]; exact HD9.out) HE.out⟩
            have HB9 := Aside0.mk (HB2.out.grown hg9 HB2.out.size (fun j hj => by cases hj; exact Nat.le_refl _))
            go_roundw
            case rel => exact ⟨i + 1, _, by go_num, by omega, ⟨hown9⟩, HS9, HB9⟩
            case measure => simp [intOf]; omega
      · obtain rfl : i = pts.length := by omega
        have HT : Aside0 (sepsR P n l ps = (true, 0)) := ⟨HN.out true (sepsB_true fun a ha k hk e => by
          obtain ⟨A', n', c', h1, h2⟩ := HS.out.elem a ha
          obtain ⟨A2', n2', c2', h3, h4⟩ := HS.out.elem k (by omega)
          have e' : atTok D (klv (pad8 (valsV ps (ntR pts a)))) = atTok D (klv (pad8 (valsV ps (ntR pts k)))) := by rw [e]
          rw [h1, h3] at e'
          injection e' with e'
          cases e'
          exact kI_unique h2 h4)⟩
        go_wp2
        refine bodyPost_ret (results_tmp2 rfl _ _ _) rfl ?_
        exact ⟨by rw [HT.out]; rfl, below_step HB.out HB2.out⟩
  · have HN : Aside0 (sepsR p n l ps = (false, sepC p n l ps)) := ⟨by unfold sepsR; rw [if_neg hz]⟩
    have hzb : (sepC p n l ps != 0) = true := by simpa using hz
    obtain ⟨z, hzz⟩ : ∃ z, z = sepC p n l ps := ⟨_, rfl⟩
    rw [← hzz] at HKS HN hzb
    clear hz hzz hr hl hr1 hbox
    go_enter Tryz.func37, Tryz.ntmps37
    go_wp2_with (first
      | (refine load_blk rfl _ 2 rfl H1 rfl _ Tryz.underlying37 rfl sizeG ?_)
      | (go_at_call 89; refine HKS.out.mono ?_; rintro e w1 ⟨v, rfl, ho, hb⟩; replace HB := Aside0.mk (below_step HB.out hb); clear hb ho))
    refine bodyPost_ret (results_tmp2 rfl _ _ _) rfl ?_
    exact ⟨by rw [HN.out]; rfl, HB.out⟩
end Go.Proofs.YtbenhcognapdpaaGreat
/- Walk: the law FnExactSeparatesOrbits answers true. -/
set_option linter.unusedVariables false
set_option linter.unusedSimpArgs false
namespace Go.Proofs.YtbenhcognapdpaaGreat
open Go.RowKit Go.Proofs.YtbenhcognapdpaaGreatW.PrintWords Go.Proofs.YtbenhcognapdpaaGreatW.PrintLast Lin

theorem sizeGLy : (Tryz.prog.info? 32).map (·.size) = some 3 := by kernel_rfl
set_option maxRecDepth 100000 in
set_option maxHeartbeats 2000000 in
theorem fnSep_calls (p n : Int) (A : Option Addr) (q c : Nat) (l : List (List Int)) (A1 : Option Addr) (q1 c1 : Nat) (ps : List Pv) (w : World) (hr : kM.C w A q l) (hl : ∀ m ∈ l, IsM m) (hr1 : kP.C w A1 q1 ps) (ht : ∀ P ∈ ps, IsPv P) :
    Calls Tryz.prog 9 #[.agg #[.int .i64 p, .int .i64 n, .slice A q c], .slice A1 q1 c1] w fun e w' => e = .returned (.bool true) ∧ Below w.heap.size w w' := by
  obtain rfl := Kd.C_len hr
  obtain rfl := Kd.C_len hr1
  have hm0 := Kd.C_max hr
  have hm1 := Kd.C_max hr1
  have HB0 := Aside0.mk (below_alloc (Below.refl w.heap.size w) (.cells #[.int .i64 p, .int .i64 n, .slice A l.length c] 32))
  have H1 := Blk.new w #[.int .i64 p, .int .i64 n, .slice A l.length c] 32
  by_cases hll : l.length ≤ 1048576
  rotate_left
  · have HN : Aside0 (szL l.length 1048576 = -1) := ⟨by unfold szL; rw [if_pos (by omega)]⟩
    go_enter Tryz.func9, Tryz.ntmps9
    go_wp2_with (refine load_blk rfl _ 2 rfl H1 rfl _ Tryz.underlying32 rfl sizeGLy ?_)
    go_at_call 16
    refine (szGroup_calls p n A l.length c 1048576 _ (by omega) hm0).mono ?_
    rw [HN.out]
    rintro e w1 ⟨rfl, hb⟩
    have HB := Aside0.mk (below_step HB0.out hb)
    clear hb
    go_wp2
    go_ret
    exact ⟨rfl, HB.out⟩
  have HN : Aside0 (szL l.length 1048576 = 1048576 - l.length) := ⟨by unfold szL; rw [if_neg (by omega)]⟩
  have hbl : decide ((1048576 : Int) - l.length < 0) = false := decide_eq_false (by omega)
  have HR := Aside0.mk hr
  have HL := Aside0.mk hl
  have HR1 := Aside0.mk hr1
  have HTA := Aside0.mk ht
  clear hr hl hr1 ht
  go_enter Tryz.func9, Tryz.ntmps9
  go_wp2_with (refine load_blk rfl _ 2 rfl H1 rfl _ Tryz.underlying32 rfl sizeGLy ?_)
  go_at_call 16
  refine (szGroup_calls p n A l.length c 1048576 _ (by omega) hm0).mono ?_
  rw [HN.out]
  rintro e w1 ⟨rfl, hb⟩
  replace H1 := H1.keep hb
  have HB := Aside0.mk (below_step HB0.out hb)
  clear hb
  go_wp2_with fail
  go_at_call 11
  refine (szPolyS_calls A1 ps.length c1 ps (1048576 - l.length) _ (Kd.C_below HR1.out HB.out) (by omega)).mono ?_
  rintro e w1a ⟨r, rfl, hz, hb⟩
  replace H1 := H1.keep hb
  replace HB := Aside0.mk (below_step HB.out hb)
  clear hb
  rcases hz with rfl | hz
  · go_wp2
    go_ret
    exact ⟨rfl, HB.out⟩
  have hpl : ps.length ≤ 1048576 := by have := hz.2.2.1; omega
  have HSZ : Aside0 (∀ P ∈ ps, P.2.2.length ≤ 1048576) := ⟨fun P hP => by have := hz.2.2.2 P hP; omega⟩
  have hrr : decide (r < 0) = false := decide_eq_false (by omega)
  clear hz
  obtain ⟨sb, sc, hs⟩ : ∃ sb sc, sepsR p n l ps = (sb, sc) := ⟨_, _, rfl⟩
  have HS := Aside0.mk hs
  clear hs
  go_wp2_with (refine load_blk rfl _ 2 rfl H1 rfl _ Tryz.underlying32 rfl sizeGLy ?_)
  go_at_call 18
  refine (toGroup_calls p n A l.length c l _ (Kd.C_below HR.out HB.out) hll).mono ?_
  rintro e w2 ⟨A3, c3, rfl, hC, hb⟩
  have HG3 := Aside0.mk hC
  replace H1 := H1.keep hb
  replace HB := Aside0.mk (below_step HB.out hb)
  clear hb hC
  go_wp2_with fail
  go_at_call 13
  refine (toPolyS_calls A1 ps.length c1 ps _ (Kd.C_below HR1.out HB.out) hpl HSZ.out).mono ?_
  rintro e w3 ⟨v4, rfl, ho, hb⟩
  obtain ⟨A4, c4, rfl, hc4, hC4⟩ := Kd.R_reads ho
  have HX3 := Aside0.mk hC4
  replace HG3 := Aside0.mk (Kd.C_below HG3.out hb)
  replace H1 := H1.keep hb
  replace HB := Aside0.mk (below_step HB.out hb)
  clear hb ho hC4
  go_wp2_with fail
  go_at_call 36
  refine (specSep_calls p n A3 l.length c3 l A4 ps.length c4 ps _ HG3.out HL.out HX3.out HTA.out HSZ.out).mono ?_
  rw [HS.out]
  rintro e w5 ⟨rfl, hb⟩
  replace H1 := H1.keep hb
  replace HB := Aside0.mk (below_step HB.out hb)
  clear hb HG3 HX3
  go_wp2_with (refine load_blk rfl _ 2 rfl H1 rfl _ Tryz.underlying32 rfl sizeGLy ?_)
  go_at_call 18
  refine (toGroup_calls p n A l.length c l _ (Kd.C_below HR.out HB.out) hll).mono ?_
  rintro e w6 ⟨A6, c6, rfl, hC, hb⟩
  have hb6 := below_alloc (Below.refl w6.heap.size w6) (.cells #[.int .i64 p, .int .i64 n, .slice A6 l.length c6] 37)
  have HG := Aside0.mk (Kd.C_below hC hb6)
  have H10 := Blk.new w6 #[.int .i64 p, .int .i64 n, .slice A6 l.length c6] 37
  replace H1 := (H1.keep hb).keep hb6
  replace HB := Aside0.mk (below_step (below_step HB.out hb) hb6)
  clear hb hb6 hC
  go_wp2_with (refine gate_ (.store 37 (.tmp 8) (.tmp 31)) rfl ?_; go_must (refine store_blk (cs := #[.int .i64 p, .int .i64 n, .slice A6 l.length c6]) rfl _ 8 _ rfl (Blk.new w6 #[.int .i64 0, .int .i64 0, .slice none 0 0] 37) rfl rfl sizeG rfl (by simp [Value.oneCell']) ?_; rw [World.setRow_alloc_new]))
  go_at_call 13
  refine (toPolyS_calls A1 ps.length c1 ps _ (Kd.C_below HR1.out HB.out) hpl HSZ.out).mono ?_
  rintro e w7 ⟨v7, rfl, ho, hb⟩
  obtain ⟨A7, c7, rfl, hc7, hC7⟩ := Kd.R_reads ho
  have HX := Aside0.mk hC7
  replace HG := Aside0.mk (Kd.C_below HG.out hb)
  replace H1 := H1.keep hb
  replace H10 := H10.keep hb
  replace HB := Aside0.mk (below_step HB.out hb)
  clear hb ho hC7
  go_wp2_with (refine load_blk rfl _ 8 rfl H10 rfl _ Tryz.underlying37 rfl sizeG ?_)
  go_at_call 37
  refine (implSep_calls p n A6 l.length c6 l A7 ps.length c7 ps _ HG.out HL.out HX.out HTA.out HSZ.out).mono ?_
  rw [HS.out]
  rintro e w9 ⟨rfl, hb⟩
  replace HG := Aside0.mk (Kd.C_below HG.out hb)
  replace HX := Aside0.mk (Kd.C_below HX.out hb)
  replace H1 := H1.keep hb
  replace H10 := H10.keep hb
  replace HB := Aside0.mk (below_step HB.out hb)
  clear hb
  have hbb : (sb != sb) = false := by simp
  have hbc : (sc != sc) = false := by simp
  go_wp2_with fail
  have HKT := Aside0.mk (fun W (h : Below w.heap.size w W) => toGroup_calls p n A l.length c l W (Kd.C_below HR.out h) hll)
  refine start_ (n := 5) (S := fun w' => At w' ⟨w6.heap.size, 0, none⟩ #[.int .i64 p, .int .i64 n, .slice A6 l.length c6] ∧ At w' ⟨w.heap.size, 0, none⟩ #[.int .i64 p, .int .i64 n, .slice A l.length c]) (ds := []) #[Nn,Nn,Nn,Nn,Nn] (by kernel_rfl) rfl rfl ⟨H10.drew.at, H1.drew.at⟩ (fun hHeld => ?_)
  refine take_ (i := 0) (N := some 48) (v := ?_) (a' := ?_) #[Yy,Nn,Nn,Nn,Nn] rfl rfl (by kernel_rfl) (fun _ _ _ h => h) (Or.inl ⟨by rfl, ?_⟩) hHeld ?_ ?_
  rotate_left
  · rintro w' ⟨s0, s1⟩
    refine Eq.trans (run_op_load' s0 (by rfl) (by rfl) Tryz.underlying37 rfl sizeG) ?_
    with_reducible rfl
  rotate_left
  · simp only [Act.put, List.setIfInBounds_toArray, List.set_cons_zero, List.set_cons_succ, i64_w, i32_w]
    rfl
  refine take_ (i := 1) (N := some 49) (v := ?_) (a' := ?_) #[Yy,Yy,Nn,Nn,Nn] rfl rfl (by kernel_rfl) (fun _ _ _ h => h) (Or.inl ⟨by rfl, ?_⟩) hHeld ?_ ?_
  rotate_left
  · rintro w' ⟨s0, s1⟩
    refine Eq.trans (run_op_load' s1 (by rfl) (by rfl) Tryz.underlying32 rfl sizeGLy) ?_
    with_reducible rfl
  rotate_left
  · simp only [Act.put, List.setIfInBounds_toArray, List.set_cons_zero, List.set_cons_succ, i64_w, i32_w]
    rfl
  refine one_ (i := 2) (N := some 50) #[Yy,Yy,Yy,Nn,Nn] rfl rfl (by kernel_rfl) (by decide) (fun K hK => ?_)
  refine goes_ Tryz.func18 (by kernel_rfl) rfl #[.agg #[.int .i64 p, .int .i64 n, .slice A l.length c]] (by rfl) rfl rfl (by simp only [List.map_toArray, List.map_cons, List.map_nil]; rfl) ?_
  with_reducible refine (HKT.out _ (below_drew1 HB.out)).mono ?_
  rintro e w10 ⟨A9, c9, rfl, hC, hb⟩
  refine ⟨_, rfl, ?_⟩
  have HG2 := Aside0.mk hC
  replace HG := Aside0.mk (Kd.C_below (Kd.C_drew HG.out) hb)
  replace HX := Aside0.mk (Kd.C_below (Kd.C_drew HX.out) hb)
  replace H1 := H1.drew.keep hb
  replace H10 := H10.drew.keep hb
  replace HB := Aside0.mk (below_step (below_drew1 HB.out) hb)
  clear hb hC
  refine hK.out _ _ ⟨H10.at, H1.at⟩ (fun hHeld => ?_)
  clear hK K
  refine norm_ (a' := ?_) ?_ ?_
  rotate_left
  · show Act.put _ (some 50) _ = _
    simp only [Act.put, List.setIfInBounds_toArray, List.set_cons_zero, List.set_cons_succ, i64_w, i32_w]
    rfl
  refine one_ (i := 3) (N := some 51) #[Yy,Yy,Yy,Yy,Nn] rfl rfl (by kernel_rfl) (by decide) (fun K hK => ?_)
  refine goes_ Tryz.func20 (by kernel_rfl) rfl #[.agg #[.int .i64 p, .int .i64 n, .slice A6 l.length c6], .agg #[.int .i64 p, .int .i64 n, .slice A9 l.length c9]] (by rfl) rfl rfl (by simp only [List.map_toArray, List.map_cons, List.map_nil]; rfl) ?_
  with_reducible refine (eqGroup_same p n A6 l.length c6 A9 l.length c9 l _ HG.out HG2.out).mono ?_
  rintro e w11 ⟨rfl, hb⟩
  refine ⟨_, rfl, ?_⟩
  replace HX := Aside0.mk (Kd.C_below HX.out hb)
  replace H1 := H1.keep hb
  replace H10 := H10.keep hb
  replace HB := Aside0.mk (below_step HB.out hb)
  clear hb
  refine hK.out _ _ ⟨H10.at, H1.at⟩ (fun hHeld => ?_)
  clear hK K
  refine norm_ (a' := ?_) ?_ ?_
  rotate_left
  · show Act.put _ (some 51) _ = _
    simp only [Act.put, List.setIfInBounds_toArray, List.set_cons_zero, List.set_cons_succ, i64_w, i32_w]
    rfl
  refine pure_ (i := 4) (N := some 52) (v := ?_) (a' := ?_) #[Yy,Yy,Yy,Yy,Yy] rfl rfl (by kernel_rfl) (fun _ _ _ h => h) (Or.inl ⟨by rfl, ?_⟩) ?_ ?_
  rotate_left
  · intro w'
    go_simp
    with_reducible rfl
  rotate_left
  · simp only [Act.put, List.setIfInBounds_toArray, List.set_cons_zero, List.set_cons_succ, i64_w, i32_w]
    rfl
  refine done_ (by kernel_rfl) ?_
  go_wp2_with fail
  go_at_call 13
  refine (toPolyS_calls A1 ps.length c1 ps _ (Kd.C_below HR1.out HB.out) hpl HSZ.out).mono ?_
  rintro e w12 ⟨v12, rfl, ho, hb⟩
  obtain ⟨A12, c12, rfl, hc12, hC12⟩ := Kd.R_reads ho
  have HX2 := Aside0.mk hC12
  replace HX := Aside0.mk (Kd.C_below HX.out hb)
  replace HB := Aside0.mk (below_step HB.out hb)
  clear hb ho hC12
  go_wp2_with fail
  go_at_call 15
  refine (eqPolyS_same A7 ps.length c7 A12 ps.length c12 ps _ HX.out HX2.out).mono ?_
  rintro e w13 ⟨rfl, hb⟩
  replace HB := Aside0.mk (below_step HB.out hb)
  clear hb
  go_wp2
  go_ret
  exact ⟨rfl, HB.out⟩
end Go.Proofs.YtbenhcognapdpaaGreat
/- What a law's argument reads as, by its type: whole numbers, arrays, slices, structs. -/
set_option linter.unusedVariables false
set_option linter.unusedSimpArgs false
namespace Go.Proofs.YtbenhcognapdpaaGreat
open Go.RowKit Go.Proofs.YtbenhcognapdpaaGreatW.PrintWords Go.Proofs.YtbenhcognapdpaaGreatW.PrintLast Lin Go.Deep

section
variable {H : Type} {enc : TypeId × Value → H} {P : Program} {W : World} {spare : Nat → Bool} {held : Bool}
/-- Cells of type t read as a datum: then they are of kind d, and the value is Q. -/
def Opens {α : Type} (enc : TypeId × Value → H) (P : Program) (W : World) (spare : Nat → Bool) (held : Bool) (t : TypeId) (d : Kd α) (Q : α → Prop) : Prop :=
  ∀ fuel cs x, DataW.trod enc P W 0 spare held fuel t cs = some x → ∃ a, d.K W a cs ∧ Q a
theorem opens_int {t : TypeId} {k : IntKind} (ht : P.underlying t = some (.int k)) : Opens enc P W spare held t (Kd.int k) (fun a => (Lit.int k a).wf = true) := fun fuel cs x h => by
  obtain ⟨n, hcs, _, hw⟩ := DataW.trod_int ht h
  exact ⟨n, hcs, hw⟩
theorem Opens.imp {α : Type} {t : TypeId} {d : Kd α} {Q Q' : α → Prop} (h : Opens enc P W spare held t d Q) (hq : ∀ a, Q a → Q' a) : Opens enc P W spare held t d Q' := fun fuel cs x hx => by
  obtain ⟨a, h1, h2⟩ := h fuel cs x hx
  exact ⟨a, h1, hq a h2⟩
theorem opens_slice {α : Type} [Inhabited α] {t e e' : TypeId} {d : Kd α} {Q : α → Prop} (ht : P.underlying t = some (.slice e)) (hc : P.cellsOf e = d.sz) (h : Opens enc P W spare held e d Q) : Opens enc P W spare held t (Kd.slice e' d) (fun l => ∀ a ∈ l, Q a) := fun fuel cs x hx => by
  rcases open_slice ht hx with ⟨rfl, _⟩ | ⟨a, len, cap, m, n, D, Pl, rfl, _, hl, hm, hmm, _, hel⟩
  · exact ⟨[], ⟨none, 0, rfl, Nat.le_refl _, Kd.C_nil d W⟩, fun a ha => by cases ha⟩
  · have hlm : len ≤ m := by rw [hmm]; split <;> omega
    have hch : ∀ i, i < len → ∃ b : α, ∃ cs', W.cells? 0 (a.add (i * d.sz)) d.sz = some cs' ∧ d.K W b cs' ∧ Q b := by
      intro i hi
      obtain ⟨cs', h1, h2⟩ := hel i (by omega)
      rw [hc] at h1
      obtain ⟨b, hb, hq⟩ := h n cs' _ h2
      exact ⟨b, cs', h1, hb, hq⟩
    obtain ⟨f, hf⟩ := choose_lt hch
    have hlen : ((List.range len).map f).length = len := by simp
    have hmax : maxLen = 9223372036854775807 := rfl
    refine ⟨(List.range len).map f, ⟨some a, cap, by rw [hlen], by rw [hlen]; exact hl, ?_⟩, fun b hb => ?_⟩
    · rw [hlen]
      refine ⟨hlen, by omega, fun _ => ⟨a, rfl, fun j p hj => ?_⟩⟩
      have hjl : j < len := by have := (List.getElem?_eq_some_iff.1 hj).1; rwa [hlen] at this
      have hp : f j = p := by simpa [hjl] using hj
      obtain ⟨cs', h1, h2, _⟩ := hf j hjl
      rw [hp] at h2
      obtain ⟨_, hcl, hcell⟩ := World.cells?_some h1
      refine ⟨cs', d.K_len h2, h2, fun i u hu => ?_⟩
      have hi : i < cs'.length := (List.getElem?_eq_some_iff.1 hu).1
      have := hcell i (by rw [d.K_len h2] at hi; exact hi)
      rw [add_add'] at this
      rw [this, hu]
    · obtain ⟨i, hi, rfl⟩ := List.mem_map.1 hb
      obtain ⟨_, _, _, hq⟩ := hf i (List.mem_range.1 hi)
      exact hq
theorem ints_of {k : IntKind} : ∀ (cs : List Value), (∀ u ∈ cs, ∃ a, u = .int k a ∧ (Lit.int k a).wf = true) → ∃ xs : List Int, cs = encs (Value.int k) xs ∧ ∀ a ∈ xs, (Lit.int k a).wf = true
  | [], _ => ⟨[], rfl, fun a ha => by cases ha⟩
  | u :: cs, h => by
    obtain ⟨a, rfl, ha⟩ := h u List.mem_cons_self
    obtain ⟨xs, rfl, hx⟩ := ints_of cs (fun v hv => h v (List.mem_cons_of_mem _ hv))
    refine ⟨a :: xs, rfl, fun b hb => ?_⟩
    rcases List.mem_cons.1 hb with rfl | hb
    · exact ha
    · exact hx b hb
/-- An array of whole numbers: its cells. -/
theorem cells_ints {t e : TypeId} {k : IntKind} {n : Nat} (ht : P.underlying t = some (.array n e)) (he : P.underlying e = some (.int k)) (hce : P.cellsOf e = 1) (hct : P.cellsOf t = n) {fuel : Nat} {cs : List Value} {x : DataW H × List MemPlace}
    (h : DataW.trod enc P W 0 spare held fuel t cs = some x) : cs.length = n ∧ ∀ u ∈ cs, ∃ a, u = .int k a ∧ (Lit.int k a).wf = true := by
  obtain ⟨xs, m, _, _, hl, hxl, hel⟩ := DataW.trod_array ht h
  refine ⟨by rw [hl, hct], fun u hu => ?_⟩
  obtain ⟨i, hi, rfl⟩ := List.mem_iff_getElem.1 hu
  have hin : i < n := by rw [← hct, ← hl]; exact hi
  have h1 := hel i hin
  rw [hce, Nat.mul_one, List.drop_eq_getElem_cons hi, List.take_succ_cons, List.take_zero, List.getElem?_eq_getElem (by omega)] at h1
  obtain ⟨a, h2, _, h3⟩ := DataW.trod_int he h1
  exact ⟨a, by simpa using h2, h3⟩
theorem opens_ints {t e : TypeId} {k : IntKind} {n : Nat} (ht : P.underlying t = some (.array n e)) (he : P.underlying e = some (.int k)) (hce : P.cellsOf e = 1) (hct : P.cellsOf t = n) :
    Opens enc P W spare held t (Kd.arr n (Kd.int k) Nat.one_pos) (fun l => l.length = n ∧ ∀ a ∈ l, (Lit.int k a).wf = true) := fun fuel cs x h => by
  obtain ⟨hl, hu⟩ := cells_ints ht he hce hct h
  obtain ⟨xs, rfl, hx⟩ := ints_of cs hu
  have hxl : xs.length = n := by simpa [encs] using hl
  exact ⟨xs, (Kd.arr n (Kd.int k) Nat.one_pos).K_of_M (base := 0) (ok := fun _ => True) (Kd.arr_of_cells (n := n) hxl), hxl, hx⟩
/-- An array of arrays of whole numbers, in line. -/
theorem opens_ints2 {t e q : TypeId} {k : IntKind} {n m : Nat} (hm0 : 0 < m) (ht : P.underlying t = some (.array n e)) (he : P.underlying e = some (.array m q)) (hq : P.underlying q = some (.int k)) (hcq : P.cellsOf q = 1) (hce : P.cellsOf e = m) (hct : P.cellsOf t = n * m) :
    Opens enc P W spare held t (Kd.arr (n * m) (Kd.int k) Nat.one_pos) (fun l => l.length = n * m ∧ ∀ a ∈ l, (Lit.int k a).wf = true) := fun fuel cs x h => by
  obtain ⟨xs, mm, _, _, hl, hxl, hel⟩ := DataW.trod_array ht h
  rw [hct] at hl
  have hu : ∀ u ∈ cs, ∃ a, u = .int k a ∧ (Lit.int k a).wf = true := by
    intro u hu
    obtain ⟨i, hi, rfl⟩ := List.mem_iff_getElem.1 hu
    have hin : i / m < n := by rw [Nat.div_lt_iff_lt_mul hm0, ← hl]; exact hi
    have h1 := hel (i / m) hin
    rw [hce, List.getElem?_eq_getElem (by omega)] at h1
    refine (cells_ints he hq hcq hce h1).2 _ ?_
    rw [List.mem_iff_getElem?]
    refine ⟨i % m, ?_⟩
    rw [List.getElem?_take, if_pos (Nat.mod_lt _ hm0), List.getElem?_drop, Nat.mul_comm, Nat.div_add_mod, List.getElem?_eq_getElem hi]
  obtain ⟨xs', rfl, hx⟩ := ints_of cs hu
  have hxl' : xs'.length = n * m := by simpa [encs] using hl
  exact ⟨xs', (Kd.arr (n * m) (Kd.int k) Nat.one_pos).K_of_M (base := 0) (ok := fun _ => True) (Kd.arr_of_cells (n := n * m) hxl'), hxl', hx⟩
theorem opens_struct2 {α β : Type} {t : TypeId} {f0 f1 : Field} {d0 : Kd α} {d1 : Kd β} {Q0 : α → Prop} {Q1 : β → Prop} (ht : P.underlying t = some (.struct #[f0, f1])) (hC : P.cellsOf t = d0.sz + d1.sz)
    (o0 : f0.offset = 0) (s0 : P.cellsOf f0.type = d0.sz) (o1 : f1.offset = d0.sz) (s1 : P.cellsOf f1.type = d1.sz) (h0 : Opens enc P W spare held f0.type d0 Q0) (h1 : Opens enc P W spare held f1.type d1 Q1) :
    Opens enc P W spare held t (Kd.pair d0 d1) (fun x => Q0 x.1 ∧ Q1 x.2) := fun fuel cs x h => by
  obtain ⟨xs, n, _, _, hl, hxl, hel⟩ := DataW.trod_struct ht h
  have e0 := hel 0 f0 rfl
  have e1 := hel 1 f1 rfl
  have hx2 : xs.length = 2 := hxl
  rw [List.getElem?_eq_getElem (by omega), o0, s0, List.drop_zero] at e0
  rw [List.getElem?_eq_getElem (by omega), o1, s1] at e1
  obtain ⟨a, k0, q0⟩ := h0 _ _ _ e0
  obtain ⟨b, k1, q1⟩ := h1 _ _ _ e1
  rw [List.take_of_length_le (i := d1.sz) (by rw [List.length_drop]; omega)] at k1
  exact ⟨(a, b), ⟨_, _, (List.take_append_drop _ _).symm, k0, k1⟩, q0, q1⟩
theorem opens_struct3 {α β γ : Type} {t : TypeId} {f0 f1 f2 : Field} {d0 : Kd α} {d1 : Kd β} {d2 : Kd γ} {Q0 : α → Prop} {Q1 : β → Prop} {Q2 : γ → Prop} (ht : P.underlying t = some (.struct #[f0, f1, f2])) (hC : P.cellsOf t = d0.sz + (d1.sz + d2.sz))
    (o0 : f0.offset = 0) (s0 : P.cellsOf f0.type = d0.sz) (o1 : f1.offset = d0.sz) (s1 : P.cellsOf f1.type = d1.sz) (o2 : f2.offset = d0.sz + d1.sz) (s2 : P.cellsOf f2.type = d2.sz)
    (h0 : Opens enc P W spare held f0.type d0 Q0) (h1 : Opens enc P W spare held f1.type d1 Q1) (h2 : Opens enc P W spare held f2.type d2 Q2) :
    Opens enc P W spare held t (Kd.pair d0 (Kd.pair d1 d2)) (fun x => Q0 x.1 ∧ Q1 x.2.1 ∧ Q2 x.2.2) := fun fuel cs x h => by
  obtain ⟨xs, n, _, _, hl, hxl, hel⟩ := DataW.trod_struct ht h
  have e0 := hel 0 f0 rfl
  have e1 := hel 1 f1 rfl
  have e2 := hel 2 f2 rfl
  have hx2 : xs.length = 3 := hxl
  rw [List.getElem?_eq_getElem (by omega), o0, s0, List.drop_zero] at e0
  rw [List.getElem?_eq_getElem (by omega), o1, s1] at e1
  rw [List.getElem?_eq_getElem (by omega), o2, s2] at e2
  obtain ⟨a, k0, q0⟩ := h0 _ _ _ e0
  obtain ⟨b, k1, q1⟩ := h1 _ _ _ e1
  obtain ⟨c, k2, q2⟩ := h2 _ _ _ e2
  rw [List.take_of_length_le (i := d2.sz) (by rw [List.length_drop]; omega), ← List.drop_drop] at k2
  exact ⟨(a, b, c), ⟨_, _, (List.take_append_drop _ _).symm, k0, _, _, (List.take_append_drop _ _).symm, k1, k2⟩, q0, q1, q2⟩
end
end Go.Proofs.YtbenhcognapdpaaGreat
/- What the laws' groups and lists of numbers read as. -/
set_option linter.unusedVariables false
set_option linter.unusedSimpArgs false
namespace Go.Proofs.YtbenhcognapdpaaGreat
open Go.RowKit Go.ChangeShapes Go.WideShapes Go.Proofs.YtbenhcognapdpaaGreatW.PrintWords Go.Proofs.YtbenhcognapdpaaGreatW.PrintLast Lin Go.Deep

theorem cells_u8 : Tryz.prog.cellsOf 5 = 1 := by kernel_rfl
theorem cells_i64 : Tryz.prog.cellsOf 2 = 1 := by kernel_rfl
theorem cells_a3 : Tryz.prog.cellsOf 82 = 3 := by kernel_rfl
theorem cells_a33 : Tryz.prog.cellsOf 137 = 9 := by kernel_rfl
theorem cells_a33S : Tryz.prog.cellsOf 30 = 1 := by kernel_rfl
theorem cells_lG : Tryz.prog.cellsOf 32 = 3 := by kernel_rfl
section
variable {H : Type} {enc : TypeId × Value → H} {W : World} {spare : Nat → Bool} {held : Bool}
theorem opens_mat : Opens enc Tryz.prog W spare held 137 kM IsM :=
  Opens.imp (opens_ints2 (n := 3) (m := 3) (by omega) Tryz.underlying137 Tryz.underlying82 Tryz.underlying5 cells_u8 cells_a3 cells_a33) fun m h => ⟨h.1, fun a ha => bounds_u8 (h.2 a ha)⟩
theorem opens_group : Opens enc Tryz.prog W spare held 32 (Kd.pair (Kd.int .i64) (Kd.pair (Kd.int .i64) (Kd.slice 137 kM))) (fun x => True ∧ True ∧ ∀ m ∈ x.2.2, IsM m) :=
  opens_struct3 (d0 := Kd.int .i64) (d1 := Kd.int .i64) (d2 := Kd.slice 137 kM) Tryz.underlying32 cells_lG rfl cells_i64 rfl cells_i64 rfl cells_a33S (Opens.imp (opens_int Tryz.underlying2) fun _ _ => trivial) (Opens.imp (opens_int Tryz.underlying2) fun _ _ => trivial) (opens_slice Tryz.underlying30 cells_a33 opens_mat)
set_option maxRecDepth 100000 in
theorem open_group {r : Reach} {b0 : Nat} {v : Value} {d : DataW H} {p : List MemPlace} (hv : Value.okWide Tryz.prog W r b0 32 v) (h : DataW.Trod enc Tryz.prog W 0 spare held 32 v d p) :
    ∃ (p n : Int) (A : Option Addr) (c : Nat) (l : List (List Int)), v = .agg #[.int .i64 p, .int .i64 n, .slice A l.length c] ∧ kM.C W A l.length l ∧ ∀ m ∈ l, IsM m := by
  obtain ⟨cs, rfl, hsz⟩ := okWide_struct Tryz.underlying32 hv
  obtain ⟨fuel, hf⟩ := h
  obtain ⟨⟨p, n, l⟩, ⟨c0, c1, he, h0, c2, c3, rfl, h1, A, c, rfl, _, hC⟩, _, _, hM⟩ := opens_group _ _ _ hf
  have h0' : c0 = [.int .i64 p] := h0
  have h1' : c2 = [.int .i64 n] := h1
  subst h0' h1'
  have he2 : cs.toList = [.int .i64 p, .int .i64 n, .slice A l.length c] := by simpa [Value.cells] using he
  have : cs = #[.int .i64 p, .int .i64 n, .slice A l.length c] := by rw [← Array.toArray_toList (xs := cs), he2]
  subst this
  exact ⟨p, n, A, c, l, rfl, hC, hM⟩
set_option maxRecDepth 100000 in
theorem open_row {r : Reach} {b0 : Nat} {v : Value} {d : DataW H} {p : List MemPlace} (hv : Value.okWide Tryz.prog W r b0 84 v) (h : DataW.Trod enc Tryz.prog W 0 spare held 84 v d p) :
    ∃ (A : Option Addr) (c : Nat) (l : List Int), v = .slice A l.length c ∧ l.length ≤ c ∧ kI.C W A l.length l := by
  obtain ⟨A, n, c, rfl⟩ := okWide_slice Tryz.underlying84 hv
  obtain ⟨fuel, hf⟩ := h
  obtain ⟨l, ⟨A', c', he, hl, hC⟩, _⟩ := opens_slice (e' := 2) (d := kI) Tryz.underlying84 cells_i64 (opens_int Tryz.underlying2) _ _ _ hf
  have he2 : Value.slice A n c = .slice A' l.length c' := by simpa [Value.cells] using he
  cases he2
  exact ⟨A, c, l, rfl, hl, hC⟩
end
end Go.Proofs.YtbenhcognapdpaaGreat
/- What the laws' polynomials and lists of polynomials read as. -/
set_option linter.unusedVariables false
set_option linter.unusedSimpArgs false
namespace Go.Proofs.YtbenhcognapdpaaGreat
open Go.RowKit Go.ChangeShapes Go.WideShapes Go.Proofs.YtbenhcognapdpaaGreatW.PrintWords Go.Proofs.YtbenhcognapdpaaGreatW.PrintLast Lin Go.Deep

theorem cells_lT : Tryz.prog.cellsOf 191 = 4 := by kernel_rfl
theorem cells_lTS : Tryz.prog.cellsOf 47 = 1 := by kernel_rfl
theorem cells_lP : Tryz.prog.cellsOf 49 = 3 := by kernel_rfl
section
variable {H : Type} {enc : TypeId × Value → H} {W : World} {spare : Nat → Bool} {held : Bool}
theorem opens_term : Opens enc Tryz.prog W spare held 191 kT (fun t => Is3 t.1 ∧ True) :=
  opens_struct2 (d0 := Kd.arr 3 (Kd.int .u8) Nat.one_pos) (d1 := Kd.int .i64) Tryz.underlying191 cells_lT rfl cells_a3 rfl cells_i64 (Opens.imp (opens_ints Tryz.underlying82 Tryz.underlying5 cells_u8 cells_a3) fun m h => ⟨h.1, fun a ha => bounds_u8 (h.2 a ha)⟩) (Opens.imp (opens_int Tryz.underlying2) fun _ _ => trivial)
theorem opens_poly : Opens enc Tryz.prog W spare held 49 kP IsPv :=
  Opens.imp (opens_struct3 (d0 := Kd.int .i64) (d1 := Kd.int .i64) (d2 := Kd.slice 151 kT) Tryz.underlying49 cells_lP rfl cells_i64 rfl cells_i64 rfl cells_lTS (Opens.imp (opens_int Tryz.underlying2) fun _ _ => trivial) (Opens.imp (opens_int Tryz.underlying2) fun _ _ => trivial) (opens_slice Tryz.underlying47 cells_lT opens_term)) fun P h t ht => (h.2.2 t ht).1
set_option maxRecDepth 100000 in
theorem open_poly {r : Reach} {b0 : Nat} {v : Value} {d : DataW H} {p : List MemPlace} (hv : Value.okWide Tryz.prog W r b0 49 v) (h : DataW.Trod enc Tryz.prog W 0 spare held 49 v d p) :
    ∃ (p n : Int) (A : Option Addr) (c : Nat) (l : List (List Int × Int)), v = .agg #[.int .i64 p, .int .i64 n, .slice A l.length c] ∧ kT.C W A l.length l ∧ IsPv (p, n, l) := by
  obtain ⟨cs, rfl, hsz⟩ := okWide_struct Tryz.underlying49 hv
  obtain ⟨fuel, hf⟩ := h
  obtain ⟨⟨p, n, l⟩, ⟨c0, c1, he, h0, c2, c3, rfl, h1, A, c, rfl, _, hC⟩, hM⟩ := opens_poly _ _ _ hf
  have h0' : c0 = [.int .i64 p] := h0
  have h1' : c2 = [.int .i64 n] := h1
  subst h0' h1'
  have he2 : cs.toList = [.int .i64 p, .int .i64 n, .slice A l.length c] := by simpa [Value.cells] using he
  have : cs = #[.int .i64 p, .int .i64 n, .slice A l.length c] := by rw [← Array.toArray_toList (xs := cs), he2]
  subst this
  exact ⟨p, n, A, c, l, rfl, hC, hM⟩
set_option maxRecDepth 100000 in
theorem open_polys {r : Reach} {b0 : Nat} {v : Value} {d : DataW H} {p : List MemPlace} (hv : Value.okWide Tryz.prog W r b0 22 v) (h : DataW.Trod enc Tryz.prog W 0 spare held 22 v d p) :
    ∃ (A : Option Addr) (c : Nat) (l : List Pv), v = .slice A l.length c ∧ kP.C W A l.length l ∧ ∀ P ∈ l, IsPv P := by
  obtain ⟨A, n, c, rfl⟩ := okWide_slice Tryz.underlying22 hv
  obtain ⟨fuel, hf⟩ := h
  obtain ⟨l, ⟨A', c', he, hl, hC⟩, hq⟩ := opens_slice (e' := 49) (d := kP) Tryz.underlying22 cells_lP opens_poly _ _ _ hf
  have he2 : Value.slice A n c = .slice A' l.length c' := by simpa [Value.cells] using he
  cases he2
  exact ⟨A, c, l, rfl, hC, hq⟩
end
end Go.Proofs.YtbenhcognapdpaaGreat
