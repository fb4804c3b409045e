/- Own texts of this claim, in one file: SO2. -/
import Derived.Test.YtbenhcognapdpaaGreatKR9o
import Derived.Test.YtbenhcognapdpaaGreatKR9p
/- Whether polynomials part the orbits: the plain law, and the walk in the specification. -/
set_option linter.unusedVariables false
set_option linter.unusedSimpArgs false
namespace Go.Proofs.YtbenhcognapdpaaGreat
open Go.RowKit Go.Proofs.YtbenhcognapdpaaGreatW.PrintWords Go.Proofs.YtbenhcognapdpaaGreatW.PrintLast Lin

def sepsB (p : Int) (n : Nat) (l : List (List Int)) (ps : List Pv) (pts : List (List Int)) : Bool :=
  decide (∀ x ∈ pts, ∀ y ∈ pts, valsV ps x = valsV ps y → ntR' (orbitS p n l x) = ntR' (orbitS p n l y))
/-- What both programs answer. -/
noncomputable def sepsR (p n : Int) (l : List (List Int)) (ps : List Pv) : Bool × Int :=
  if sepC p n l ps = 0 then (sepsB p n.toNat l ps (ptsS p.toNat n.toNat), 0) else (false, sepC p n l ps)
theorem sepsB_true {p : Int} {n : Nat} {l : List (List Int)} {ps : List Pv} {pts : List (List Int)}
    (h : ∀ i < pts.length, ∀ k < i, valsV ps (ntR pts i) = valsV ps (ntR pts k) → ntR' (orbitS p n l (ntR pts i)) = ntR' (orbitS p n l (ntR pts k))) : sepsB p n l ps pts = true := by
  unfold sepsB
  rw [decide_eq_true_iff]
  intro x hx y hy e
  obtain ⟨i, hi, rfl⟩ := List.mem_iff_getElem.1 hx
  obtain ⟨k, hk, rfl⟩ := List.mem_iff_getElem.1 hy
  rw [← ntR_eq pts i hi, ← ntR_eq pts k hk] at e ⊢
  rcases Nat.lt_trichotomy i k with h1 | h1 | h1
  · exact (h k hk i h1 e.symm).symm
  · rw [h1]
  · exact h i hi k h1 e
theorem sepsB_false {p : Int} {n : Nat} {l : List (List Int)} {ps : List Pv} {pts : List (List Int)} {i k : Nat} (hi : i < pts.length) (hk : k < pts.length)
    (h1 : valsV ps (ntR pts i) = valsV ps (ntR pts k)) (h2 : ntR' (orbitS p n l (ntR pts i)) ≠ ntR' (orbitS p n l (ntR pts k))) : sepsB p n l ps pts = false := by
  unfold sepsB
  rw [decide_eq_false_iff_not]
  intro h
  exact h2 (h _ (ntR_mem pts i hi) _ (ntR_mem pts k hk) h1)
theorem sepsB_perm {p : Int} {n : Nat} {l : List (List Int)} {ps : List Pv} {a b : List (List Int)} (h : a.Perm b) : sepsB p n l ps a = sepsB p n l ps b := by
  unfold sepsB
  rw [decide_eq_decide]
  constructor <;> intro h1 x hx y hy
  · exact h1 x (h.mem_iff.2 hx) y (h.mem_iff.2 hy)
  · exact h1 x (h.mem_iff.1 hx) y (h.mem_iff.1 hy)
section
variable {P : Program} {ops : Array Oper} {rest : List Oper} {o : Oper} {a : Act} {Q : Exit → Act → World → Prop} {Kc : Act → World → Prop}
/-- append(v, u): v an own slice of rows, u an own row, another one; beside other rows (ok). -/
theorem app_rowO {w0 W : World} (ok : Nat → Prop) (hgd : o.guard = none) (s x : Operand) (t : TypeId) (ho : o.op = .call { callee := .builtin .append, args := #[s, x], argTypes := #[t, t] })
    (ht : P.underlying t = some (.slice 84)) (hinfo : (P.info? 84).map (fun i => (i.zero, i.size, i.bytes)) = some (some (.slice none 0 0), 1, 24))
    (v : Value) (xs : List (List Int)) (u : Value) (p : List Int) (hs : a.eval s = v) (hx : a.eval x = .slice (some ⟨W.heap.size, 0, none⟩) 1 1)
    (HP : kI.R 2 W w0.heap.size (fun k => ok k ∧ some k ≠ v.ownBlock) u p) (hf : ∀ k, W.heap.size ≤ k → ok k)
    (HO : kR.R 84 W w0.heap.size ok v xs) (HB : Below w0.heap.size w0 W) (hl : xs.length < 1000000000000)
    (h : ∀ v1 w1, kR.R 84 w1 w0.heap.size ok v1 (xs ++ [p]) → Below w0.heap.size w0 w1 → W.grownBy w1 v.ownBlock → (v1.ownBlock = v.ownBlock ∨ ∃ b, v1.ownBlock = some b ∧ W.heap.size ≤ b) → wpList P ops Q rest (a.put o.dst v1) w1) :
    wpList P ops Q (o :: rest) a (W.alloc (.cells #[u] 84)) :=
  Kd.R_append kR w0.heap.size hgd s x t 84 (.slice none 0 0) 24 ho ht hinfo rfl (by decide) (by omega) v xs p [u] ok (fun k => ok k ∧ some k ≠ v.ownBlock) hs hx (Kd.M_row HP) (fun _ h => h) hf HO HB HB.size (by omega) h
theorem app_rowO_step {w0 W : World} (ok : Nat → Prop) (hw : Region.wanted o (yielded ops a.tmps) = true) (s x : Operand) (t : TypeId) (ho : o.op = .call { callee := .builtin .append, args := #[s, x], argTypes := #[t, t] })
    (ht : P.underlying t = some (.slice 84)) (hinfo : (P.info? 84).map (fun i => (i.zero, i.size, i.bytes)) = some (some (.slice none 0 0), 1, 24))
    (v : Value) (xs : List (List Int)) (u : Value) (p : List Int) (hs : a.eval s = v) (hx : a.eval x = .slice (some ⟨W.heap.size, 0, none⟩) 1 1)
    (HP : kI.R 2 W w0.heap.size (fun k => ok k ∧ some k ≠ v.ownBlock) u p) (hf : ∀ k, W.heap.size ≤ k → ok k)
    (HO : kR.R 84 W w0.heap.size ok v xs) (HB : Below w0.heap.size w0 W) (hl : xs.length < 1000000000000)
    (h : ∀ v1 w1, kR.R 84 w1 w0.heap.size ok v1 (xs ++ [p]) → Below w0.heap.size w0 w1 → W.grownBy w1 v.ownBlock → (v1.ownBlock = v.ownBlock ∨ ∃ b, v1.ownBlock = some b ∧ W.heap.size ≤ b) → Kc (a.put o.dst v1) w1) :
    if Region.wanted o (yielded ops a.tmps) = true then Oper.wp P o a (W.alloc (.cells #[u] 84)) Kc Q else Kc (a.put o.dst undef) (W.alloc (.cells #[u] 84)) :=
  Kd.R_append_step kR w0.heap.size hw s x t 84 (.slice none 0 0) 24 ho ht hinfo rfl (by decide) (by omega) v xs p [u] ok (fun k => ok k ∧ some k ≠ v.ownBlock) hs hx (Kd.M_row HP) (fun _ h => h) hf HO HB HB.size (by omega) h
end
theorem lit0_first {w1 : World} (o1 : Obj) : kR.R 84 ((w1.alloc (.cells #[] 84)).alloc o1) w1.heap.size (fun k => some k ≠ (Value.slice (some ⟨w1.heap.size + 1, 0, none⟩) 0 0).ownBlock) (.slice (some ⟨w1.heap.size, 0, none⟩) 0 0) [] := by
  have h := Kd.R_bound (R_lit0 kR 84 w1 w1.heap.size (Nat.le_refl _))
  refine Kd.R_below (Kd.R_mono h fun k hk e => ?_) (below_alloc (Below.refl _ _) _)
  have h1 := hk.2.2.1
  injection e with e
  subst e
  simp at h1
theorem lit0_second {w1 : World} (o1 : Obj) : kR.R 84 ((w1.alloc o1).alloc (.cells #[] 84)) w1.heap.size (fun k => some k ≠ (Value.slice (some ⟨w1.heap.size, 0, none⟩) 0 0).ownBlock) (.slice (some ⟨w1.heap.size + 1, 0, none⟩) 0 0) [] := by
  have hs : (w1.alloc o1).heap.size = w1.heap.size + 1 := by simp
  have h := R_lit0 kR 84 (w1.alloc o1) (w1.heap.size + 1) (by rw [hs]; exact Nat.le_refl _)
  rw [hs] at h
  refine Kd.R_lower (Kd.R_mono (Kd.R_bound h) fun k hk e => ?_) (by omega)
  have h1 := hk.2.1
  injection e with e
  subst e
  dsimp only at h1
  omega
theorem orbitS_neZ {p : Int} {n : Nat} {l : List (List Int)} {x : List Int} (h : 1 ≤ l.length) : 0 < (orbitS p n l x).length := by
  have hm : ntR l 0 ∈ l := ntR_mem l 0 (by omega)
  exact List.length_pos_of_mem (orbitS_mem.2 ⟨_, hm, rfl⟩)
/-- The first of an own list of rows is an own row. -/
theorem first_row {w : World} {base g m cap : Nat} {xs : List (List Int)} (h : kR.R 84 w base (fun _ => True) (.slice (some ⟨g, 0, none⟩) m cap) xs) (hm : 0 < m) :
    ∃ A0 c0, w.cell? ⟨g, 0, none⟩ = some (.slice A0 (ntR' xs).length c0) ∧ kI.R 2 w base (fun _ => True) (.slice A0 (ntR' xs).length c0) (ntR' xs) := by
  obtain ⟨c, hcl, hM, hcc, _⟩ := Kd.R_elem h [] 0 (by omega) (by omega)
  obtain ⟨v0, rfl, hR⟩ := hM
  have h0 := hcc 0 v0 rfl
  obtain ⟨A0, c0, rfl⟩ := Kd.R_slice hR
  exact ⟨A0, c0, by simpa [ntR'] using h0, Kd.R_mono hR (fun _ _ => trivial)⟩
set_option maxRecDepth 100000 in
set_option maxHeartbeats 1000000 in
theorem l09LeastR_calls (p : Int) (n : Nat) (A : Option Addr) (q c : Nat) (l : List (List Int)) (A' : Option Addr) (q' c' : Nat) (x : List Int) (w : World) (hr : kM.C w A q l) (hl : ∀ m ∈ l, IsM m) (hr' : kI.C w A' q' x)
    (hp : 0 < p) (hp2 : p ≤ 1000) (hn : n ≤ 3) (hx : Pt p n x) (hl48 : l.length ≤ 48) (hl1 : 1 ≤ l.length) :
    Calls Tryz.prog 91 #[.agg #[.int .i64 p, .int .i64 n, .slice A q c], .slice A' q' c'] w fun e w' => ∃ v, e = .returned v ∧ kI.R 2 w' w.heap.size (fun _ => True) v (ntR' (orbitS p n l x)) ∧ Below w.heap.size w w' := by
  have hbox := below_alloc (Below.refl w.heap.size w) (.cells #[.int .i64 p, .int .i64 n, .slice A q c] 37)
  have HK := Aside0.mk (l02Orbit_calls p n A q c l A' q' c' x _ (Kd.C_below hr hbox) hl (Kd.C_below hr' hbox) hp hp2 hn hx hl48)
  have HBX := Aside0.mk hbox
  have HNE := Aside0.mk (orbitS_neZ (p := p) (n := n) (x := x) hl1)
  clear hr hl hr' hx hbox
  have H1 := Blk.new w #[.int .i64 p, .int .i64 n, .slice A q c] 37
  go_enter Tryz.func91, Tryz.ntmps91
  go_wp2_with (first
    | (refine load_blk rfl _ 2 rfl H1 rfl _ Tryz.underlying37 rfl sizeG ?_)
    | (go_at_call 172; refine HK.out.mono ?_; rintro e w1 ⟨v, rfl, ho, hb⟩; have hgt := HNE.out; obtain ⟨g, cap, rfl, hg1, hg2, cells, hcell⟩ := Kd.R_form ho hgt; obtain ⟨A0, c0, hc0, hR0⟩ := first_row ho hgt; have HO := Aside0.mk hR0; have HB := Aside0.mk hb; clear ho hR0 hb hcell hg1 hg2 cells))
  go_ret
  exact ⟨_, rfl, Kd.R_lower HO.out HBX.out.size, below_step HBX.out HB.out⟩
set_option maxRecDepth 100000 in
set_option maxHeartbeats 4000000 in
theorem specSep_calls (p n : Int) (A : Option Addr) (q c : Nat) (l : List (List Int)) (A1 : Option Addr) (q1 c1 : Nat) (ps : List Pv) (w : World) (hr : kM.C w A q l) (hl : ∀ m ∈ l, IsM m) (hr1 : kP.C w A1 q1 ps) (ht : ∀ P ∈ ps, IsPv P) (hs : ∀ P ∈ ps, P.2.2.length ≤ 1048576) :
    Calls Tryz.prog 36 #[.agg #[.int .i64 p, .int .i64 n, .slice A q c], .slice A1 q1 c1] w fun e w' => e = .returned (.tuple #[.bool (sepsR p n l ps).1, .int .i64 (sepsR p n l ps).2]) ∧ Below w.heap.size w w' := by
  obtain rfl := Kd.C_len hr1
  obtain rfl := Kd.C_len hr
  have HR1 := Aside0.mk hr1
  have HR := Aside0.mk hr
  have HL := Aside0.mk hl
  have hbox := below_alloc (Below.refl w.heap.size w) (.cells #[.int .i64 p, .int .i64 n, .slice A l.length c] 37)
  have HB := Aside0.mk hbox
  have HKS := Aside0.mk (l09Code_calls p n A l.length c l A1 ps.length c1 ps _ (Kd.C_below hr hbox) hl (Kd.C_below hr1 hbox) ht)
  have H1 := Blk.new w #[.int .i64 p, .int .i64 n, .slice A l.length c] 37
  by_cases hz : sepC p n l ps = 0
  · obtain ⟨hok, hpb, hlb, hfb, hfw⟩ := sep_zero hz
    have hP := primeB_iff.1 hok.prime
    have hpp := hP.pos
    have hp256 : p ≤ 1000 := by rcases hP with h | h | h | h | h | h <;> omega
    have hvv : 1 ≤ n ∧ n ≤ 3 := of_decide_eq_true hok.vars
    have hlm := hok.most
    have hln := hok.least
    obtain ⟨n, rfl⟩ : ∃ k : Nat, n = k := ⟨n.toNat, by omega⟩
    obtain ⟨P, rfl⟩ : ∃ k : Nat, p = k := ⟨p.toNat, by omega⟩
    obtain ⟨hfp, h8⟩ := forP_of hpb hlb hfb ht hs
    have HFP := Aside0.mk hfp
    have HN : Aside0 (∀ b, sepsB P n l ps (ptsS P n) = b → sepsR P n l ps = (b, 0)) := ⟨fun b e => by
      unfold sepsR
      rw [if_pos hz, Int.toNat_natCast, Int.toNat_natCast, e]⟩
    have HPT : Aside0 (∀ x ∈ ptsS P n, Pt P n x) := ⟨fun x hx => (ptsS_mem n x).1 hx⟩
    have hpl : (ptsS P n).length ≤ 400 := by
      rw [ptsS_len]
      exact of_decide_eq_true (by simpa [fewB] using hfw)
    rw [hz] at HKS
    rw [Int.toNat_natCast, Int.toNat_natCast] at HKS
    clear hz hok hpb hlb hfb hfw hP hfp hr hl hr1 hbox ht hs
    obtain ⟨pts, hpts⟩ : ∃ pts, pts = ptsS P n := ⟨_, rfl⟩
    rw [← hpts] at HKS HN HPT hpl
    clear hpts
    go_enter Tryz.func36, Tryz.ntmps36
    go_wp2_with (first
      | (refine load_blk rfl _ 2 rfl H1 rfl _ Tryz.underlying37 rfl sizeG ?_)
      | (go_at_call 86; refine HKS.out.mono ?_; rintro e w1 ⟨v, rfl, ho, hb⟩; obtain ⟨A2, c2, rfl, hc2, hC2⟩ := ho rfl; have HC2 := Aside0.mk hC2; have hsz : w.heap.size < w1.heap.size := Nat.lt_of_lt_of_le H1.lt hb.size; replace H1 := H1.keep hb; replace HB := Aside0.mk (below_step HB.out hb); clear hb ho hC2))
    go_loopw [8, 9, 10] (fun v8 v9 v10 wr => ∃ i : Nat, v10 = .int .i64 i ∧ i ≤ pts.length ∧ Aside0 (kR.R 84 wr w1.heap.size (fun k => some k ≠ v9.ownBlock) v8 ((pts.take i).map (valsV ps))) ∧ Aside0 (kR.R 84 wr w1.heap.size (fun k => some k ≠ v8.ownBlock) v9 ((pts.take i).map fun x => ntR' (orbitS P n l x))) ∧ Aside0 (Below w1.heap.size w1 wr)) (fun _ _ v10 _ => pts.length - (intOf v10).toNat)
    case atStart => exact ⟨0, rfl, by omega, ⟨lit0_first _⟩, ⟨lit0_second _⟩, ⟨below_alloc (below_alloc (Below.refl _ _) _) _⟩⟩
    case round =>
      obtain ⟨i, rfl, hi, HV, HW, HB2⟩ := hrel
      obtain ⟨wo, rfl⟩ : ∃ wo, wo = wr := ⟨_, rfl⟩
      by_cases hlt : i < pts.length
      · obtain ⟨ad, A4, c4, x, hrr, rfl, hc1, hrc, hC1⟩ := at_row HC2.out i hlt
        have hlt1 := World.block_lt_of_cell? _ _ hc1
        have hc := (HB2.out.cell hlt1).trans hc1
        have HC1 := Aside0.mk hC1
        have Hc1 := Aside0.mk hc1
        have hC := Kd.C_below hC1 HB2.out
        clear hC1 hc1
        have HPX : Aside0 (Pt P n x) := ⟨HPT.out x (by rw [hrr]; exact ntR_mem pts i hlt)⟩
        have HNV : Aside0 ((pts.take (i + 1)).map (valsV ps) = (pts.take i).map (valsV ps) ++ [valsV ps x]) := ⟨by rw [take_succ_ntR pts i hlt, List.map_append, ← hrr]; rfl⟩
        have HNW : Aside0 ((pts.take (i + 1)).map (fun x => ntR' (orbitS P n l x)) = (pts.take i).map (fun x => ntR' (orbitS P n l x)) ++ [ntR' (orbitS P n l x)]) := ⟨by rw [take_succ_ntR pts i hlt, List.map_append, ← hrr]; rfl⟩
        have HK := Aside0.mk (l09Values_calls P n A1 ps.length c1 ps A4 x.length c4 x wo (Kd.C_below HR1.out (below_step HB.out HB2.out)) HFP.out hC HPX.out h8)
        clear hC hrr
        obtain ⟨vs, hvs⟩ : ∃ vs, vs = (pts.take i).map (valsV ps) := ⟨_, rfl⟩
        have hvl : vs.length ≤ 400 := by rw [hvs, List.length_map, List.length_take]; omega
        rw [← hvs] at HV HNV
        clear hvs
        obtain ⟨ls, hls⟩ : ∃ ls, ls = (pts.take i).map fun x => ntR' (orbitS P n l x) := ⟨_, rfl⟩
        have hll : ls.length ≤ 400 := by rw [hls, List.length_map, List.length_take]; omega
        rw [← hls] at HW HNW
        clear hls
        obtain ⟨own, hown⟩ : ∃ own, own = valsV ps x := ⟨_, rfl⟩
        rw [← hown] at HK HNV
        clear hown
        obtain ⟨A5, c5, rfl, hc5, hC5⟩ := Kd.R_reads HV.out
        obtain ⟨A6, c6, rfl, hc6, hC6⟩ := Kd.R_reads HW.out
        clear hC5 hC6
        have hd3 : decide ((i : Int) < pts.length) = true := decide_eq_true (by omega)
        go_wp2_with fail
        go_at_call 87
        refine HK.out.mono ?_
        rintro e w5 ⟨v23, rfl, ho, hb⟩
        obtain ⟨A23, c23, rfl⟩ := Kd.R_slice ho
        have HP : Aside0 (kI.R 2 w5 w1.heap.size (fun k => some k ≠ (Value.slice A6 ls.length c6).ownBlock ∧ some k ≠ (Value.slice A5 vs.length c5).ownBlock) (.slice A23 own.length c23) own) := ⟨Kd.R_lower (Kd.R_mono (Kd.R_newR (Kd.R_newR ho HV.out) HW.out) (fun _ h => ⟨h.2, h.1.2⟩)) HB2.out.size⟩
        have HFR := Aside0.mk (Kd.fresh_ok (Kd.R_below HW.out hb))
        replace HV := Aside0.mk (Kd.R_below HV.out hb)
        replace HW := Aside0.mk (Kd.R_below HW.out hb)
        replace HB2 := Aside0.mk (below_step HB2.out hb)
        clear hb ho hc
        go_wp2_with (at_builtin; go_must (refine app_rowO (w0 := w1) (fun k => some k ≠ (Value.slice A6 ls.length c6).ownBlock) rfl (.tmp 30) (.tmp 37) _ rfl Tryz.underlying41 infoR (.slice A5 vs.length c5) vs (.slice A23 own.length c23) own rfl rfl HP.out HFR.out HV.out HB2.out (by omega) ?_); intro v9 w9 ho hb hg hat; have H8 := Aside0.mk ho; have H9 := Aside0.mk (R_next HW.out hg hat); have HG9 := Aside0.mk hg; have HB9 := Aside0.mk hb; clear ho hg hat hb HP HFR HV HW)
        obtain ⟨A9, c9, rfl, hc9, hC9⟩ := Kd.R_reads H8.out
        clear hC9
        have hcx := (HB9.out.cell hlt1).trans Hc1.out
        have hCX := Kd.C_below HC1.out HB9.out
        have G1 := H1.below HB9.out hsz
        have HK2 := Aside0.mk (l09LeastR_calls P n A l.length c l A4 x.length c4 x w9.drew (Kd.C_drew (Kd.C_below HR.out (below_step HB.out HB9.out))) HL.out (Kd.C_drew hCX) (by omega) hp256 (by omega) HPX.out hlm hln)
        clear hCX
        obtain ⟨lst, hlst⟩ : ∃ lst, lst = ntR' (orbitS P n l x) := ⟨_, rfl⟩
        rw [← hlst] at HK2 HNW
        clear hlst
        have hvl2 : (vs ++ [own]).length ≤ 401 := by simp; omega
        obtain ⟨vs2, hvs2⟩ : ∃ vs2, vs2 = vs ++ [own] := ⟨_, rfl⟩
        rw [← hvs2] at H8 H9 HNV hc9 hvl2 ⊢
        clear hvs2
        go_wp2
        refine start_ (n := 10) (S := fun w' => At w' ⟨w.heap.size, 0, none⟩ #[.int .i64 P, .int .i64 n, .slice A l.length c] ∧ w'.cell? (ad.add i) = some (.slice A4 x.length c4)) (ds := []) #[Nn,Nn,Nn,Nn,Nn,Nn,Nn,Nn,Nn,Nn] (by kernel_rfl) rfl rfl ⟨G1.drew.at, hcx⟩ (fun hHeld => ?_)
        refine pure_ (i := 0) (N := some 39) (v := ?_) (a' := ?_) #[Yy,Nn,Nn,Nn,Nn,Nn,Nn,Nn,Nn,Nn] rfl rfl (by kernel_rfl) (fun _ _ _ h => h) (Or.inl ⟨by rfl, ?_⟩) ?_ ?_
        rotate_left
        · intro w'
          go_simp
          with_reducible rfl
        rotate_left
        · simp only [Act.put, List.setIfInBounds_toArray, List.set_cons_zero, List.set_cons_succ, i64_w, i32_w]
          rfl
        refine pure_ (i := 2) (N := some 41) (v := ?_) (a' := ?_) #[Yy,Nn,Yy,Nn,Nn,Nn,Nn,Nn,Nn,Nn] rfl rfl (by kernel_rfl) (fun _ _ _ h => h) (Or.inl ⟨by rfl, ?_⟩) ?_ ?_
        rotate_left
        · intro w'
          go_simp
          with_reducible rfl
        rotate_left
        · simp only [Act.put, List.setIfInBounds_toArray, List.set_cons_zero, List.set_cons_succ, i64_w, i32_w]
          rfl
        refine pure_ (i := 3) (N := some 42) (v := ?_) (a' := ?_) #[Yy,Nn,Yy,Yy,Nn,Nn,Nn,Nn,Nn,Nn] rfl rfl (by kernel_rfl) (fun _ _ _ h => h) (Or.inl ⟨by rfl, ?_⟩) ?_ ?_
        rotate_left
        · intro w'
          go_simp
          with_reducible rfl
        rotate_left
        · simp only [Act.put, List.setIfInBounds_toArray, List.set_cons_zero, List.set_cons_succ, i64_w, i32_w]
          rfl
        refine pure_ (i := 4) (N := some 43) (v := ?_) (a' := ?_) #[Yy,Nn,Yy,Yy,Yy,Nn,Nn,Nn,Nn,Nn] rfl rfl (by kernel_rfl) (fun _ _ _ h => h) (Or.inl ⟨by rfl, ?_⟩) ?_ ?_
        rotate_left
        · intro w'
          go_simp
          with_reducible rfl
        rotate_left
        · simp only [Act.put, List.setIfInBounds_toArray, List.set_cons_zero, List.set_cons_succ, i64_w, i32_w]
          rfl
        refine take_ (i := 1) (N := some 40) (v := ?_) (a' := ?_) #[Yy,Yy,Yy,Yy,Yy,Nn,Nn,Nn,Nn,Nn] rfl rfl (by kernel_rfl) (fun _ _ _ h => h) (Or.inl ⟨by rfl, ?_⟩) hHeld ?_ ?_
        rotate_left
        · rintro w' ⟨s0, s1⟩
          refine Eq.trans (run_op_load' s0 (by rfl) (by rfl) Tryz.underlying37 rfl sizeG) ?_
          with_reducible rfl
        rotate_left
        · simp only [Act.put, List.setIfInBounds_toArray, List.set_cons_zero, List.set_cons_succ, i64_w, i32_w]
          rfl
        refine take_ (i := 5) (N := some 44) (v := ?_) (a' := ?_) #[Yy,Yy,Yy,Yy,Yy,Yy,Nn,Nn,Nn,Nn] rfl rfl (by kernel_rfl) (fun _ _ _ h => h) (Or.inl ⟨by rfl, ?_⟩) hHeld ?_ ?_
        rotate_left
        · rintro w' ⟨s0, s1⟩
          go_simp
          with_reducible rfl
        rotate_left
        · simp only [Act.put, List.setIfInBounds_toArray, List.set_cons_zero, List.set_cons_succ, i64_w, i32_w]
          rfl
        refine one_ (i := 6) (N := some 45) #[Yy,Yy,Yy,Yy,Yy,Yy,Yy,Nn,Nn,Nn] rfl rfl (by kernel_rfl) (by decide) (fun K hK => ?_)
        refine goes_ Tryz.func91 (by kernel_rfl) rfl #[.agg #[.int .i64 P, .int .i64 n, .slice A l.length c], .slice A4 x.length c4] (by rfl) rfl rfl (by simp only [List.map_toArray, List.map_cons, List.map_nil]; rfl) ?_
        with_reducible refine (HK2.out).mono ?_
        rintro e w10 ⟨v45, rfl, ho, hb⟩
        refine ⟨_, rfl, ?_⟩
        obtain ⟨A10, c10, rfl⟩ := Kd.R_slice ho
        have HP : Aside0 (kI.R 2 w10 w1.heap.size (fun k => some k ≠ (Value.slice A9 vs2.length c9).ownBlock ∧ some k ≠ (Value.slice A6 ls.length c6).ownBlock) (.slice A10 lst.length c10) lst) := ⟨Kd.R_lower (Kd.R_mono (Kd.R_newR (Kd.R_newR ho (Kd.R_drew H9.out)) (Kd.R_drew H8.out)) (fun _ h => ⟨h.2, h.1.2⟩)) (below_drew1 HB9.out).size⟩
        have HFR := Aside0.mk (Kd.fresh_ok (Kd.R_below (Kd.R_drew H8.out) hb))
        replace H8 := Aside0.mk (Kd.R_below (Kd.R_drew H8.out) hb)
        replace H9 := Aside0.mk (Kd.R_below (Kd.R_drew H9.out) hb)
        replace G1 := G1.drew.keep hb
        replace hcx := (hb.cell (World.block_lt_of_cell? _ _ hcx)).trans hcx
        replace HB9 := Aside0.mk (below_step (below_drew1 HB9.out) hb)
        clear hb ho
        refine hK.out _ _ ⟨G1.at, hcx⟩ (fun hHeld => ?_)
        clear hK K
        refine norm_ (a' := ?_) ?_ ?_
        rotate_left
        · show Act.put _ (some 45) _ = _
          simp only [Act.put, List.setIfInBounds_toArray, List.set_cons_zero, List.set_cons_succ, i64_w, i32_w]
          rfl
        refine one_ (i := 7) (N := some 46) #[Yy,Yy,Yy,Yy,Yy,Yy,Yy,Yy,Nn,Nn] rfl rfl (by kernel_rfl) (by decide) (fun K hK => ?_)
        refine value_ (w1 := ?_) (v := ?_) (by rfl) rfl ?_ ?_
        rotate_left 2
        · go_simp
          constructor
          · rfl
          · rfl
        refine hK.out _ _ ⟨(G1.alloc _).at, ((below_alloc (Below.refl _ _) _).cell (World.block_lt_of_cell? _ _ hcx)).trans hcx⟩ (fun hHeld => ?_)
        clear hK K
        refine norm_ (a' := ?_) ?_ ?_
        rotate_left
        · show Act.put _ (some 46) _ = _
          simp only [Act.put, List.setIfInBounds_toArray, List.set_cons_zero, List.set_cons_succ, i64_w, i32_w]
          rfl
        refine one_ (i := 8) (N := some 47) #[Yy,Yy,Yy,Yy,Yy,Yy,Yy,Yy,Yy,Nn] rfl rfl (by kernel_rfl) (by decide) (fun K hK => ?_)
        refine app_rowO_step (w0 := w1) (fun k => some k ≠ (Value.slice A9 vs2.length c9).ownBlock) (by rfl) (.tmp 39) (.tmp 46) _ rfl Tryz.underlying41 infoR (.slice A6 ls.length c6) ls (.slice A10 lst.length c10) lst rfl rfl HP.out HFR.out H9.out HB9.out (by omega) ?_
        intro v11 w11 ho hb hg hat
        have HW := Aside0.mk ho
        have HV := Aside0.mk (R_next H8.out hg hat)
        replace HB9 := Aside0.mk hb
        clear ho hb hg hat
        refine hK.out _ _ ⟨(H1.below HB9.out hsz).at, (HB9.out.cell hlt1).trans Hc1.out⟩ (fun hHeld => ?_)
        clear hK K
        refine norm_ (a' := ?_) ?_ ?_
        rotate_left
        · show Act.put _ (some 47) _ = _
          simp only [Act.put, List.setIfInBounds_toArray, List.set_cons_zero, List.set_cons_succ, i64_w, i32_w]
          rfl
        refine pure_ (i := 9) (N := some 9) (v := ?_) (a' := ?_) #[Yy,Yy,Yy,Yy,Yy,Yy,Yy,Yy,Yy,Yy] rfl rfl (by kernel_rfl) (fun _ _ _ h => h) (Or.inl ⟨by rfl, ?_⟩) ?_ ?_
        rotate_left
        · intro w'
          go_simp
          with_reducible rfl
        rotate_left
        · simp only [Act.put, List.setIfInBounds_toArray, List.set_cons_zero, List.set_cons_succ, i64_w, i32_w]
          rfl
        refine done_ (by kernel_rfl) ?_
        go_wp2
        go_roundw
        case rel => exact ⟨i + 1, by go_num, by omega, ⟨by rw [HNV.out]; exact HV.out⟩, ⟨by rw [HNW.out]; exact HW.out⟩, HB9⟩
        case measure => simp [intOf]; omega
      · obtain rfl : i = pts.length := by omega
        rw [List.take_length] at HV HW
        have HVE : Aside0 (∀ j < pts.length, ntR (pts.map (valsV ps)) j = valsV ps (ntR pts j)) := ⟨fun j hj => by rw [ntR_eq _ j (by rw [List.length_map]; exact hj), List.getElem_map, ntR_eq _ j hj]⟩
        have HWE : Aside0 (∀ j < pts.length, ntR (pts.map fun x => ntR' (orbitS P n l x)) j = ntR' (orbitS P n l (ntR pts j))) := ⟨fun j hj => by rw [ntR_eq _ j (by rw [List.length_map]; exact hj), List.getElem_map, ntR_eq _ j hj]⟩
        have HLE : Aside0 (∀ j < pts.length, (ntR' (orbitS P n l (ntR pts j))).length = n) := ⟨fun j hj => by
          have h1 := orbitS_neZ (p := (P : Int)) (n := n) (x := ntR pts j) hln
          obtain ⟨m, hm, e⟩ := orbitS_mem.1 (ntR_mem _ 0 h1)
          rw [show ntR' (orbitS P n l (ntR pts j)) = ntR (orbitS P n l (ntR pts j)) 0 from rfl, e]
          simp [leadV]⟩
        have hvl : (pts.map (valsV ps)).length = pts.length := List.length_map ..
        have hwl : (pts.map fun x => ntR' (orbitS P n l x)).length = pts.length := List.length_map ..
        obtain ⟨vs, hvs⟩ : ∃ vs, vs = pts.map (valsV ps) := ⟨_, rfl⟩
        obtain ⟨ls, hls⟩ : ∃ ls, ls = pts.map fun x => ntR' (orbitS P n l x) := ⟨_, rfl⟩
        rw [← hvs] at HV HVE hvl
        rw [← hls] at HW HWE hwl
        clear hvs hls
        obtain ⟨A5, c5, rfl, hc5, hC5⟩ := Kd.R_reads HV.out
        obtain ⟨A6, c6, rfl, hc6, hC6⟩ := Kd.R_reads HW.out
        have HC5 := Aside0.mk hC5
        have HC6 := Aside0.mk hC6
        have hvl2 : pts.length ≤ vs.length := by omega
        have hwl2 : pts.length ≤ ls.length := by omega
        clear hC5 hC6 HV HW hvl hwl
        go_wp2
        go_loopw [11, 12] (fun v11 v12 wr => ∃ i : Nat, v11 = .int .i64 i ∧ i ≤ pts.length ∧ Aside0 (∀ a < i, ∀ k < a, valsV ps (ntR pts a) = valsV ps (ntR pts k) → ntR' (orbitS P n l (ntR pts a)) = ntR' (orbitS P n l (ntR pts k))) ∧ Drawn0 wo wr) (fun v11 _ _ => pts.length - (intOf v11).toNat)
        case atStart => exact ⟨0, rfl, by omega, ⟨fun a ha => by omega⟩, Drawn0.refl _⟩
        case round =>
          obtain ⟨i, rfl, hi2, HE, ⟨m0, rfl⟩⟩ := hrel
          by_cases hlt2 : i < pts.length
          · obtain ⟨ad5, B1, b1, r1, hr1, had1, hcc1, _, hD1⟩ := at_row HC5.out i (by omega)
            obtain ⟨ad6, B3, b3, r3, hr3, had3, hcc3, _, hD3⟩ := at_row HC6.out i (by omega)
            subst had1 had3
            have hrr1 := hr1.trans (HVE.out i hlt2)
            have hrr3 := hr3.trans (HWE.out i hlt2)
            have HL1 : Aside0 (r1.length = ps.length) := ⟨by rw [hrr1, valsV_len]⟩
            have HL3 : Aside0 (r3.length = n) := ⟨by rw [hrr3]; exact HLE.out i hlt2⟩
            have HD1 := Aside0.mk hD1
            have HD3 := Aside0.mk hD3
            have HR1' := Aside0.mk hrr1
            have HR3' := Aside0.mk hrr3
            clear hr1 hr3 hrr1 hrr3 hD1 hD3
            have hd3 : decide ((i : Int) < pts.length) = true := decide_eq_true (by omega)
            go_wp2
            go_loopw [12] (fun v12 wr2 => ∃ k : Nat, v12 = .int .i64 k ∧ k ≤ i ∧ Aside0 (∀ k' < k, r1 = valsV ps (ntR pts k') → r3 = ntR' (orbitS P n l (ntR pts k'))) ∧ Drawn0 wo wr2) (fun v12 _ => i - (intOf v12).toNat)
            case atStart => exact ⟨0, rfl, by omega, ⟨fun a ha => by omega⟩, (by repeat (first | exact Drawn0.refl _ | apply Drawn0.step))⟩
            case round =>
              obtain ⟨k, rfl, hk, HE2, ⟨m2, rfl⟩⟩ := hrel
              by_cases hkl : k < i
              · obtain ⟨ad5', B2, b2, r2, hr2, had2, hcc2, _, hD2⟩ := at_row HC5.out k (by omega)
                obtain ⟨ad6', B4, b4, r4, hr4, had4, hcc4, _, hD4⟩ := at_row HC6.out k (by omega)
                cases had2
                cases had4
                have hrr2 := hr2.trans (HVE.out k (by omega))
                have hrr4 := hr4.trans (HWE.out k (by omega))
                have HL2 : Aside0 (r1.length = r2.length) := ⟨by rw [hrr2, valsV_len]; exact HL1.out⟩
                have HL4 : Aside0 (r3.length = r4.length) := ⟨by rw [hrr4, HLE.out k (by omega)]; exact HL3.out⟩
                have HD2 := Aside0.mk hD2
                have HD4 := Aside0.mk hD4
                have HR2' := Aside0.mk hrr2
                have HR4' := Aside0.mk hrr4
                clear hr2 hr4 hrr2 hrr4 hD2 hD4
                have hd4 : decide ((k : Int) < i) = true := decide_eq_true (by omega)
                have q1 : i < vs.length := by omega
                have q2 : k < vs.length := by omega
                have q3 : i < ls.length := by omega
                have q4 : k < ls.length := by omega
                cases hsb : sameB r1 r2
                · have HSB := Aside0.mk hsb
                  clear hsb
                  go_wp2
                  refine start_ (n := 21) (S := fun w' => w'.cell? (ad5.add i) = some (.slice B1 r1.length b1) ∧ w'.cell? (ad5.add k) = some (.slice B2 r2.length b2)) (ds := []) #[Nn,Nn,Nn,Nn,Nn,Nn,Nn,Nn,Nn,Nn,Nn,Nn,Nn,Nn,Nn,Nn,Nn,Nn,Nn,Nn,Nn] (by kernel_rfl) rfl rfl ⟨hcc1, hcc2⟩ (fun hHeld => ?_)
                  refine pure_ (i := 0) (N := some 59) (v := ?_) (a' := ?_) #[Yy,Nn,Nn,Nn,Nn,Nn,Nn,Nn,Nn,Nn,Nn,Nn,Nn,Nn,Nn,Nn,Nn,Nn,Nn,Nn,Nn] rfl rfl (by kernel_rfl) (fun _ _ _ h => h) (Or.inl ⟨by rfl, ?_⟩) ?_ ?_
                  rotate_left
                  · intro w'
                    go_simp
                    with_reducible rfl
                  rotate_left
                  · simp only [Act.put, List.setIfInBounds_toArray, List.set_cons_zero, List.set_cons_succ, i64_w, i32_w]
                    rfl
                  refine pure_ (i := 1) (N := some 60) (v := ?_) (a' := ?_) #[Yy,Yy,Nn,Nn,Nn,Nn,Nn,Nn,Nn,Nn,Nn,Nn,Nn,Nn,Nn,Nn,Nn,Nn,Nn,Nn,Nn] rfl rfl (by kernel_rfl) (fun _ _ _ h => h) (Or.inl ⟨by rfl, ?_⟩) ?_ ?_
                  rotate_left
                  · intro w'
                    go_simp
                    with_reducible rfl
                  rotate_left
                  · simp only [Act.put, List.setIfInBounds_toArray, List.set_cons_zero, List.set_cons_succ, i64_w, i32_w]
                    rfl
                  refine pure_ (i := 2) (N := some 61) (v := ?_) (a' := ?_) #[Yy,Yy,Yy,Nn,Nn,Nn,Nn,Nn,Nn,Nn,Nn,Nn,Nn,Nn,Nn,Nn,Nn,Nn,Nn,Nn,Nn] rfl rfl (by kernel_rfl) (fun _ _ _ h => h) (Or.inl ⟨by rfl, ?_⟩) ?_ ?_
                  rotate_left
                  · intro w'
                    go_simp
                    with_reducible rfl
                  rotate_left
                  · simp only [Act.put, List.setIfInBounds_toArray, List.set_cons_zero, List.set_cons_succ, i64_w, i32_w]
                    rfl
                  refine pure_ (i := 4) (N := some 63) (v := ?_) (a' := ?_) #[Yy,Yy,Yy,Nn,Yy,Nn,Nn,Nn,Nn,Nn,Nn,Nn,Nn,Nn,Nn,Nn,Nn,Nn,Nn,Nn,Nn] rfl rfl (by kernel_rfl) (fun _ _ _ h => h) (Or.inl ⟨by rfl, ?_⟩) ?_ ?_
                  rotate_left
                  · intro w'
                    go_simp
                    with_reducible rfl
                  rotate_left
                  · simp only [Act.put, List.setIfInBounds_toArray, List.set_cons_zero, List.set_cons_succ, i64_w, i32_w]
                    rfl
                  refine pure_ (i := 5) (N := some 64) (v := ?_) (a' := ?_) #[Yy,Yy,Yy,Nn,Yy,Yy,Nn,Nn,Nn,Nn,Nn,Nn,Nn,Nn,Nn,Nn,Nn,Nn,Nn,Nn,Nn] rfl rfl (by kernel_rfl) (fun _ _ _ h => h) (Or.inl ⟨by rfl, ?_⟩) ?_ ?_
                  rotate_left
                  · intro w'
                    go_simp
                    with_reducible rfl
                  rotate_left
                  · simp only [Act.put, List.setIfInBounds_toArray, List.set_cons_zero, List.set_cons_succ, i64_w, i32_w]
                    rfl
                  refine pure_ (i := 6) (N := some 65) (v := ?_) (a' := ?_) #[Yy,Yy,Yy,Nn,Yy,Yy,Yy,Nn,Nn,Nn,Nn,Nn,Nn,Nn,Nn,Nn,Nn,Nn,Nn,Nn,Nn] rfl rfl (by kernel_rfl) (fun _ _ _ h => h) (Or.inl ⟨by rfl, ?_⟩) ?_ ?_
                  rotate_left
                  · intro w'
                    go_simp
                    with_reducible rfl
                  rotate_left
                  · simp only [Act.put, List.setIfInBounds_toArray, List.set_cons_zero, List.set_cons_succ, i64_w, i32_w]
                    rfl
                  refine take_ (i := 3) (N := some 62) (v := ?_) (a' := ?_) #[Yy,Yy,Yy,Yy,Yy,Yy,Yy,Nn,Nn,Nn,Nn,Nn,Nn,Nn,Nn,Nn,Nn,Nn,Nn,Nn,Nn] rfl rfl (by kernel_rfl) (fun _ _ _ h => h) (Or.inl ⟨by rfl, ?_⟩) hHeld ?_ ?_
                  rotate_left
                  · rintro w' ⟨s0, s1⟩
                    go_simp
                    with_reducible rfl
                  rotate_left
                  · simp only [Act.put, List.setIfInBounds_toArray, List.set_cons_zero, List.set_cons_succ, i64_w, i32_w]
                    rfl
                  refine take_ (i := 7) (N := some 66) (v := ?_) (a' := ?_) #[Yy,Yy,Yy,Yy,Yy,Yy,Yy,Yy,Nn,Nn,Nn,Nn,Nn,Nn,Nn,Nn,Nn,Nn,Nn,Nn,Nn] rfl rfl (by kernel_rfl) (fun _ _ _ h => h) (Or.inl ⟨by rfl, ?_⟩) hHeld ?_ ?_
                  rotate_left
                  · rintro w' ⟨s0, s1⟩
                    go_simp
                    with_reducible rfl
                  rotate_left
                  · simp only [Act.put, List.setIfInBounds_toArray, List.set_cons_zero, List.set_cons_succ, i64_w, i32_w]
                    rfl
                  refine one_ (i := 8) (N := some 67) #[Yy,Yy,Yy,Yy,Yy,Yy,Yy,Yy,Yy,Nn,Nn,Nn,Nn,Nn,Nn,Nn,Nn,Nn,Nn,Nn,Nn] rfl rfl (by kernel_rfl) (by decide) (fun K hK => ?_)
                  refine goes_ Tryz.func88 (by kernel_rfl) rfl #[.slice B1 r1.length b1, .slice B2 r2.length b2] (by rfl) rfl rfl (by simp only [List.map_toArray, List.map_cons, List.map_nil]; rfl) ?_
                  with_reducible refine (l09Same_is B1 r1.length b1 r1 B2 r2.length b2 r2 _ (Kd.C_drew (Kd.C_drewN HD1.out _)) (Kd.C_drew (Kd.C_drewN HD2.out _)) HL2.out HSB.out).mono ?_
                  rintro e w7 ⟨rfl, ⟨m7, rfl⟩⟩
                  refine ⟨_, rfl, ?_⟩
                  refine hK.out _ _ ⟨hcc1, hcc2⟩ (fun hHeld => ?_)
                  clear hK K
                  refine norm_ (a' := ?_) ?_ ?_
                  rotate_left
                  · show Act.put _ (some 67) _ = _
                    simp only [Act.put, List.setIfInBounds_toArray, List.set_cons_zero, List.set_cons_succ, i64_w, i32_w]
                    rfl
                  refine pure_ (i := 9) (N := some 68) (v := ?_) (a' := ?_) #[Yy,Yy,Yy,Yy,Yy,Yy,Yy,Yy,Yy,Yy,Nn,Nn,Nn,Nn,Nn,Nn,Nn,Nn,Nn,Nn,Nn] rfl rfl (by kernel_rfl) (fun _ _ _ h => h) (Or.inl ⟨by rfl, ?_⟩) ?_ ?_
                  rotate_left
                  · intro w'
                    go_simp
                    with_reducible rfl
                  rotate_left
                  · simp only [Act.put, List.setIfInBounds_toArray, List.set_cons_zero, List.set_cons_succ, i64_w, i32_w]
                    rfl
                  refine pure_ (i := 10) (N := some 69) (v := undef) (a' := ?_) #[Yy,Yy,Yy,Yy,Yy,Yy,Yy,Yy,Yy,Yy,Yy,Nn,Nn,Nn,Nn,Nn,Nn,Nn,Nn,Nn,Nn] rfl rfl (by kernel_rfl) (fun _ _ _ h => h) (Or.inr ⟨by rfl, rfl⟩) ?_ ?_
                  rotate_left
                  · simp only [Act.put, List.setIfInBounds_toArray, List.set_cons_zero, List.set_cons_succ, i64_w, i32_w]
                    rfl
                  refine pure_ (i := 11) (N := some 70) (v := undef) (a' := ?_) #[Yy,Yy,Yy,Yy,Yy,Yy,Yy,Yy,Yy,Yy,Yy,Yy,Nn,Nn,Nn,Nn,Nn,Nn,Nn,Nn,Nn] rfl rfl (by kernel_rfl) (fun _ _ _ h => h) (Or.inr ⟨by rfl, rfl⟩) ?_ ?_
                  rotate_left
                  · simp only [Act.put, List.setIfInBounds_toArray, List.set_cons_zero, List.set_cons_succ, i64_w, i32_w]
                    rfl
                  refine pure_ (i := 12) (N := some 71) (v := undef) (a' := ?_) #[Yy,Yy,Yy,Yy,Yy,Yy,Yy,Yy,Yy,Yy,Yy,Yy,Yy,Nn,Nn,Nn,Nn,Nn,Nn,Nn,Nn] rfl rfl (by kernel_rfl) (fun _ _ _ h => h) (Or.inr ⟨by rfl, rfl⟩) ?_ ?_
                  rotate_left
                  · simp only [Act.put, List.setIfInBounds_toArray, List.set_cons_zero, List.set_cons_succ, i64_w, i32_w]
                    rfl
                  refine pure_ (i := 13) (N := some 72) (v := undef) (a' := ?_) #[Yy,Yy,Yy,Yy,Yy,Yy,Yy,Yy,Yy,Yy,Yy,Yy,Yy,Yy,Nn,Nn,Nn,Nn,Nn,Nn,Nn] rfl rfl (by kernel_rfl) (fun _ _ _ h => h) (Or.inr ⟨by rfl, rfl⟩) ?_ ?_
                  rotate_left
                  · simp only [Act.put, List.setIfInBounds_toArray, List.set_cons_zero, List.set_cons_succ, i64_w, i32_w]
                    rfl
                  refine pure_ (i := 14) (N := some 73) (v := undef) (a' := ?_) #[Yy,Yy,Yy,Yy,Yy,Yy,Yy,Yy,Yy,Yy,Yy,Yy,Yy,Yy,Yy,Nn,Nn,Nn,Nn,Nn,Nn] rfl rfl (by kernel_rfl) (fun _ _ _ h => h) (Or.inr ⟨by rfl, rfl⟩) ?_ ?_
                  rotate_left
                  · simp only [Act.put, List.setIfInBounds_toArray, List.set_cons_zero, List.set_cons_succ, i64_w, i32_w]
                    rfl
                  refine pure_ (i := 15) (N := some 74) (v := undef) (a' := ?_) #[Yy,Yy,Yy,Yy,Yy,Yy,Yy,Yy,Yy,Yy,Yy,Yy,Yy,Yy,Yy,Yy,Nn,Nn,Nn,Nn,Nn] rfl rfl (by kernel_rfl) (fun _ _ _ h => h) (Or.inr ⟨by rfl, rfl⟩) ?_ ?_
                  rotate_left
                  · simp only [Act.put, List.setIfInBounds_toArray, List.set_cons_zero, List.set_cons_succ, i64_w, i32_w]
                    rfl
                  refine pure_ (i := 16) (N := some 75) (v := undef) (a' := ?_) #[Yy,Yy,Yy,Yy,Yy,Yy,Yy,Yy,Yy,Yy,Yy,Yy,Yy,Yy,Yy,Yy,Yy,Nn,Nn,Nn,Nn] rfl rfl (by kernel_rfl) (fun _ _ _ h => h) (Or.inr ⟨by rfl, rfl⟩) ?_ ?_
                  rotate_left
                  · simp only [Act.put, List.setIfInBounds_toArray, List.set_cons_zero, List.set_cons_succ, i64_w, i32_w]
                    rfl
                  refine pure_ (i := 17) (N := some 76) (v := undef) (a' := ?_) #[Yy,Yy,Yy,Yy,Yy,Yy,Yy,Yy,Yy,Yy,Yy,Yy,Yy,Yy,Yy,Yy,Yy,Yy,Nn,Nn,Nn] rfl rfl (by kernel_rfl) (fun _ _ _ h => h) (Or.inr ⟨by rfl, rfl⟩) ?_ ?_
                  rotate_left
                  · simp only [Act.put, List.setIfInBounds_toArray, List.set_cons_zero, List.set_cons_succ, i64_w, i32_w]
                    rfl
                  refine pure_ (i := 18) (N := some 77) (v := undef) (a' := ?_) #[Yy,Yy,Yy,Yy,Yy,Yy,Yy,Yy,Yy,Yy,Yy,Yy,Yy,Yy,Yy,Yy,Yy,Yy,Yy,Nn,Nn] rfl rfl (by kernel_rfl) (fun _ _ _ h => h) (Or.inr ⟨by rfl, rfl⟩) ?_ ?_
                  rotate_left
                  · simp only [Act.put, List.setIfInBounds_toArray, List.set_cons_zero, List.set_cons_succ, i64_w, i32_w]
                    rfl
                  refine pure_ (i := 19) (N := some 78) (v := undef) (a' := ?_) #[Yy,Yy,Yy,Yy,Yy,Yy,Yy,Yy,Yy,Yy,Yy,Yy,Yy,Yy,Yy,Yy,Yy,Yy,Yy,Yy,Nn] rfl rfl (by kernel_rfl) (fun _ _ _ h => h) (Or.inr ⟨by rfl, rfl⟩) ?_ ?_
                  rotate_left
                  · simp only [Act.put, List.setIfInBounds_toArray, List.set_cons_zero, List.set_cons_succ, i64_w, i32_w]
                    rfl
                  refine pure_ (i := 20) (N := some 79) (v := ?_) (a' := ?_) #[Yy,Yy,Yy,Yy,Yy,Yy,Yy,Yy,Yy,Yy,Yy,Yy,Yy,Yy,Yy,Yy,Yy,Yy,Yy,Yy,Yy] rfl rfl (by kernel_rfl) (fun _ _ _ h => h) (Or.inl ⟨by rfl, ?_⟩) ?_ ?_
                  rotate_left
                  · intro w'
                    go_simp
                    with_reducible rfl
                  rotate_left
                  · simp only [Act.put, List.setIfInBounds_toArray, List.set_cons_zero, List.set_cons_succ, i64_w, i32_w]
                    rfl
                  refine done_ (by kernel_rfl) ?_
                  go_wp2
                  go_roundw
                  case rel => exact ⟨k + 1, by go_num, by omega, ⟨fun k' hk' e => by
                    rcases Nat.lt_succ_iff_lt_or_eq.1 hk' with h | h
                    · exact HE2.out k' h e
                    · subst h; exact absurd (e.trans HR2'.out.symm) (of_decide_eq_false HSB.out)⟩, (by repeat (first | exact Drawn0.refl _ | apply Drawn0.step))⟩
                  case measure => simp [intOf]; omega
                · have HSB := Aside0.mk hsb
                  clear hsb
                  cases hsl : sameB r3 r4
                  · have HSL := Aside0.mk hsl
                    have HF : Aside0 (sepsR P n l ps = (false, 0)) := ⟨HN.out false (sepsB_false (i := i) (k := k) hlt2 (by omega) (by rw [← HR1'.out, ← HR2'.out]; exact of_decide_eq_true HSB.out) (by rw [← HR3'.out, ← HR4'.out]; exact of_decide_eq_false HSL.out))⟩
                    clear hsl
                    go_wp2
                    refine start_ (n := 21) (S := fun w' => w'.cell? (ad5.add i) = some (.slice B1 r1.length b1) ∧ w'.cell? (ad5.add k) = some (.slice B2 r2.length b2) ∧ w'.cell? (ad6.add i) = some (.slice B3 r3.length b3) ∧ w'.cell? (ad6.add k) = some (.slice B4 r4.length b4)) (ds := []) #[Nn,Nn,Nn,Nn,Nn,Nn,Nn,Nn,Nn,Nn,Nn,Nn,Nn,Nn,Nn,Nn,Nn,Nn,Nn,Nn,Nn] (by kernel_rfl) rfl rfl ⟨hcc1, hcc2, hcc3, hcc4⟩ (fun hHeld => ?_)
                    refine pure_ (i := 0) (N := some 59) (v := ?_) (a' := ?_) #[Yy,Nn,Nn,Nn,Nn,Nn,Nn,Nn,Nn,Nn,Nn,Nn,Nn,Nn,Nn,Nn,Nn,Nn,Nn,Nn,Nn] rfl rfl (by kernel_rfl) (fun _ _ _ h => h) (Or.inl ⟨by rfl, ?_⟩) ?_ ?_
                    rotate_left
                    · intro w'
                      go_simp
                      with_reducible rfl
                    rotate_left
                    · simp only [Act.put, List.setIfInBounds_toArray, List.set_cons_zero, List.set_cons_succ, i64_w, i32_w]
                      rfl
                    refine pure_ (i := 1) (N := some 60) (v := ?_) (a' := ?_) #[Yy,Yy,Nn,Nn,Nn,Nn,Nn,Nn,Nn,Nn,Nn,Nn,Nn,Nn,Nn,Nn,Nn,Nn,Nn,Nn,Nn] rfl rfl (by kernel_rfl) (fun _ _ _ h => h) (Or.inl ⟨by rfl, ?_⟩) ?_ ?_
                    rotate_left
                    · intro w'
                      go_simp
                      with_reducible rfl
                    rotate_left
                    · simp only [Act.put, List.setIfInBounds_toArray, List.set_cons_zero, List.set_cons_succ, i64_w, i32_w]
                      rfl
                    refine pure_ (i := 2) (N := some 61) (v := ?_) (a' := ?_) #[Yy,Yy,Yy,Nn,Nn,Nn,Nn,Nn,Nn,Nn,Nn,Nn,Nn,Nn,Nn,Nn,Nn,Nn,Nn,Nn,Nn] rfl rfl (by kernel_rfl) (fun _ _ _ h => h) (Or.inl ⟨by rfl, ?_⟩) ?_ ?_
                    rotate_left
                    · intro w'
                      go_simp
                      with_reducible rfl
                    rotate_left
                    · simp only [Act.put, List.setIfInBounds_toArray, List.set_cons_zero, List.set_cons_succ, i64_w, i32_w]
                      rfl
                    refine pure_ (i := 4) (N := some 63) (v := ?_) (a' := ?_) #[Yy,Yy,Yy,Nn,Yy,Nn,Nn,Nn,Nn,Nn,Nn,Nn,Nn,Nn,Nn,Nn,Nn,Nn,Nn,Nn,Nn] rfl rfl (by kernel_rfl) (fun _ _ _ h => h) (Or.inl ⟨by rfl, ?_⟩) ?_ ?_
                    rotate_left
                    · intro w'
                      go_simp
                      with_reducible rfl
                    rotate_left
                    · simp only [Act.put, List.setIfInBounds_toArray, List.set_cons_zero, List.set_cons_succ, i64_w, i32_w]
                      rfl
                    refine pure_ (i := 5) (N := some 64) (v := ?_) (a' := ?_) #[Yy,Yy,Yy,Nn,Yy,Yy,Nn,Nn,Nn,Nn,Nn,Nn,Nn,Nn,Nn,Nn,Nn,Nn,Nn,Nn,Nn] rfl rfl (by kernel_rfl) (fun _ _ _ h => h) (Or.inl ⟨by rfl, ?_⟩) ?_ ?_
                    rotate_left
                    · intro w'
                      go_simp
                      with_reducible rfl
                    rotate_left
                    · simp only [Act.put, List.setIfInBounds_toArray, List.set_cons_zero, List.set_cons_succ, i64_w, i32_w]
                      rfl
                    refine pure_ (i := 6) (N := some 65) (v := ?_) (a' := ?_) #[Yy,Yy,Yy,Nn,Yy,Yy,Yy,Nn,Nn,Nn,Nn,Nn,Nn,Nn,Nn,Nn,Nn,Nn,Nn,Nn,Nn] rfl rfl (by kernel_rfl) (fun _ _ _ h => h) (Or.inl ⟨by rfl, ?_⟩) ?_ ?_
                    rotate_left
                    · intro w'
                      go_simp
                      with_reducible rfl
                    rotate_left
                    · simp only [Act.put, List.setIfInBounds_toArray, List.set_cons_zero, List.set_cons_succ, i64_w, i32_w]
                      rfl
                    refine take_ (i := 3) (N := some 62) (v := ?_) (a' := ?_) #[Yy,Yy,Yy,Yy,Yy,Yy,Yy,Nn,Nn,Nn,Nn,Nn,Nn,Nn,Nn,Nn,Nn,Nn,Nn,Nn,Nn] rfl rfl (by kernel_rfl) (fun _ _ _ h => h) (Or.inl ⟨by rfl, ?_⟩) hHeld ?_ ?_
                    rotate_left
                    · rintro w' ⟨s0, s1, s2, s3⟩
                      go_simp
                      with_reducible rfl
                    rotate_left
                    · simp only [Act.put, List.setIfInBounds_toArray, List.set_cons_zero, List.set_cons_succ, i64_w, i32_w]
                      rfl
                    refine take_ (i := 7) (N := some 66) (v := ?_) (a' := ?_) #[Yy,Yy,Yy,Yy,Yy,Yy,Yy,Yy,Nn,Nn,Nn,Nn,Nn,Nn,Nn,Nn,Nn,Nn,Nn,Nn,Nn] rfl rfl (by kernel_rfl) (fun _ _ _ h => h) (Or.inl ⟨by rfl, ?_⟩) hHeld ?_ ?_
                    rotate_left
                    · rintro w' ⟨s0, s1, s2, s3⟩
                      go_simp
                      with_reducible rfl
                    rotate_left
                    · simp only [Act.put, List.setIfInBounds_toArray, List.set_cons_zero, List.set_cons_succ, i64_w, i32_w]
                      rfl
                    refine one_ (i := 8) (N := some 67) #[Yy,Yy,Yy,Yy,Yy,Yy,Yy,Yy,Yy,Nn,Nn,Nn,Nn,Nn,Nn,Nn,Nn,Nn,Nn,Nn,Nn] rfl rfl (by kernel_rfl) (by decide) (fun K hK => ?_)
                    refine goes_ Tryz.func88 (by kernel_rfl) rfl #[.slice B1 r1.length b1, .slice B2 r2.length b2] (by rfl) rfl rfl (by simp only [List.map_toArray, List.map_cons, List.map_nil]; rfl) ?_
                    with_reducible refine (l09Same_is B1 r1.length b1 r1 B2 r2.length b2 r2 _ (Kd.C_drew (Kd.C_drewN HD1.out _)) (Kd.C_drew (Kd.C_drewN HD2.out _)) HL2.out HSB.out).mono ?_
                    rintro e w7 ⟨rfl, ⟨m7, rfl⟩⟩
                    refine ⟨_, rfl, ?_⟩
                    refine hK.out _ _ ⟨hcc1, hcc2, hcc3, hcc4⟩ (fun hHeld => ?_)
                    clear hK K
                    refine norm_ (a' := ?_) ?_ ?_
                    rotate_left
                    · show Act.put _ (some 67) _ = _
                      simp only [Act.put, List.setIfInBounds_toArray, List.set_cons_zero, List.set_cons_succ, i64_w, i32_w]
                      rfl
                    refine pure_ (i := 9) (N := some 68) (v := ?_) (a' := ?_) #[Yy,Yy,Yy,Yy,Yy,Yy,Yy,Yy,Yy,Yy,Nn,Nn,Nn,Nn,Nn,Nn,Nn,Nn,Nn,Nn,Nn] rfl rfl (by kernel_rfl) (fun _ _ _ h => h) (Or.inl ⟨by rfl, ?_⟩) ?_ ?_
                    rotate_left
                    · intro w'
                      go_simp
                      with_reducible rfl
                    rotate_left
                    · simp only [Act.put, List.setIfInBounds_toArray, List.set_cons_zero, List.set_cons_succ, i64_w, i32_w]
                      rfl
                    refine pure_ (i := 10) (N := some 69) (v := ?_) (a' := ?_) #[Yy,Yy,Yy,Yy,Yy,Yy,Yy,Yy,Yy,Yy,Yy,Nn,Nn,Nn,Nn,Nn,Nn,Nn,Nn,Nn,Nn] rfl rfl (by kernel_rfl) (fun _ _ _ h => h) (Or.inl ⟨by rfl, ?_⟩) ?_ ?_
                    rotate_left
                    · intro w'
                      go_simp
                      with_reducible rfl
                    rotate_left
                    · simp only [Act.put, List.setIfInBounds_toArray, List.set_cons_zero, List.set_cons_succ, i64_w, i32_w]
                      rfl
                    refine pure_ (i := 11) (N := some 70) (v := ?_) (a' := ?_) #[Yy,Yy,Yy,Yy,Yy,Yy,Yy,Yy,Yy,Yy,Yy,Yy,Nn,Nn,Nn,Nn,Nn,Nn,Nn,Nn,Nn] rfl rfl (by kernel_rfl) (fun _ _ _ h => h) (Or.inl ⟨by rfl, ?_⟩) ?_ ?_
                    rotate_left
                    · intro w'
                      go_simp
                      with_reducible rfl
                    rotate_left
                    · simp only [Act.put, List.setIfInBounds_toArray, List.set_cons_zero, List.set_cons_succ, i64_w, i32_w]
                      rfl
                    refine pure_ (i := 12) (N := some 71) (v := ?_) (a' := ?_) #[Yy,Yy,Yy,Yy,Yy,Yy,Yy,Yy,Yy,Yy,Yy,Yy,Yy,Nn,Nn,Nn,Nn,Nn,Nn,Nn,Nn] rfl rfl (by kernel_rfl) (fun _ _ _ h => h) (Or.inl ⟨by rfl, ?_⟩) ?_ ?_
                    rotate_left
                    · intro w'
                      go_simp
                      with_reducible rfl
                    rotate_left
                    · simp only [Act.put, List.setIfInBounds_toArray, List.set_cons_zero, List.set_cons_succ, i64_w, i32_w]
                      rfl
                    refine pure_ (i := 14) (N := some 73) (v := ?_) (a' := ?_) #[Yy,Yy,Yy,Yy,Yy,Yy,Yy,Yy,Yy,Yy,Yy,Yy,Yy,Nn,Yy,Nn,Nn,Nn,Nn,Nn,Nn] rfl rfl (by kernel_rfl) (fun _ _ _ h => h) (Or.inl ⟨by rfl, ?_⟩) ?_ ?_
                    rotate_left
                    · intro w'
                      go_simp
                      with_reducible rfl
                    rotate_left
                    · simp only [Act.put, List.setIfInBounds_toArray, List.set_cons_zero, List.set_cons_succ, i64_w, i32_w]
                      rfl
                    refine pure_ (i := 15) (N := some 74) (v := ?_) (a' := ?_) #[Yy,Yy,Yy,Yy,Yy,Yy,Yy,Yy,Yy,Yy,Yy,Yy,Yy,Nn,Yy,Yy,Nn,Nn,Nn,Nn,Nn] rfl rfl (by kernel_rfl) (fun _ _ _ h => h) (Or.inl ⟨by rfl, ?_⟩) ?_ ?_
                    rotate_left
                    · intro w'
                      go_simp
                      with_reducible rfl
                    rotate_left
                    · simp only [Act.put, List.setIfInBounds_toArray, List.set_cons_zero, List.set_cons_succ, i64_w, i32_w]
                      rfl
                    refine pure_ (i := 16) (N := some 75) (v := ?_) (a' := ?_) #[Yy,Yy,Yy,Yy,Yy,Yy,Yy,Yy,Yy,Yy,Yy,Yy,Yy,Nn,Yy,Yy,Yy,Nn,Nn,Nn,Nn] rfl rfl (by kernel_rfl) (fun _ _ _ h => h) (Or.inl ⟨by rfl, ?_⟩) ?_ ?_
                    rotate_left
                    · intro w'
                      go_simp
                      with_reducible rfl
                    rotate_left
                    · simp only [Act.put, List.setIfInBounds_toArray, List.set_cons_zero, List.set_cons_succ, i64_w, i32_w]
                      rfl
                    refine take_ (i := 13) (N := some 72) (v := ?_) (a' := ?_) #[Yy,Yy,Yy,Yy,Yy,Yy,Yy,Yy,Yy,Yy,Yy,Yy,Yy,Yy,Yy,Yy,Yy,Nn,Nn,Nn,Nn] rfl rfl (by kernel_rfl) (fun _ _ _ h => h) (Or.inl ⟨by rfl, ?_⟩) hHeld ?_ ?_
                    rotate_left
                    · rintro w' ⟨s0, s1, s2, s3⟩
                      go_simp
                      with_reducible rfl
                    rotate_left
                    · simp only [Act.put, List.setIfInBounds_toArray, List.set_cons_zero, List.set_cons_succ, i64_w, i32_w]
                      rfl
                    refine take_ (i := 17) (N := some 76) (v := ?_) (a' := ?_) #[Yy,Yy,Yy,Yy,Yy,Yy,Yy,Yy,Yy,Yy,Yy,Yy,Yy,Yy,Yy,Yy,Yy,Yy,Nn,Nn,Nn] rfl rfl (by kernel_rfl) (fun _ _ _ h => h) (Or.inl ⟨by rfl, ?_⟩) hHeld ?_ ?_
                    rotate_left
                    · rintro w' ⟨s0, s1, s2, s3⟩
                      go_simp
                      with_reducible rfl
                    rotate_left
                    · simp only [Act.put, List.setIfInBounds_toArray, List.set_cons_zero, List.set_cons_succ, i64_w, i32_w]
                      rfl
                    refine one_ (i := 18) (N := some 77) #[Yy,Yy,Yy,Yy,Yy,Yy,Yy,Yy,Yy,Yy,Yy,Yy,Yy,Yy,Yy,Yy,Yy,Yy,Yy,Nn,Nn] rfl rfl (by kernel_rfl) (by decide) (fun K hK => ?_)
                    refine goes_ Tryz.func88 (by kernel_rfl) rfl #[.slice B3 r3.length b3, .slice B4 r4.length b4] (by rfl) rfl rfl (by simp only [List.map_toArray, List.map_cons, List.map_nil]; rfl) ?_
                    with_reducible refine (l09Same_is B3 r3.length b3 r3 B4 r4.length b4 r4 _ (Kd.C_drewN (Kd.C_drew (Kd.C_drewN HD3.out _)) _) (Kd.C_drewN (Kd.C_drew (Kd.C_drewN HD4.out _)) _) HL4.out HSL.out).mono ?_
                    rintro e w8 ⟨rfl, ⟨m8, rfl⟩⟩
                    refine ⟨_, rfl, ?_⟩
                    refine hK.out _ _ ⟨hcc1, hcc2, hcc3, hcc4⟩ (fun hHeld => ?_)
                    clear hK K
                    refine norm_ (a' := ?_) ?_ ?_
                    rotate_left
                    · show Act.put _ (some 77) _ = _
                      simp only [Act.put, List.setIfInBounds_toArray, List.set_cons_zero, List.set_cons_succ, i64_w, i32_w]
                      rfl
                    refine pure_ (i := 19) (N := some 78) (v := ?_) (a' := ?_) #[Yy,Yy,Yy,Yy,Yy,Yy,Yy,Yy,Yy,Yy,Yy,Yy,Yy,Yy,Yy,Yy,Yy,Yy,Yy,Yy,Nn] rfl rfl (by kernel_rfl) (fun _ _ _ h => h) (Or.inl ⟨by rfl, ?_⟩) ?_ ?_
                    rotate_left
                    · intro w'
                      go_simp
                      with_reducible rfl
                    rotate_left
                    · simp only [Act.put, List.setIfInBounds_toArray, List.set_cons_zero, List.set_cons_succ, i64_w, i32_w]
                      rfl
                    refine pure_ (i := 20) (N := some 79) (v := ?_) (a' := ?_) #[Yy,Yy,Yy,Yy,Yy,Yy,Yy,Yy,Yy,Yy,Yy,Yy,Yy,Yy,Yy,Yy,Yy,Yy,Yy,Yy,Yy] rfl rfl (by kernel_rfl) (fun _ _ _ h => h) (Or.inl ⟨by rfl, ?_⟩) ?_ ?_
                    rotate_left
                    · intro w'
                      go_simp
                      with_reducible rfl
                    rotate_left
                    · simp only [Act.put, List.setIfInBounds_toArray, List.set_cons_zero, List.set_cons_succ, i64_w, i32_w]
                      rfl
                    refine done_ (by kernel_rfl) ?_
                    go_wp2
                    refine bodyPost_ret (results_tmp2 rfl _ _ _) rfl ?_
                    exact ⟨by rw [HF.out]; rfl, below_step (below_step HB.out HB2.out) (show Drawn0 _ _ from (by repeat (first | exact Drawn0.refl _ | apply Drawn0.step))).below⟩
                  · have HSL := Aside0.mk hsl
                    clear hsl
                    go_wp2
                    refine start_ (n := 21) (S := fun w' => w'.cell? (ad5.add i) = some (.slice B1 r1.length b1) ∧ w'.cell? (ad5.add k) = some (.slice B2 r2.length b2) ∧ w'.cell? (ad6.add i) = some (.slice B3 r3.length b3) ∧ w'.cell? (ad6.add k) = some (.slice B4 r4.length b4)) (ds := []) #[Nn,Nn,Nn,Nn,Nn,Nn,Nn,Nn,Nn,Nn,Nn,Nn,Nn,Nn,Nn,Nn,Nn,Nn,Nn,Nn,Nn] (by kernel_rfl) rfl rfl ⟨hcc1, hcc2, hcc3, hcc4⟩ (fun hHeld => ?_)
                    refine pure_ (i := 0) (N := some 59) (v := ?_) (a' := ?_) #[Yy,Nn,Nn,Nn,Nn,Nn,Nn,Nn,Nn,Nn,Nn,Nn,Nn,Nn,Nn,Nn,Nn,Nn,Nn,Nn,Nn] rfl rfl (by kernel_rfl) (fun _ _ _ h => h) (Or.inl ⟨by rfl, ?_⟩) ?_ ?_
                    rotate_left
                    · intro w'
                      go_simp
                      with_reducible rfl
                    rotate_left
                    · simp only [Act.put, List.setIfInBounds_toArray, List.set_cons_zero, List.set_cons_succ, i64_w, i32_w]
                      rfl
                    refine pure_ (i := 1) (N := some 60) (v := ?_) (a' := ?_) #[Yy,Yy,Nn,Nn,Nn,Nn,Nn,Nn,Nn,Nn,Nn,Nn,Nn,Nn,Nn,Nn,Nn,Nn,Nn,Nn,Nn] rfl rfl (by kernel_rfl) (fun _ _ _ h => h) (Or.inl ⟨by rfl, ?_⟩) ?_ ?_
                    rotate_left
                    · intro w'
                      go_simp
                      with_reducible rfl
                    rotate_left
                    · simp only [Act.put, List.setIfInBounds_toArray, List.set_cons_zero, List.set_cons_succ, i64_w, i32_w]
                      rfl
                    refine pure_ (i := 2) (N := some 61) (v := ?_) (a' := ?_) #[Yy,Yy,Yy,Nn,Nn,Nn,Nn,Nn,Nn,Nn,Nn,Nn,Nn,Nn,Nn,Nn,Nn,Nn,Nn,Nn,Nn] rfl rfl (by kernel_rfl) (fun _ _ _ h => h) (Or.inl ⟨by rfl, ?_⟩) ?_ ?_
                    rotate_left
                    · intro w'
                      go_simp
                      with_reducible rfl
                    rotate_left
                    · simp only [Act.put, List.setIfInBounds_toArray, List.set_cons_zero, List.set_cons_succ, i64_w, i32_w]
                      rfl
                    refine pure_ (i := 4) (N := some 63) (v := ?_) (a' := ?_) #[Yy,Yy,Yy,Nn,Yy,Nn,Nn,Nn,Nn,Nn,Nn,Nn,Nn,Nn,Nn,Nn,Nn,Nn,Nn,Nn,Nn] rfl rfl (by kernel_rfl) (fun _ _ _ h => h) (Or.inl ⟨by rfl, ?_⟩) ?_ ?_
                    rotate_left
                    · intro w'
                      go_simp
                      with_reducible rfl
                    rotate_left
                    · simp only [Act.put, List.setIfInBounds_toArray, List.set_cons_zero, List.set_cons_succ, i64_w, i32_w]
                      rfl
                    refine pure_ (i := 5) (N := some 64) (v := ?_) (a' := ?_) #[Yy,Yy,Yy,Nn,Yy,Yy,Nn,Nn,Nn,Nn,Nn,Nn,Nn,Nn,Nn,Nn,Nn,Nn,Nn,Nn,Nn] rfl rfl (by kernel_rfl) (fun _ _ _ h => h) (Or.inl ⟨by rfl, ?_⟩) ?_ ?_
                    rotate_left
                    · intro w'
                      go_simp
                      with_reducible rfl
                    rotate_left
                    · simp only [Act.put, List.setIfInBounds_toArray, List.set_cons_zero, List.set_cons_succ, i64_w, i32_w]
                      rfl
                    refine pure_ (i := 6) (N := some 65) (v := ?_) (a' := ?_) #[Yy,Yy,Yy,Nn,Yy,Yy,Yy,Nn,Nn,Nn,Nn,Nn,Nn,Nn,Nn,Nn,Nn,Nn,Nn,Nn,Nn] rfl rfl (by kernel_rfl) (fun _ _ _ h => h) (Or.inl ⟨by rfl, ?_⟩) ?_ ?_
                    rotate_left
                    · intro w'
                      go_simp
                      with_reducible rfl
                    rotate_left
                    · simp only [Act.put, List.setIfInBounds_toArray, List.set_cons_zero, List.set_cons_succ, i64_w, i32_w]
                      rfl
                    refine take_ (i := 3) (N := some 62) (v := ?_) (a' := ?_) #[Yy,Yy,Yy,Yy,Yy,Yy,Yy,Nn,Nn,Nn,Nn,Nn,Nn,Nn,Nn,Nn,Nn,Nn,Nn,Nn,Nn] rfl rfl (by kernel_rfl) (fun _ _ _ h => h) (Or.inl ⟨by rfl, ?_⟩) hHeld ?_ ?_
                    rotate_left
                    · rintro w' ⟨s0, s1, s2, s3⟩
                      go_simp
                      with_reducible rfl
                    rotate_left
                    · simp only [Act.put, List.setIfInBounds_toArray, List.set_cons_zero, List.set_cons_succ, i64_w, i32_w]
                      rfl
                    refine take_ (i := 7) (N := some 66) (v := ?_) (a' := ?_) #[Yy,Yy,Yy,Yy,Yy,Yy,Yy,Yy,Nn,Nn,Nn,Nn,Nn,Nn,Nn,Nn,Nn,Nn,Nn,Nn,Nn] rfl rfl (by kernel_rfl) (fun _ _ _ h => h) (Or.inl ⟨by rfl, ?_⟩) hHeld ?_ ?_
                    rotate_left
                    · rintro w' ⟨s0, s1, s2, s3⟩
                      go_simp
                      with_reducible rfl
                    rotate_left
                    · simp only [Act.put, List.setIfInBounds_toArray, List.set_cons_zero, List.set_cons_succ, i64_w, i32_w]
                      rfl
                    refine one_ (i := 8) (N := some 67) #[Yy,Yy,Yy,Yy,Yy,Yy,Yy,Yy,Yy,Nn,Nn,Nn,Nn,Nn,Nn,Nn,Nn,Nn,Nn,Nn,Nn] rfl rfl (by kernel_rfl) (by decide) (fun K hK => ?_)
                    refine goes_ Tryz.func88 (by kernel_rfl) rfl #[.slice B1 r1.length b1, .slice B2 r2.length b2] (by rfl) rfl rfl (by simp only [List.map_toArray, List.map_cons, List.map_nil]; rfl) ?_
                    with_reducible refine (l09Same_is B1 r1.length b1 r1 B2 r2.length b2 r2 _ (Kd.C_drew (Kd.C_drewN HD1.out _)) (Kd.C_drew (Kd.C_drewN HD2.out _)) HL2.out HSB.out).mono ?_
                    rintro e w7 ⟨rfl, ⟨m7, rfl⟩⟩
                    refine ⟨_, rfl, ?_⟩
                    refine hK.out _ _ ⟨hcc1, hcc2, hcc3, hcc4⟩ (fun hHeld => ?_)
                    clear hK K
                    refine norm_ (a' := ?_) ?_ ?_
                    rotate_left
                    · show Act.put _ (some 67) _ = _
                      simp only [Act.put, List.setIfInBounds_toArray, List.set_cons_zero, List.set_cons_succ, i64_w, i32_w]
                      rfl
                    refine pure_ (i := 9) (N := some 68) (v := ?_) (a' := ?_) #[Yy,Yy,Yy,Yy,Yy,Yy,Yy,Yy,Yy,Yy,Nn,Nn,Nn,Nn,Nn,Nn,Nn,Nn,Nn,Nn,Nn] rfl rfl (by kernel_rfl) (fun _ _ _ h => h) (Or.inl ⟨by rfl, ?_⟩) ?_ ?_
                    rotate_left
                    · intro w'
                      go_simp
                      with_reducible rfl
                    rotate_left
                    · simp only [Act.put, List.setIfInBounds_toArray, List.set_cons_zero, List.set_cons_succ, i64_w, i32_w]
                      rfl
                    refine pure_ (i := 10) (N := some 69) (v := ?_) (a' := ?_) #[Yy,Yy,Yy,Yy,Yy,Yy,Yy,Yy,Yy,Yy,Yy,Nn,Nn,Nn,Nn,Nn,Nn,Nn,Nn,Nn,Nn] rfl rfl (by kernel_rfl) (fun _ _ _ h => h) (Or.inl ⟨by rfl, ?_⟩) ?_ ?_
                    rotate_left
                    · intro w'
                      go_simp
                      with_reducible rfl
                    rotate_left
                    · simp only [Act.put, List.setIfInBounds_toArray, List.set_cons_zero, List.set_cons_succ, i64_w, i32_w]
                      rfl
                    refine pure_ (i := 11) (N := some 70) (v := ?_) (a' := ?_) #[Yy,Yy,Yy,Yy,Yy,Yy,Yy,Yy,Yy,Yy,Yy,Yy,Nn,Nn,Nn,Nn,Nn,Nn,Nn,Nn,Nn] rfl rfl (by kernel_rfl) (fun _ _ _ h => h) (Or.inl ⟨by rfl, ?_⟩) ?_ ?_
                    rotate_left
                    · intro w'
                      go_simp
                      with_reducible rfl
                    rotate_left
                    · simp only [Act.put, List.setIfInBounds_toArray, List.set_cons_zero, List.set_cons_succ, i64_w, i32_w]
                      rfl
                    refine pure_ (i := 12) (N := some 71) (v := ?_) (a' := ?_) #[Yy,Yy,Yy,Yy,Yy,Yy,Yy,Yy,Yy,Yy,Yy,Yy,Yy,Nn,Nn,Nn,Nn,Nn,Nn,Nn,Nn] rfl rfl (by kernel_rfl) (fun _ _ _ h => h) (Or.inl ⟨by rfl, ?_⟩) ?_ ?_
                    rotate_left
                    · intro w'
                      go_simp
                      with_reducible rfl
                    rotate_left
                    · simp only [Act.put, List.setIfInBounds_toArray, List.set_cons_zero, List.set_cons_succ, i64_w, i32_w]
                      rfl
                    refine pure_ (i := 14) (N := some 73) (v := ?_) (a' := ?_) #[Yy,Yy,Yy,Yy,Yy,Yy,Yy,Yy,Yy,Yy,Yy,Yy,Yy,Nn,Yy,Nn,Nn,Nn,Nn,Nn,Nn] rfl rfl (by kernel_rfl) (fun _ _ _ h => h) (Or.inl ⟨by rfl, ?_⟩) ?_ ?_
                    rotate_left
                    · intro w'
                      go_simp
                      with_reducible rfl
                    rotate_left
                    · simp only [Act.put, List.setIfInBounds_toArray, List.set_cons_zero, List.set_cons_succ, i64_w, i32_w]
                      rfl
                    refine pure_ (i := 15) (N := some 74) (v := ?_) (a' := ?_) #[Yy,Yy,Yy,Yy,Yy,Yy,Yy,Yy,Yy,Yy,Yy,Yy,Yy,Nn,Yy,Yy,Nn,Nn,Nn,Nn,Nn] rfl rfl (by kernel_rfl) (fun _ _ _ h => h) (Or.inl ⟨by rfl, ?_⟩) ?_ ?_
                    rotate_left
                    · intro w'
                      go_simp
                      with_reducible rfl
                    rotate_left
                    · simp only [Act.put, List.setIfInBounds_toArray, List.set_cons_zero, List.set_cons_succ, i64_w, i32_w]
                      rfl
                    refine pure_ (i := 16) (N := some 75) (v := ?_) (a' := ?_) #[Yy,Yy,Yy,Yy,Yy,Yy,Yy,Yy,Yy,Yy,Yy,Yy,Yy,Nn,Yy,Yy,Yy,Nn,Nn,Nn,Nn] rfl rfl (by kernel_rfl) (fun _ _ _ h => h) (Or.inl ⟨by rfl, ?_⟩) ?_ ?_
                    rotate_left
                    · intro w'
                      go_simp
                      with_reducible rfl
                    rotate_left
                    · simp only [Act.put, List.setIfInBounds_toArray, List.set_cons_zero, List.set_cons_succ, i64_w, i32_w]
                      rfl
                    refine take_ (i := 13) (N := some 72) (v := ?_) (a' := ?_) #[Yy,Yy,Yy,Yy,Yy,Yy,Yy,Yy,Yy,Yy,Yy,Yy,Yy,Yy,Yy,Yy,Yy,Nn,Nn,Nn,Nn] rfl rfl (by kernel_rfl) (fun _ _ _ h => h) (Or.inl ⟨by rfl, ?_⟩) hHeld ?_ ?_
                    rotate_left
                    · rintro w' ⟨s0, s1, s2, s3⟩
                      go_simp
                      with_reducible rfl
                    rotate_left
                    · simp only [Act.put, List.setIfInBounds_toArray, List.set_cons_zero, List.set_cons_succ, i64_w, i32_w]
                      rfl
                    refine take_ (i := 17) (N := some 76) (v := ?_) (a' := ?_) #[Yy,Yy,Yy,Yy,Yy,Yy,Yy,Yy,Yy,Yy,Yy,Yy,Yy,Yy,Yy,Yy,Yy,Yy,Nn,Nn,Nn] rfl rfl (by kernel_rfl) (fun _ _ _ h => h) (Or.inl ⟨by rfl, ?_⟩) hHeld ?_ ?_
                    rotate_left
                    · rintro w' ⟨s0, s1, s2, s3⟩
                      go_simp
                      with_reducible rfl
                    rotate_left
                    · simp only [Act.put, List.setIfInBounds_toArray, List.set_cons_zero, List.set_cons_succ, i64_w, i32_w]
                      rfl
                    refine one_ (i := 18) (N := some 77) #[Yy,Yy,Yy,Yy,Yy,Yy,Yy,Yy,Yy,Yy,Yy,Yy,Yy,Yy,Yy,Yy,Yy,Yy,Yy,Nn,Nn] rfl rfl (by kernel_rfl) (by decide) (fun K hK => ?_)
                    refine goes_ Tryz.func88 (by kernel_rfl) rfl #[.slice B3 r3.length b3, .slice B4 r4.length b4] (by rfl) rfl rfl (by simp only [List.map_toArray, List.map_cons, List.map_nil]; rfl) ?_
                    with_reducible refine (l09Same_is B3 r3.length b3 r3 B4 r4.length b4 r4 _ (Kd.C_drewN (Kd.C_drew (Kd.C_drewN HD3.out _)) _) (Kd.C_drewN (Kd.C_drew (Kd.C_drewN HD4.out _)) _) HL4.out HSL.out).mono ?_
                    rintro e w8 ⟨rfl, ⟨m8, rfl⟩⟩
                    refine ⟨_, rfl, ?_⟩
                    refine hK.out _ _ ⟨hcc1, hcc2, hcc3, hcc4⟩ (fun hHeld => ?_)
                    clear hK K
                    refine norm_ (a' := ?_) ?_ ?_
                    rotate_left
                    · show Act.put _ (some 77) _ = _
                      simp only [Act.put, List.setIfInBounds_toArray, List.set_cons_zero, List.set_cons_succ, i64_w, i32_w]
                      rfl
                    refine pure_ (i := 19) (N := some 78) (v := ?_) (a' := ?_) #[Yy,Yy,Yy,Yy,Yy,Yy,Yy,Yy,Yy,Yy,Yy,Yy,Yy,Yy,Yy,Yy,Yy,Yy,Yy,Yy,Nn] rfl rfl (by kernel_rfl) (fun _ _ _ h => h) (Or.inl ⟨by rfl, ?_⟩) ?_ ?_
                    rotate_left
                    · intro w'
                      go_simp
                      with_reducible rfl
                    rotate_left
                    · simp only [Act.put, List.setIfInBounds_toArray, List.set_cons_zero, List.set_cons_succ, i64_w, i32_w]
                      rfl
                    refine pure_ (i := 20) (N := some 79) (v := ?_) (a' := ?_) #[Yy,Yy,Yy,Yy,Yy,Yy,Yy,Yy,Yy,Yy,Yy,Yy,Yy,Yy,Yy,Yy,Yy,Yy,Yy,Yy,Yy] rfl rfl (by kernel_rfl) (fun _ _ _ h => h) (Or.inl ⟨by rfl, ?_⟩) ?_ ?_
                    rotate_left
                    · intro w'
                      go_simp
                      with_reducible rfl
                    rotate_left
                    · simp only [Act.put, List.setIfInBounds_toArray, List.set_cons_zero, List.set_cons_succ, i64_w, i32_w]
                      rfl
                    refine done_ (by kernel_rfl) ?_
                    go_wp2
                    go_roundw
                    case rel => exact ⟨k + 1, by go_num, by omega, ⟨fun k' hk' e => by
                      rcases Nat.lt_succ_iff_lt_or_eq.1 hk' with h | h
                      · exact HE2.out k' h e
                      · subst h; rw [← HR4'.out]; exact of_decide_eq_true HSL.out⟩, (by repeat (first | exact Drawn0.refl _ | apply Drawn0.step))⟩
                    case measure => simp [intOf]; omega
              · have hd4 : decide ((k : Int) < i) = false := decide_eq_false (by omega)
                have hki : k = i := by omega
                have HKI := Aside0.mk hki
                clear hki
                go_wp2
                go_roundw
                case rel => exact ⟨i + 1, by go_num, by omega, ⟨fun a ha k' hk' e => by
                  rcases Nat.lt_succ_iff_lt_or_eq.1 ha with h | h
                  · exact HE.out a h k' hk' e
                  · subst h; rw [← HR3'.out]; exact HE2.out k' (by rw [HKI.out]; exact hk') (HR1'.out.trans e)⟩, (by repeat (first | exact Drawn0.refl _ | apply Drawn0.step))⟩
                case measure => simp [intOf]; omega
          · have hd3 : decide ((i : Int) < pts.length) = false := decide_eq_false (by omega)
            have HT : Aside0 (sepsR P n l ps = (true, 0)) := ⟨HN.out true (sepsB_true fun a ha => HE.out a (by omega))⟩
            go_wp2
            refine bodyPost_ret (results_tmp2 rfl _ _ _) rfl ?_
            exact ⟨by rw [HT.out]; rfl, below_step (below_step HB.out HB2.out) (show Drawn0 _ _ from (by repeat (first | exact Drawn0.refl _ | apply Drawn0.step))).below⟩
  · have HN : Aside0 (sepsR p n l ps = (false, sepC p n l ps)) := ⟨by unfold sepsR; rw [if_neg hz]⟩
    have hzb : (sepC p n l ps != 0) = true := by simpa using hz
    obtain ⟨z, hzz⟩ : ∃ z, z = sepC p n l ps := ⟨_, rfl⟩
    rw [← hzz] at HKS HN hzb
    clear hz hzz hr hl hr1 hbox
    go_enter Tryz.func36, Tryz.ntmps36
    go_wp2_with (first
      | (refine load_blk rfl _ 2 rfl H1 rfl _ Tryz.underlying37 rfl sizeG ?_)
      | (go_at_call 86; refine HKS.out.mono ?_; rintro e w1 ⟨v, rfl, ho, hb⟩; replace HB := Aside0.mk (below_step HB.out hb); clear hb ho))
    refine bodyPost_ret (results_tmp2 rfl _ _ _) rfl ?_
    exact ⟨by rw [HN.out]; rfl, HB.out⟩
end Go.Proofs.YtbenhcognapdpaaGreat
