/- Own texts of this claim, in one file: Sep2, Lay, CmpW, SortR. -/
import Derived.Test.YtbenhcognapdpaaGreatKR9l
import Derived.Shelf.SlSortCmp.Whole1
import Derived.Ground.SlsfProg
import Derived.Test.YtbenhcognapdpaaGreatProg
import Derived.Test.YtbenhcognapdpaaGreatKR9b
import Derived.Test.YtbenhcognapdpaaGreatKR9j
/- Walk: the specification's code of a group and polynomials, and all points. -/
set_option linter.unusedVariables false
set_option linter.unusedSimpArgs false
namespace Go.Proofs.YtbenhcognapdpaaGreat
open Go.RowKit Go.Proofs.YtbenhcognapdpaaGreatW.PrintWords Go.Proofs.YtbenhcognapdpaaGreatW.PrintLast Lin

theorem likeC_cases (ps : List Pv) : (likeC ps = 0 ∧ ps.all polB = true ∧ likesB ps = true) ∨ (likeC ps = 2 ∧ ps.all polB = true ∧ likesB ps = false) ∨ (likeC ps = 1 ∧ ps.all polB = false) := by
  unfold likeC
  cases h1 : ps.all polB
  · exact .inr (.inr ⟨rfl, rfl⟩)
  · cases h2 : likesB ps
    · exact .inr (.inl ⟨rfl, rfl, rfl⟩)
    · exact .inl ⟨rfl, rfl, rfl⟩
set_option maxRecDepth 100000 in
set_option maxHeartbeats 2000000 in
theorem l09Code_calls (p n : Int) (A : Option Addr) (q c : Nat) (l : List (List Int)) (A1 : Option Addr) (q1 c1 : Nat) (ps : List Pv) (w : World) (hr : kM.C w A q l) (hl : ∀ m ∈ l, IsM m) (hr1 : kP.C w A1 q1 ps) (ht : ∀ P ∈ ps, IsPv P) :
    Calls Tryz.prog 86 #[.agg #[.int .i64 p, .int .i64 n, .slice A q c], .slice A1 q1 c1] w fun e w' => ∃ v, e = .returned (.tuple #[v, .int .i64 (sepC p n l ps)]) ∧ SepOut w' (ptsS p.toNat n.toNat) (sepC p n l ps) v ∧ Below w.heap.size w w' := by
  obtain rfl := Kd.C_len hr1
  have hm1 := Kd.C_max hr1
  have HR1 := Aside0.mk hr1
  have hbox := below_alloc (Below.refl w.heap.size w) (.cells #[.int .i64 p, .int .i64 n, .slice A q c] 37)
  have HB := Aside0.mk hbox
  have HKG := Aside0.mk (l02Is_calls p n A q c l _ (Kd.C_below hr hbox) hl)
  have HKL := Aside0.mk (fun W (h : Below w.heap.size w W) => l09Like_calls A1 ps.length c1 ps W (Kd.C_below HR1.out h) ht)
  clear hr hl hr1 hbox ht
  have H1 := Blk.new w #[.int .i64 p, .int .i64 n, .slice A q c] 37
  cases hgb : grpB p n l
  · have HN : Aside0 (sepC p n l ps = 1) := ⟨by unfold sepC; rw [if_neg (by rw [hgb]; simp)]⟩
    rw [hgb] at HKG
    clear hgb
    go_enter Tryz.func86, Tryz.ntmps86
    go_wp2_with (first
      | (refine load_blk rfl _ 2 rfl H1 rfl _ Tryz.underlying37 rfl sizeG ?_)
      | (go_at_call 71; refine HKG.out.mono ?_; rintro e w1 ⟨rfl, hb⟩; replace HB := Aside0.mk (below_step HB.out hb); clear hb))
    refine bodyPost_ret (results_tmp2 rfl _ _ _) rfl ?_
    exact ⟨_, by rw [HN.out]; rfl, sepOut_bad (by rw [HN.out]; decide), HB.out⟩
  have hok := grpB_iff.1 hgb
  have hP := primeB_iff.1 hok.prime
  have hpp := hP.pos
  have hvv : 1 ≤ n ∧ n ≤ 3 := of_decide_eq_true hok.vars
  obtain ⟨n, rfl⟩ : ∃ k : Nat, n = k := ⟨n.toNat, by omega⟩
  obtain ⟨P, rfl⟩ : ∃ k : Nat, p = k := ⟨p.toNat, by omega⟩
  have HGB := Aside0.mk hgb
  have HKP := Aside0.mk (fun W => l09Points_calls P n A q c W (by omega) (by omega))
  rw [hgb] at HKG
  rw [Int.toNat_natCast, Int.toNat_natCast]
  clear hgb hok hP
  rcases likeC_cases ps with ⟨hcode, hpb, hlb⟩ | ⟨hcode, hpb, hlb⟩ | ⟨hcode, hpb⟩
  rotate_left
  · have HCODE := Aside0.mk hcode
    have HN : Aside0 (sepC P n l ps = 2) := ⟨by unfold sepC; rw [if_pos ⟨HGB.out, hpb⟩, if_neg (by rw [hlb]; simp)]⟩
    clear hcode hpb hlb
    go_enter Tryz.func86, Tryz.ntmps86
    go_wp2_with (first
      | (refine load_blk rfl _ 2 rfl H1 rfl _ Tryz.underlying37 rfl sizeG ?_)
      | (go_at_call 71; refine HKG.out.mono ?_; rintro e w1 ⟨rfl, hb⟩; replace H1 := H1.keep hb; replace HB := Aside0.mk (below_step HB.out hb); clear hb)
      | (go_at_call 164; refine (HKL.out _ HB.out).mono ?_; rw [HCODE.out]; rintro e w2 ⟨rfl, hb⟩; replace H1 := H1.keep hb; replace HB := Aside0.mk (below_step HB.out hb); clear hb))
    go_quiet (fail)
    go_wp2
    refine bodyPost_ret (results_tmp2 rfl _ _ _) rfl ?_
    exact ⟨_, by rw [HN.out]; rfl, sepOut_bad (by rw [HN.out]; decide), (by repeat (first | (with_reducible first | exact HB.out | apply below_alloc | apply pw_below_drewN | apply below_drew1) | exact HB.out | exact Below.refl _ _))⟩
  · have HCODE := Aside0.mk hcode
    have HN : Aside0 (sepC P n l ps = 1) := ⟨by unfold sepC; rw [if_neg (by rw [hpb]; simp)]⟩
    clear hcode hpb
    go_enter Tryz.func86, Tryz.ntmps86
    go_wp2_with (first
      | (refine load_blk rfl _ 2 rfl H1 rfl _ Tryz.underlying37 rfl sizeG ?_)
      | (go_at_call 71; refine HKG.out.mono ?_; rintro e w1 ⟨rfl, hb⟩; replace H1 := H1.keep hb; replace HB := Aside0.mk (below_step HB.out hb); clear hb)
      | (go_at_call 164; refine (HKL.out _ HB.out).mono ?_; rw [HCODE.out]; rintro e w2 ⟨rfl, hb⟩; replace H1 := H1.keep hb; replace HB := Aside0.mk (below_step HB.out hb); clear hb))
    go_quiet (fail)
    go_wp2
    refine bodyPost_ret (results_tmp2 rfl _ _ _) rfl ?_
    exact ⟨_, by rw [HN.out]; rfl, sepOut_bad (by rw [HN.out]; decide), (by repeat (first | (with_reducible first | exact HB.out | apply below_alloc | apply pw_below_drewN | apply below_drew1) | exact HB.out | exact Below.refl _ _))⟩
  have HCODE := Aside0.mk hcode
  have HPB := Aside0.mk hpb
  have HLB := Aside0.mk hlb
  clear hcode hpb hlb
  by_cases h0 : ps.length = 0
  · have HFB : Aside0 (fitB P n ps = true) := ⟨by unfold fitB; rw [decide_eq_true h0]; rfl⟩
    have hgt : decide (0 < ps.length) = false := decide_eq_false (by omega)
    clear h0
    go_enter Tryz.func86, Tryz.ntmps86
    go_wp2_with (first
      | (refine load_blk rfl _ 2 rfl H1 rfl _ Tryz.underlying37 rfl sizeG ?_)
      | (go_at_call 71; refine HKG.out.mono ?_; rintro e w1 ⟨rfl, hb⟩; replace H1 := H1.keep hb; replace HB := Aside0.mk (below_step HB.out hb); clear hb)
      | (go_at_call 164; refine (HKL.out _ HB.out).mono ?_; rw [HCODE.out]; rintro e w2 ⟨rfl, hb⟩; replace H1 := H1.keep hb; replace HB := Aside0.mk (below_step HB.out hb); clear hb))
    go_quiet (fail)
    replace H1 := H1.drewN nq
    replace HB := Aside0.mk (pw_below_drewN HB.out nq)
    clear hgt
    cases hfw : fewB P n
    · have HN : Aside0 (sepC P n l ps = 3) := ⟨by unfold sepC; rw [if_pos ⟨HGB.out, HPB.out⟩, if_pos ⟨HLB.out, HFB.out⟩]; simp [hfw]⟩
      rw [hfw] at HKP
      clear hfw
      go_wp2_with (first
        | (refine load_blk rfl _ 2 rfl H1 rfl _ Tryz.underlying37 rfl sizeG ?_)
        | (go_at_call 165; refine (HKP.out _).mono ?_; rintro e w7 ⟨v, rfl, ho, hb⟩; replace HB := Aside0.mk (below_step HB.out hb); clear hb ho))
      refine bodyPost_ret (results_tmp2 rfl _ _ _) rfl ?_
      exact ⟨_, by rw [HN.out]; rfl, sepOut_bad (by rw [HN.out]; decide), HB.out⟩
    · have HN : Aside0 (sepC P n l ps = 0) := ⟨by unfold sepC; rw [if_pos ⟨HGB.out, HPB.out⟩, if_pos ⟨HLB.out, HFB.out⟩]; simp [hfw]⟩
      have HFW := Aside0.mk hfw
      rw [hfw] at HKP
      clear hfw
      go_wp2_with (first
        | (refine load_blk rfl _ 2 rfl H1 rfl _ Tryz.underlying37 rfl sizeG ?_)
        | (go_at_call 165; refine (HKP.out _).mono ?_; rintro e w7 ⟨v, rfl, ho, hb⟩; obtain ⟨A2, c2, rfl, hc2, hC2⟩ := ptsOut_few ho HFW.out; have HC2 := Aside0.mk (And.intro hc2 hC2); replace HB := Aside0.mk (below_step HB.out hb); clear hb ho hc2 hC2))
      refine bodyPost_ret (results_tmp2 rfl _ _ _) rfl ?_
      exact ⟨_, by rw [HN.out]; rfl, fun _ => ⟨A2, c2, rfl, HC2.out.1, HC2.out.2⟩, HB.out⟩
  have hgt : decide (0 < ps.length) = true := decide_eq_true (by omega)
  have hgt2 : 0 < ps.length := by omega
  obtain ⟨ad0, P0, A0, c0, hpp0, rfl, hc0', hC0', hc0⟩ := poly_at HR1.out 0 (by omega)
  have HC0 := Aside0.mk hc0
  have HFE : Aside0 (fitB P n ps = ((P0.1 == (P : Int)) && (P0.2.1 == (n : Int)))) := ⟨by unfold fitB; rw [decide_eq_false h0, Bool.false_or, hpp0]⟩
  clear hpp0 hc0' hC0' hc0 h0
  cases h1 : (P0.1 == (P : Int))
  · have hb1 : (P0.1 != (P : Int)) = true := by simpa using h1
    have HN : Aside0 (sepC P n l ps = 2) := ⟨by unfold sepC; rw [if_pos ⟨HGB.out, HPB.out⟩, if_neg (by rw [HFE.out, h1]; simp)]⟩
    clear h1
    go_enter Tryz.func86, Tryz.ntmps86
    go_wp2_with (first
      | (refine load_blk rfl _ 2 rfl H1 rfl _ Tryz.underlying37 rfl sizeG ?_)
      | (go_at_call 71; refine HKG.out.mono ?_; rintro e w1 ⟨rfl, hb⟩; replace H1 := H1.keep hb; replace HB := Aside0.mk (below_step HB.out hb); clear hb)
      | (go_at_call 164; refine (HKL.out _ HB.out).mono ?_; rw [HCODE.out]; rintro e w2 ⟨rfl, hb⟩; replace H1 := H1.keep hb; replace HB := Aside0.mk (below_step HB.out hb); clear hb))
    have k0 := H1.cell 0 rfl
    have k1 := H1.cell 1 rfl
    have hcc := HC0.out.below HB.out
    have g0 : w2.cell? ad0 = some (.int .i64 P0.1) := by have h := hcc 0 (.int .i64 P0.1) rfl; rwa [addr_zero, show 0 * 3 = 0 from rfl, addr_zero] at h
    have g0' : w2.cell? (ad0.add 0) = some (.int .i64 P0.1) := by rw [addr_zero]; exact g0
    have g1 : w2.cell? ⟨ad0.block, ad0.off + 1, none⟩ = some (.int .i64 P0.2.1) := by have h := hcc 1 (.int .i64 P0.2.1) rfl; rwa [show 0 * 3 = 0 from rfl, addr_zero] at h
    have g1' : w2.cell? ⟨(ad0.add 0).block, (ad0.add 0).off + 1, none⟩ = some (.int .i64 P0.2.1) := by rw [addr_zero]; exact g1
    clear hcc
    go_quiet (fail)
    go_wp2
    refine bodyPost_ret (results_tmp2 rfl _ _ _) rfl ?_
    exact ⟨_, by rw [HN.out]; rfl, sepOut_bad (by rw [HN.out]; decide), (by repeat (first | (with_reducible first | exact HB.out | apply below_alloc | apply pw_below_drewN | apply below_drew1) | exact HB.out | exact Below.refl _ _))⟩
  have hb1 : (P0.1 != (P : Int)) = false := by simpa using h1
  cases h2 : (P0.2.1 == (n : Int))
  · have hb2 : (P0.2.1 != (n : Int)) = true := by simpa using h2
    have HN : Aside0 (sepC P n l ps = 2) := ⟨by unfold sepC; rw [if_pos ⟨HGB.out, HPB.out⟩, if_neg (by rw [HFE.out, h1, h2]; simp)]⟩
    clear h1 h2
    go_enter Tryz.func86, Tryz.ntmps86
    go_wp2_with (first
      | (refine load_blk rfl _ 2 rfl H1 rfl _ Tryz.underlying37 rfl sizeG ?_)
      | (go_at_call 71; refine HKG.out.mono ?_; rintro e w1 ⟨rfl, hb⟩; replace H1 := H1.keep hb; replace HB := Aside0.mk (below_step HB.out hb); clear hb)
      | (go_at_call 164; refine (HKL.out _ HB.out).mono ?_; rw [HCODE.out]; rintro e w2 ⟨rfl, hb⟩; replace H1 := H1.keep hb; replace HB := Aside0.mk (below_step HB.out hb); clear hb))
    have k0 := H1.cell 0 rfl
    have k1 := H1.cell 1 rfl
    have hcc := HC0.out.below HB.out
    have g0 : w2.cell? ad0 = some (.int .i64 P0.1) := by have h := hcc 0 (.int .i64 P0.1) rfl; rwa [addr_zero, show 0 * 3 = 0 from rfl, addr_zero] at h
    have g0' : w2.cell? (ad0.add 0) = some (.int .i64 P0.1) := by rw [addr_zero]; exact g0
    have g1 : w2.cell? ⟨ad0.block, ad0.off + 1, none⟩ = some (.int .i64 P0.2.1) := by have h := hcc 1 (.int .i64 P0.2.1) rfl; rwa [show 0 * 3 = 0 from rfl, addr_zero] at h
    have g1' : w2.cell? ⟨(ad0.add 0).block, (ad0.add 0).off + 1, none⟩ = some (.int .i64 P0.2.1) := by rw [addr_zero]; exact g1
    clear hcc
    go_quiet (fail)
    go_wp2
    refine bodyPost_ret (results_tmp2 rfl _ _ _) rfl ?_
    exact ⟨_, by rw [HN.out]; rfl, sepOut_bad (by rw [HN.out]; decide), (by repeat (first | (with_reducible first | exact HB.out | apply below_alloc | apply pw_below_drewN | apply below_drew1) | exact HB.out | exact Below.refl _ _))⟩
  · have hb2 : (P0.2.1 != (n : Int)) = false := by simpa using h2
    have HFB : Aside0 (fitB P n ps = true) := ⟨by rw [HFE.out, h1, h2]; rfl⟩
    clear h1 h2
    go_enter Tryz.func86, Tryz.ntmps86
    go_wp2_with (first
      | (refine load_blk rfl _ 2 rfl H1 rfl _ Tryz.underlying37 rfl sizeG ?_)
      | (go_at_call 71; refine HKG.out.mono ?_; rintro e w1 ⟨rfl, hb⟩; replace H1 := H1.keep hb; replace HB := Aside0.mk (below_step HB.out hb); clear hb)
      | (go_at_call 164; refine (HKL.out _ HB.out).mono ?_; rw [HCODE.out]; rintro e w2 ⟨rfl, hb⟩; replace H1 := H1.keep hb; replace HB := Aside0.mk (below_step HB.out hb); clear hb))
    have k0 := H1.cell 0 rfl
    have k1 := H1.cell 1 rfl
    have hcc := HC0.out.below HB.out
    have g0 : w2.cell? ad0 = some (.int .i64 P0.1) := by have h := hcc 0 (.int .i64 P0.1) rfl; rwa [addr_zero, show 0 * 3 = 0 from rfl, addr_zero] at h
    have g0' : w2.cell? (ad0.add 0) = some (.int .i64 P0.1) := by rw [addr_zero]; exact g0
    have g1 : w2.cell? ⟨ad0.block, ad0.off + 1, none⟩ = some (.int .i64 P0.2.1) := by have h := hcc 1 (.int .i64 P0.2.1) rfl; rwa [show 0 * 3 = 0 from rfl, addr_zero] at h
    have g1' : w2.cell? ⟨(ad0.add 0).block, (ad0.add 0).off + 1, none⟩ = some (.int .i64 P0.2.1) := by rw [addr_zero]; exact g1
    clear hcc
    go_quiet (fail)
    replace H1 := H1.drewN nq
    replace HB := Aside0.mk (pw_below_drewN HB.out nq)
    clear k0 k1 g0 g0' g1 g1' hgt hgt2 hb1 hb2
    cases hfw : fewB P n
    · have HN : Aside0 (sepC P n l ps = 3) := ⟨by unfold sepC; rw [if_pos ⟨HGB.out, HPB.out⟩, if_pos ⟨HLB.out, HFB.out⟩]; simp [hfw]⟩
      rw [hfw] at HKP
      clear hfw
      go_wp2_with (first
        | (refine load_blk rfl _ 2 rfl H1 rfl _ Tryz.underlying37 rfl sizeG ?_)
        | (go_at_call 165; refine (HKP.out _).mono ?_; rintro e w7 ⟨v, rfl, ho, hb⟩; replace HB := Aside0.mk (below_step HB.out hb); clear hb ho))
      refine bodyPost_ret (results_tmp2 rfl _ _ _) rfl ?_
      exact ⟨_, by rw [HN.out]; rfl, sepOut_bad (by rw [HN.out]; decide), HB.out⟩
    · have HN : Aside0 (sepC P n l ps = 0) := ⟨by unfold sepC; rw [if_pos ⟨HGB.out, HPB.out⟩, if_pos ⟨HLB.out, HFB.out⟩]; simp [hfw]⟩
      have HFW := Aside0.mk hfw
      rw [hfw] at HKP
      clear hfw
      go_wp2_with (first
        | (refine load_blk rfl _ 2 rfl H1 rfl _ Tryz.underlying37 rfl sizeG ?_)
        | (go_at_call 165; refine (HKP.out _).mono ?_; rintro e w7 ⟨v, rfl, ho, hb⟩; obtain ⟨A2, c2, rfl, hc2, hC2⟩ := ptsOut_few ho HFW.out; have HC2 := Aside0.mk (And.intro hc2 hC2); replace HB := Aside0.mk (below_step HB.out hb); clear hb ho hc2 hC2))
      refine bodyPost_ret (results_tmp2 rfl _ _ _) rfl ?_
      exact ⟨_, by rw [HN.out]; rfl, fun _ => ⟨A2, c2, rfl, HC2.out.1, HC2.out.2⟩, HB.out⟩
end Go.Proofs.YtbenhcognapdpaaGreat
/-
  DERIVED: THE SHELF's CONTRACTS AT THIS DUMP, IN PLAIN WORDS (tools/lay-plain.mjs out of 'YtbenhcognapdpaaGreatLay.lean', which tools/lay-shelf.mjs wrote): THE SAME DECLARATIONS UNDER THE SAME NAMES: 'import', 'namespace', 'open', 'def', 'theorem' AND NOTHING ELSE: no command of the shelf's: FOR A HAND-IN. Each laying: the table of numbers ('.._ren') and one theorem, a field a fact of the dump's own or the kernel's comparison; each contract: ONE APPLICATION.
-/
namespace Go.Proofs
open Go.Shelf
def Tryz.sortRows_ren : Go.Shelf.Ren := ⟨fun | 6 => 132 | 15 => 207 | 14 => 206 | 28 => 251 | 29 => 252 | 20 => 243 | 21 => 244 | 22 => 245 | 23 => 246 | 24 => 247 | 25 => 248 | 26 => 249 | 27 => 250 | 46 => 271 | 47 => 272 | 48 => 273 | 49 => 274 | 50 => 275 | 57 => 282 | n => n, fun | 22 => 41 | 24 => 84 | 25 => 147 | 3 => 3 | 39 => 203 | 0 => 0 | 53 => 237 | 55 => 239 | 4 => 4 | 46 => 230 | 45 => 229 | 50 => 234 | 5 => 5 | 9 => 9 | 66 => 255 | 70 => 259 | 76 => 265 | 77 => 266 | n => n, fun | n => n⟩
theorem Tryz.sortRows : Go.Proofs.SlLaysF.n6 Tryz.prog Tryz.sortRows_ren := {
  mixed := by kernel_rfl
  f6 := ⟨Tryz.f132.name, by decide, Tryz.func132.trans (congrArg some (by kernel_rfl))⟩
  f14 := ⟨Tryz.f206.name, by decide, Tryz.func206.trans (congrArg some (by kernel_rfl))⟩
  f15 := Tryz.func207.trans (congrArg some (by kernel_rfl))
  f20 := ⟨Tryz.f243.name, by decide, Tryz.func243.trans (congrArg some (by kernel_rfl))⟩
  f21 := ⟨Tryz.f244.name, by decide, Tryz.func244.trans (congrArg some (by kernel_rfl))⟩
  f22 := ⟨Tryz.f245.name, by decide, Tryz.func245.trans (congrArg some (by kernel_rfl))⟩
  f23 := ⟨Tryz.f246.name, by decide, Tryz.func246.trans (congrArg some (by kernel_rfl))⟩
  f24 := ⟨Tryz.f247.name, by decide, Tryz.func247.trans (congrArg some (by kernel_rfl))⟩
  f25 := ⟨Tryz.f248.name, by decide, Tryz.func248.trans (congrArg some (by kernel_rfl))⟩
  f26 := ⟨Tryz.f249.name, by decide, Tryz.func249.trans (congrArg some (by kernel_rfl))⟩
  f27 := ⟨Tryz.f250.name, by decide, Tryz.func250.trans (congrArg some (by kernel_rfl))⟩
  f28 := Tryz.func251.trans (congrArg some (by kernel_rfl))
  f29 := Tryz.func252.trans (congrArg some (by kernel_rfl))
  f46 := ⟨Tryz.f271.name, by decide, Tryz.func271.trans (congrArg some (by kernel_rfl))⟩
  f47 := Tryz.func272.trans (congrArg some (by kernel_rfl))
  f48 := Tryz.func273.trans (congrArg some (by kernel_rfl))
  f49 := ⟨Tryz.f274.name, by decide, Tryz.func274.trans (congrArg some (by kernel_rfl))⟩
  f50 := ⟨Tryz.f275.name, by decide, Tryz.func275.trans (congrArg some (by kernel_rfl))⟩
  f57 := ⟨Tryz.f282.name, by decide, Tryz.func282.trans (congrArg some (by kernel_rfl))⟩
  t0 := Tryz.underlying0
  a0 := Tryz.isAgg0
  z0 := Tryz.sizeOf0
  v0 := Tryz.zeroValue0
  t3 := Tryz.underlying3
  a3 := Tryz.isAgg3
  z3 := Tryz.sizeOf3
  v3 := Tryz.zeroValue3
  t4 := Tryz.underlying4
  a4 := Tryz.isAgg4
  z4 := Tryz.sizeOf4
  v4 := Tryz.zeroValue4
  t5 := Tryz.underlying5
  a5 := Tryz.isAgg5
  z5 := Tryz.sizeOf5
  v5 := Tryz.zeroValue5
  t9 := Tryz.underlying9
  a9 := Tryz.isAgg9
  z9 := Tryz.sizeOf9
  v9 := Tryz.zeroValue9
  t22 := Tryz.underlying41
  a22 := Tryz.isAgg41
  z22 := Tryz.sizeOf41
  v22 := Tryz.zeroValue41
  a24 := Tryz.isAgg84
  z24 := Tryz.sizeOf84
  t25 := Tryz.underlying147
  a25 := Tryz.isAgg147
  z25 := Tryz.sizeOf147
  v25 := Tryz.zeroValue147
  t39 := Tryz.underlying203
  a39 := Tryz.isAgg203
  z39 := Tryz.sizeOf203
  v39 := Tryz.zeroValue203
  t45 := Tryz.underlying229
  a45 := Tryz.isAgg229
  z45 := Tryz.sizeOf229
  v45 := Tryz.zeroValue229
  t46 := Tryz.underlying230
  a46 := Tryz.isAgg230
  z46 := Tryz.sizeOf230
  v46 := Tryz.zeroValue230
  t50 := Tryz.underlying234
  a50 := Tryz.isAgg234
  z50 := Tryz.sizeOf234
  v50 := Tryz.zeroValue234
  t53 := Tryz.underlying237
  a53 := Tryz.isAgg237
  z53 := Tryz.sizeOf237
  v53 := Tryz.zeroValue237
  t55 := Tryz.underlying239
  a55 := Tryz.isAgg239
  z55 := Tryz.sizeOf239
  v55 := Tryz.zeroValue239
  t66 := Tryz.underlying255
  a66 := Tryz.isAgg255
  z66 := Tryz.sizeOf255
  v66 := Tryz.zeroValue255
  t70 := Tryz.underlying259
  a70 := Tryz.isAgg259
  z70 := Tryz.sizeOf259
  v70 := Tryz.zeroValue259
  t76 := Tryz.underlying265
  a76 := Tryz.isAgg265
  z76 := Tryz.sizeOf265
  v76 := Tryz.zeroValue265
  t77 := Tryz.underlying266
  a77 := Tryz.isAgg266
  z77 := Tryz.sizeOf266
  v77 := Tryz.zeroValue266 }
end Go.Proofs
/- Walk: slices.Compare at []int64. -/
set_option linter.unusedVariables false
set_option linter.unusedSimpArgs false
namespace Go.Proofs.YtbenhcognapdpaaGreat
open Go.RowKit Go.Proofs.YtbenhcognapdpaaGreatW.PrintWords Go.Proofs.YtbenhcognapdpaaGreatW.PrintLast Lin

set_option maxRecDepth 100000 in
set_option maxHeartbeats 1000000 in
theorem slCompare_calls (A : Option Addr) (n c : Nat) (a : List Int) (A' : Option Addr) (n' c' : Nat) (b : List Int) (w : World) (hr : kI.C w A n a) (hr' : kI.C w A' n' b) :
    Calls Tryz.prog 170 #[.slice A n c, .slice A' n' c'] w fun e w' => e = .returned (.int .i64 (cmpL a b)) ∧ w = w' := by
  obtain rfl := Kd.C_len hr
  obtain rfl := Kd.C_len hr'
  have hm := Kd.C_max hr
  have hm' := Kd.C_max hr'
  have HR := Aside0.mk hr
  have HR' := Aside0.mk hr'
  clear hr hr'
  go_enter Tryz.func170, Tryz.ntmps170
  go_wp2
  go_loopw [11] (fun v wr => ∃ k : Nat, v = .int .i64 k ∧ k ≤ a.length ∧ k ≤ b.length ∧ Aside0 (∀ j < k, nt a j = nt b j) ∧ wr = w) (fun v _ => a.length - (intOf v).toNat)
  case atStart => exact ⟨0, rfl, by omega, by omega, ⟨fun j hj => by omega⟩, rfl⟩
  case round =>
    obtain ⟨k, rfl, hk, hk', HZ, rfl⟩ := hrel
    by_cases hlt : k < a.length
    · obtain ⟨ad, rfl, hc⟩ := at_nt HR.out k hlt
      by_cases hlt' : k < b.length
      · obtain ⟨ad', rfl, hc'⟩ := at_nt HR'.out k hlt'
        rcases Int.lt_trichotomy (nt a k) (nt b k) with h | h | h
        · have hci : cmpI (nt a k) (nt b k) = -1 := by unfold cmpI; rw [if_pos h]
          have HN : Aside0 (cmpL a b = -1) := ⟨cmpL_lt hlt hlt' HZ.out h⟩
          clear h
          go_wp2_with ((go_at_call 224; refine (cmpI_calls _ _ _).mono ?_; rw [hci]; rintro e w' ⟨rfl, rfl⟩))
          go_ret
          exact ⟨ret_i HN.out.symm, rfl⟩
        · have hci : cmpI (nt a k) (nt b k) = 0 := by unfold cmpI; rw [if_neg (by omega), if_neg (by omega)]
          have HN : Aside0 (∀ j < k + 1, nt a j = nt b j) := ⟨fun j hj => by rcases Nat.lt_succ_iff_lt_or_eq.1 hj with h' | h'; exact HZ.out j h'; subst h'; exact h⟩
          clear h
          go_wp2_with ((go_at_call 224; refine (cmpI_calls _ _ _).mono ?_; rw [hci]; rintro e w' ⟨rfl, rfl⟩))
          go_roundw
          case rel => exact ⟨k + 1, by go_num, by omega, by omega, HN, trivial⟩
          case measure => simp [intOf]; omega
        · have hci : cmpI (nt a k) (nt b k) = 1 := by unfold cmpI; rw [if_neg (by omega), if_pos h]
          have HN : Aside0 (cmpL a b = 1) := ⟨cmpL_gt hlt hlt' HZ.out h⟩
          clear h
          go_wp2_with ((go_at_call 224; refine (cmpI_calls _ _ _).mono ?_; rw [hci]; rintro e w' ⟨rfl, rfl⟩))
          go_ret
          exact ⟨ret_i HN.out.symm, rfl⟩
      · have HN : Aside0 (cmpL a b = 1) := ⟨cmpL_out (by omega) (fun j hj => HZ.out j (by omega))⟩
        go_wp2
        go_ret
        exact ⟨ret_i HN.out.symm, rfl⟩
    · have HN : Aside0 (cmpL a b = if a.length < b.length then -1 else 0) := ⟨cmpL_end (by omega) (fun j hj => HZ.out j (by omega))⟩
      by_cases hl : a.length < b.length
      · go_wp2
        go_ret
        exact ⟨ret_i (by rw [HN.out, if_pos hl]), rfl⟩
      · go_wp2
        go_ret
        exact ⟨ret_i (by rw [HN.out, if_neg hl]), rfl⟩
end Go.Proofs.YtbenhcognapdpaaGreat
/- Rows of rows sorted: the shelf's contract of slices.SortFunc at the headers of rows. -/
set_option linter.unusedVariables false
set_option linter.unusedSimpArgs false
namespace Go.Proofs.YtbenhcognapdpaaGreat
open Go.RowKit Go.Proofs.YtbenhcognapdpaaGreatW.PrintWords Go.Proofs.YtbenhcognapdpaaGreatW.PrintLast Lin Go.Sort

/-- A row of an own list, with its header. -/
theorem own_row {base g n cap : Nat} {ok : Nat → Prop} {W : World} {xs : List (List Int)} (h : kR.R 84 W base ok (.slice (some ⟨g, 0, none⟩) n cap) xs) (i : Nat) (hi : i < xs.length) :
    ∃ u, W.cell? ⟨g, i, none⟩ = some u ∧ kI.R 2 W base (fun k => ok k ∧ k ≠ g) u (ntR xs i) := by
  obtain ⟨_, _, hr⟩ := R_rows' h
  obtain ⟨ad, e, hc⟩ := hr.2.2 (by omega)
  cases e
  obtain ⟨c, hl, hM, hcell⟩ := hc i _ (List.getElem?_eq_getElem hi)
  obtain ⟨u, rfl, hu⟩ := hM
  have := hcell 0 u rfl
  rw [add_plain] at this
  refine ⟨u, by simpa [kR, Kd.slice] using this, ?_⟩
  rw [ntR_eq xs i hi]
  exact Kd.R_mono hu (fun k hk => ⟨hk.1, fun e => hk.2 (by rw [e]; rfl)⟩)
/-- What a sort leaves of the other blocks. -/
theorem sortWorld_heap {α : Type} [Inhabited α] (enc : α → Value) (w : World) (blk off m : Nat) (dk : Array α) (os : Array Obj) (k : Nat) (hk : k ≠ blk) (hl : k < w.heap.size) : (sortWorld enc w blk off m dk os).heap[k]? = w.heap[k]? := by
  unfold sortWorld Sort.grow Sort.putRow Sort.mapBlock Sort.ahead
  show ((w.heap.modify blk _) ++ os)[k]? = _
  rw [Array.getElem?_append_left (by simpa using hl), Array.getElem?_modify, if_neg (fun e => hk e.symm)]
end Go.Proofs.YtbenhcognapdpaaGreat
