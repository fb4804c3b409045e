/- Own texts of this claim, in one file: PolL, PolL2, Val, Val2, PolL3, OrbB, PolL4, PtsM. -/
import Derived.Test.YtbenhcognapdpaaGreatKR9b
import Derived.Test.YtbenhcognapdpaaGreatKR9i
import Derived.Test.YtbenhcognapdpaaGreatKR9h
import Derived.Test.YtbenhcognapdpaaGreatKR9f
import Derived.Test.YtbenhcognapdpaaGreatKR9e
import Derived.Test.YtbenhcognapdpaaGreatKR9a
/- Walks: lists of polynomials. -/
set_option linter.unusedVariables false
set_option linter.unusedSimpArgs false
namespace Go.Proofs.YtbenhcognapdpaaGreat
open Go.RowKit Go.Proofs.YtbenhcognapdpaaGreatW.PrintWords Go.Proofs.YtbenhcognapdpaaGreatW.PrintLast Lin

abbrev kP : Kd Pv := Kd.pair (Kd.int .i64) (Kd.pair (Kd.int .i64) (Kd.slice 151 kT))
def pcells (P : Pv) (A : Option Addr) (c : Nat) : Array Value := #[.int .i64 P.1, .int .i64 P.2.1, .slice A P.2.2.length c]
theorem sizeP : (Tryz.prog.info? 58).map (·.size) = some 3 := by kernel_rfl
theorem pcells_one (P : Pv) (A : Option Addr) (c : Nat) : (pcells P A c).all (·.oneCell') = true := by simp [pcells, Value.oneCell']
theorem poly_at {w : World} {A : Option Addr} {n : Nat} {ps : List Pv} (h : kP.C w A n ps) (i : Nat) (h1 : i < n) :
    ∃ ad P A' c', P = pvR ps i ∧ A = some ad ∧ P.2.2.length ≤ c' ∧ kT.C w A' P.2.2.length P.2.2 ∧ At w (ad.add (i * 3)) (pcells P A' c') := by
  obtain ⟨ad, c, e, _, hK, hc⟩ := Kd.C_get h (0, 0, []) (i : Int) (by omega) (by omega)
  obtain ⟨c0, c1, rfl, h0, c2, c3, rfl, h1', A', c', rfl, hl, hC⟩ := hK
  have e0 : c0 = [.int .i64 (pvR ps i).1] := h0
  have e1 : c2 = [.int .i64 (pvR ps i).2.1] := h1'
  subst e0 e1
  refine ⟨ad, pvR ps i, A', c', rfl, e, hl, hC, fun j v hj => ?_⟩
  rw [add_add']
  refine hc j v ?_
  have h4 : (pcells (pvR ps i) A' c')[j]? = ([.int .i64 (pvR ps i).1] ++ ([.int .i64 (pvR ps i).2.1] ++ [.slice A' (pvR ps i).2.2.length c']))[j]? := by unfold pcells; exact List.getElem?_toArray
  exact h4.symm.trans hj

set_option maxRecDepth 100000 in
set_option maxHeartbeats 1000000 in
theorem arePolys_calls (A : Option Addr) (q c : Nat) (ps : List Pv) (w : World) (hr : kP.C w A q ps) (ht : ∀ P ∈ ps, IsPv P) :
    Calls Tryz.prog 167 #[.slice A q c] w fun e w' => e = .returned (.bool (ps.all polB)) ∧ Below w.heap.size w w' := by
  obtain rfl := Kd.C_len hr
  have hmx := Kd.C_max hr
  have HR := Aside0.mk hr
  have HTA := Aside0.mk ht
  clear hr ht
  go_enter Tryz.func167, Tryz.ntmps167
  go_wp2
  go_loopw [7] (fun v wr => ∃ k : Nat, v = .int .i64 k ∧ k ≤ ps.length ∧ Aside0 (∀ j < k, polB (pvR ps j) = true) ∧ Aside0 (Below w.heap.size w wr)) (fun v _ => ps.length - (intOf v).toNat)
  case atStart => exact ⟨0, rfl, by omega, ⟨fun j hj => by omega⟩, ⟨Below.refl _ _⟩⟩
  case round =>
    obtain ⟨k, rfl, hk, HE, HB⟩ := hrel
    obtain ⟨wo, rfl⟩ : ∃ wo, wo = wr := ⟨_, rfl⟩
    by_cases hlt : k < ps.length
    · obtain ⟨ad, P, A', c', hpp, rfl, hc', hC', hc⟩ := poly_at (Kd.C_below HR.out HB.out) k hlt
      have HC := Aside0.mk hc
      have HCT := Aside0.mk (Kd.C_below hC' (below_alloc (Below.refl wo.heap.size wo) (.cells (pcells P A' c') 58)))
      have HPV : Aside0 (IsPv P) := ⟨HTA.out P (hpp ▸ pvR_mem ps k hlt)⟩
      have HPP := Aside0.mk hpp
      have H4 := Blk.new wo (pcells P A' c') 58
      have hd3 : decide ((k : Int) < ps.length) = true := decide_eq_true (by omega)
      replace HB := Aside0.mk (below_alloc HB.out (.cells (pcells P A' c') 58))
      have HK := Aside0.mk (IsPoly_calls P.1 P.2.1 A' P.2.2.length c' P.2.2 _ HCT.out HPV.out)
      clear hpp hC' hc
      cases hb : polB P
      · have HN : Aside0 (ps.all polB = false) := ⟨by rw [List.all_eq_false]; exact ⟨P, by rw [HPP.out]; exact pvR_mem ps k hlt, by simp [hb]⟩⟩
        rw [show polyB P.1 P.2.1 P.2.2 = false from hb] at HK
        go_wp2_with (first
          | (refine load_agg rfl _ 9 rfl (ad.add (k * 3)) HC.out rfl _ Tryz.underlying58 rfl sizeP ?_)
          | (refine gate_ (.store 58 (.tmp 4) (.tmp 10)) rfl ?_; go_must (refine store_blk (cs := pcells P A' c') rfl _ 4 _ rfl (Blk.new wo #[.int .i64 0, .int .i64 0, .slice none 0 0] 58) rfl rfl sizeP rfl (pcells_one _ _ _) ?_; rw [World.setRow_alloc_new]))
          | (refine load_blk rfl _ 4 rfl H4 rfl _ Tryz.underlying58 rfl sizeP ?_)
          | (go_at_call 76; refine HK.out.mono ?_; rintro e w2 ⟨rfl, hb⟩; replace HB := Aside0.mk (below_step HB.out hb); clear hb))
        go_ret
        exact ⟨ret_b HN.out.symm, HB.out⟩
      · have HE2 : Aside0 (∀ j < k + 1, polB (pvR ps j) = true) := ⟨fun j hj => by rcases Nat.lt_succ_iff_lt_or_eq.1 hj with h | h; exact HE.out j h; subst h; rw [← HPP.out]; exact hb⟩
        rw [show polyB P.1 P.2.1 P.2.2 = true from hb] at HK
        go_wp2_with (first
          | (refine load_agg rfl _ 9 rfl (ad.add (k * 3)) HC.out rfl _ Tryz.underlying58 rfl sizeP ?_)
          | (refine gate_ (.store 58 (.tmp 4) (.tmp 10)) rfl ?_; go_must (refine store_blk (cs := pcells P A' c') rfl _ 4 _ rfl (Blk.new wo #[.int .i64 0, .int .i64 0, .slice none 0 0] 58) rfl rfl sizeP rfl (pcells_one _ _ _) ?_; rw [World.setRow_alloc_new]))
          | (refine load_blk rfl _ 4 rfl H4 rfl _ Tryz.underlying58 rfl sizeP ?_)
          | (go_at_call 76; refine HK.out.mono ?_; rintro e w2 ⟨rfl, hb⟩; replace HB := Aside0.mk (below_step HB.out hb); clear hb))
        go_roundw
        case rel => exact ⟨k + 1, by go_num, by omega, HE2, HB⟩
        case measure => simp [intOf]; omega
    · have HN : Aside0 (ps.all polB = true) := ⟨by
        rw [List.all_eq_true]
        intro P hP
        obtain ⟨j, hj, rfl⟩ := List.mem_iff_getElem.1 hP
        rw [← pvR_eq ps j hj]
        exact HE.out j (by omega)⟩
      go_wp2
      go_ret
      exact ⟨ret_b HN.out.symm, HB.out⟩
end Go.Proofs.YtbenhcognapdpaaGreat
/- Walks: whether polynomials are like each other. -/
set_option linter.unusedVariables false
set_option linter.unusedSimpArgs false
namespace Go.Proofs.YtbenhcognapdpaaGreat
open Go.RowKit Go.Proofs.YtbenhcognapdpaaGreatW.PrintWords Go.Proofs.YtbenhcognapdpaaGreatW.PrintLast Lin

theorem add_form (a : Addr) {k : Nat} (h : k ≠ 0) : a.add k = ⟨a.block, a.off + k, none⟩ := by unfold Addr.add; rw [if_neg h]
theorem addr_zero (a : Addr) : a.add 0 = a := by simp [Addr.add]
theorem all_bad' {α : Type} {f : α → Bool} {l : List α} {x : α} (hx : x ∈ l) (h : f x = false) : l.all f = false := by
  rw [List.all_eq_false]; exact ⟨x, hx, by simp [h]⟩
theorem all_pv {f : Pv → Bool} {ps : List Pv} (h : ∀ j < ps.length, f (pvR ps j) = true) : ps.all f = true := by
  rw [List.all_eq_true]
  intro P hP
  obtain ⟨j, hj, rfl⟩ := List.mem_iff_getElem.1 hP
  rw [← pvR_eq ps j hj]
  exact h j hj
set_option maxHeartbeats 400000 in
theorem alike_calls (P Q : Pv) (A A' : Option Addr) (c c' : Nat) (w : World) {t : Bool} (ht : likeB P Q = t) :
    Calls Tryz.prog 222 #[.agg (pcells P A c), .agg (pcells Q A' c')] w fun e w' => e = .returned (.bool t) ∧ Below w.heap.size w w' := by
  have H1 := (Blk.new w (pcells P A c) 58).alloc (.cells (pcells Q A' c') 58)
  have H2 := Blk.new1 w (.cells (pcells P A c) 58) (pcells Q A' c') 58
  have HB := Aside0.mk (below_alloc (below_alloc (Below.refl w.heap.size w) (.cells (pcells P A c) 58)) (.cells (pcells Q A' c') 58))
  have c0 := H1.cell 0 (show (pcells P A c)[0]? = some (.int .i64 P.1) from rfl)
  have c1 := H2.cell 0 (show (pcells Q A' c')[0]? = some (.int .i64 Q.1) from rfl)
  have c2 := H1.cell 1 (show (pcells P A c)[1]? = some (.int .i64 P.2.1) from rfl)
  have c3 := H2.cell 1 (show (pcells Q A' c')[1]? = some (.int .i64 Q.2.1) from rfl)
  cases h0 : (P.1 == Q.1)
  · have HN : Aside0 (t = false) := ⟨by rw [← ht, likeB, h0]; rfl⟩
    clear ht
    go_enter Tryz.func222, Tryz.ntmps222
    go_wp2
    go_ret
    exact ⟨ret_b HN.out.symm, HB.out⟩
  · have HN : Aside0 (t = (P.2.1 == Q.2.1)) := ⟨by rw [← ht, likeB, h0]; rfl⟩
    clear ht
    go_enter Tryz.func222, Tryz.ntmps222
    go_wp2
    go_ret
    exact ⟨ret_b HN.out.symm, HB.out⟩
/-- All are like the first, and they are few. -/
def likesB (ps : List Pv) : Bool := ps.all (fun P => likeB P (pvR ps 0)) && decide (ps.length ≤ 8)
set_option maxRecDepth 100000 in
set_option maxHeartbeats 1000000 in
theorem areLike_calls (A : Option Addr) (q c : Nat) (ps : List Pv) (w : World) (hr : kP.C w A q ps) :
    Calls Tryz.prog 168 #[.slice A q c] w fun e w' => e = .returned (.bool (likesB ps)) ∧ Below w.heap.size w w' := by
  obtain rfl := Kd.C_len hr
  have hmx := Kd.C_max hr
  have HR := Aside0.mk hr
  clear hr
  go_enter Tryz.func168, Tryz.ntmps168
  go_wp2
  go_loopw [7] (fun v wr => ∃ k : Nat, v = .int .i64 k ∧ k ≤ ps.length ∧ Aside0 (∀ j < k, likeB (pvR ps j) (pvR ps 0) = true) ∧ Aside0 (Below w.heap.size w wr)) (fun v _ => ps.length - (intOf v).toNat)
  case atStart => exact ⟨0, rfl, by omega, ⟨fun j hj => by omega⟩, ⟨Below.refl _ _⟩⟩
  case round =>
    obtain ⟨k, rfl, hk, HE, HB⟩ := hrel
    obtain ⟨wo, rfl⟩ : ∃ wo, wo = wr := ⟨_, rfl⟩
    by_cases hlt : k < ps.length
    · obtain ⟨ad, P, A', c', hpp, rfl, hc', hC', hc⟩ := poly_at (Kd.C_below HR.out HB.out) k hlt
      obtain ⟨ad0, P0, A0, c0, hpp0, he0, hc0', hC0', hc0⟩ := poly_at (Kd.C_below HR.out HB.out) 0 (by omega)
      obtain rfl : ad = ad0 := Option.some.inj he0
      have HC := Aside0.mk hc
      have HC0 := Aside0.mk (hc0.below (below_alloc (Below.refl wo.heap.size wo) (.cells (pcells P A' c') 58)))
      have HPP := Aside0.mk hpp
      have HPP0 := Aside0.mk hpp0
      have H4 := Blk.new wo (pcells P A' c') 58
      have hd3 : decide ((k : Int) < ps.length) = true := decide_eq_true (by omega)
      have hgt : 0 < ps.length := by omega
      replace HB := Aside0.mk (below_alloc HB.out (.cells (pcells P A' c') 58))
      clear hpp hC' hc hpp0 he0 hc0' hC0' hc0
      cases hlk : likeB P P0
      · have HLK := Aside0.mk hlk
        have HN : Aside0 (likesB ps = false) := ⟨by unfold likesB; rw [all_bad' (x := P) (by rw [HPP.out]; exact pvR_mem ps k hlt) (by rw [← HPP0.out]; exact hlk)]; rfl⟩
        clear hlk
        go_wp2_with (first
          | (refine load_agg rfl _ 9 rfl (ad.add (k * 3)) HC.out rfl _ Tryz.underlying58 rfl sizeP ?_)
          | (refine gate_ (.store 58 (.tmp 4) (.tmp 10)) rfl ?_; go_must (refine store_blk (cs := pcells P A' c') rfl _ 4 _ rfl (Blk.new wo #[.int .i64 0, .int .i64 0, .slice none 0 0] 58) rfl rfl sizeP rfl (pcells_one _ _ _) ?_; rw [World.setRow_alloc_new]))
          | (refine load_blk rfl _ 4 rfl H4 rfl _ Tryz.underlying58 rfl sizeP ?_)
          )
        refine start_ (n := 6) (S := fun w' => At w' ⟨wo.heap.size, 0, none⟩ (pcells P A' c') ∧ At w' (ad.add (0 * 3)) (pcells P0 A0 c0)) (ds := []) #[Nn,Nn,Nn,Nn,Nn,Nn] (by kernel_rfl) rfl rfl ⟨H4.drew.at, HC0.out.drew⟩ (fun hHeld => ?_)
        refine pure_ (i := 1) (N := some 12) (v := ?_) (a' := ?_) #[Nn,Yy,Nn,Nn,Nn,Nn] rfl rfl (by kernel_rfl) (fun _ _ _ h => h) (Or.inl ⟨by rfl, ?_⟩) ?_ ?_
        rotate_left
        · intro w'
          go_simp
          with_reducible rfl
        rotate_left
        · simp only [Act.put, List.setIfInBounds_toArray, List.set_cons_zero, List.set_cons_succ, i64_w, i32_w]
          rfl
        refine pure_ (i := 2) (N := some 13) (v := ?_) (a' := ?_) #[Nn,Yy,Yy,Nn,Nn,Nn] rfl rfl (by kernel_rfl) (fun _ _ _ h => h) (Or.inl ⟨by rfl, ?_⟩) ?_ ?_
        rotate_left
        · intro w'
          go_simp
          with_reducible rfl
        rotate_left
        · simp only [Act.put, List.setIfInBounds_toArray, List.set_cons_zero, List.set_cons_succ, i64_w, i32_w]
          rfl
        refine take_ (i := 0) (N := some 11) (v := ?_) (a' := ?_) #[Yy,Yy,Yy,Nn,Nn,Nn] rfl rfl (by kernel_rfl) (fun _ _ _ h => h) (Or.inl ⟨by rfl, ?_⟩) hHeld ?_ ?_
        rotate_left
        · rintro w' ⟨s0, s1⟩
          refine Eq.trans (run_op_load' s0 (by rfl) (by rfl) Tryz.underlying58 rfl sizeP) ?_
          with_reducible rfl
        rotate_left
        · simp only [Act.put, List.setIfInBounds_toArray, List.set_cons_zero, List.set_cons_succ, i64_w, i32_w]
          rfl
        refine take_ (i := 3) (N := some 14) (v := ?_) (a' := ?_) #[Yy,Yy,Yy,Yy,Nn,Nn] rfl rfl (by kernel_rfl) (fun _ _ _ h => h) (Or.inl ⟨by rfl, ?_⟩) hHeld ?_ ?_
        rotate_left
        · rintro w' ⟨s0, s1⟩
          refine Eq.trans (run_op_load' s1 (by rfl) (by rfl) Tryz.underlying58 rfl sizeP) ?_
          with_reducible rfl
        rotate_left
        · simp only [Act.put, List.setIfInBounds_toArray, List.set_cons_zero, List.set_cons_succ, i64_w, i32_w]
          rfl
        refine one_ (i := 4) (N := some 15) #[Yy,Yy,Yy,Yy,Yy,Nn] rfl rfl (by kernel_rfl) (by decide) (fun K hK => ?_)
        refine goes_ Tryz.func222 (by kernel_rfl) rfl #[.agg (pcells P A' c'), .agg (pcells P0 A0 c0)] (by rfl) rfl rfl (by simp only [List.map_toArray, List.map_cons, List.map_nil]; rfl) ?_
        with_reducible refine (alike_calls P P0 A' A0 c' c0 _ HLK.out).mono ?_
        rintro e w2 ⟨rfl, hb⟩
        refine ⟨_, rfl, ?_⟩
        replace H4 := H4.drew.keep hb
        replace HC0 := Aside0.mk (HC0.out.drew.below hb)
        replace HB := Aside0.mk (below_step (below_drew1 HB.out) hb)
        clear hb
        refine hK.out _ _ ⟨H4.at, HC0.out⟩ (fun hHeld => ?_)
        clear hK K
        refine norm_ (a' := ?_) ?_ ?_
        rotate_left
        · show Act.put _ (some 15) _ = _
          simp only [Act.put, List.setIfInBounds_toArray, List.set_cons_zero, List.set_cons_succ, i64_w, i32_w]
          rfl
        refine pure_ (i := 5) (N := some 16) (v := ?_) (a' := ?_) #[Yy,Yy,Yy,Yy,Yy,Yy] rfl rfl (by kernel_rfl) (fun _ _ _ h => h) (Or.inl ⟨by rfl, ?_⟩) ?_ ?_
        rotate_left
        · intro w'
          go_simp
          with_reducible rfl
        rotate_left
        · simp only [Act.put, List.setIfInBounds_toArray, List.set_cons_zero, List.set_cons_succ, i64_w, i32_w]
          rfl
        refine done_ (by kernel_rfl) ?_
        go_wp2
        go_ret
        exact ⟨ret_b HN.out.symm, HB.out⟩
      · have HLK := Aside0.mk hlk
        have HE2 : Aside0 (∀ j < k + 1, likeB (pvR ps j) (pvR ps 0) = true) := ⟨fun j hj => by rcases Nat.lt_succ_iff_lt_or_eq.1 hj with h | h; exact HE.out j h; subst h; rw [← HPP.out, ← HPP0.out]; exact hlk⟩
        clear hlk
        go_wp2_with (first
          | (refine load_agg rfl _ 9 rfl (ad.add (k * 3)) HC.out rfl _ Tryz.underlying58 rfl sizeP ?_)
          | (refine gate_ (.store 58 (.tmp 4) (.tmp 10)) rfl ?_; go_must (refine store_blk (cs := pcells P A' c') rfl _ 4 _ rfl (Blk.new wo #[.int .i64 0, .int .i64 0, .slice none 0 0] 58) rfl rfl sizeP rfl (pcells_one _ _ _) ?_; rw [World.setRow_alloc_new]))
          | (refine load_blk rfl _ 4 rfl H4 rfl _ Tryz.underlying58 rfl sizeP ?_)
          )
        refine start_ (n := 6) (S := fun w' => At w' ⟨wo.heap.size, 0, none⟩ (pcells P A' c') ∧ At w' (ad.add (0 * 3)) (pcells P0 A0 c0)) (ds := []) #[Nn,Nn,Nn,Nn,Nn,Nn] (by kernel_rfl) rfl rfl ⟨H4.drew.at, HC0.out.drew⟩ (fun hHeld => ?_)
        refine pure_ (i := 1) (N := some 12) (v := ?_) (a' := ?_) #[Nn,Yy,Nn,Nn,Nn,Nn] rfl rfl (by kernel_rfl) (fun _ _ _ h => h) (Or.inl ⟨by rfl, ?_⟩) ?_ ?_
        rotate_left
        · intro w'
          go_simp
          with_reducible rfl
        rotate_left
        · simp only [Act.put, List.setIfInBounds_toArray, List.set_cons_zero, List.set_cons_succ, i64_w, i32_w]
          rfl
        refine pure_ (i := 2) (N := some 13) (v := ?_) (a' := ?_) #[Nn,Yy,Yy,Nn,Nn,Nn] rfl rfl (by kernel_rfl) (fun _ _ _ h => h) (Or.inl ⟨by rfl, ?_⟩) ?_ ?_
        rotate_left
        · intro w'
          go_simp
          with_reducible rfl
        rotate_left
        · simp only [Act.put, List.setIfInBounds_toArray, List.set_cons_zero, List.set_cons_succ, i64_w, i32_w]
          rfl
        refine take_ (i := 0) (N := some 11) (v := ?_) (a' := ?_) #[Yy,Yy,Yy,Nn,Nn,Nn] rfl rfl (by kernel_rfl) (fun _ _ _ h => h) (Or.inl ⟨by rfl, ?_⟩) hHeld ?_ ?_
        rotate_left
        · rintro w' ⟨s0, s1⟩
          refine Eq.trans (run_op_load' s0 (by rfl) (by rfl) Tryz.underlying58 rfl sizeP) ?_
          with_reducible rfl
        rotate_left
        · simp only [Act.put, List.setIfInBounds_toArray, List.set_cons_zero, List.set_cons_succ, i64_w, i32_w]
          rfl
        refine take_ (i := 3) (N := some 14) (v := ?_) (a' := ?_) #[Yy,Yy,Yy,Yy,Nn,Nn] rfl rfl (by kernel_rfl) (fun _ _ _ h => h) (Or.inl ⟨by rfl, ?_⟩) hHeld ?_ ?_
        rotate_left
        · rintro w' ⟨s0, s1⟩
          refine Eq.trans (run_op_load' s1 (by rfl) (by rfl) Tryz.underlying58 rfl sizeP) ?_
          with_reducible rfl
        rotate_left
        · simp only [Act.put, List.setIfInBounds_toArray, List.set_cons_zero, List.set_cons_succ, i64_w, i32_w]
          rfl
        refine one_ (i := 4) (N := some 15) #[Yy,Yy,Yy,Yy,Yy,Nn] rfl rfl (by kernel_rfl) (by decide) (fun K hK => ?_)
        refine goes_ Tryz.func222 (by kernel_rfl) rfl #[.agg (pcells P A' c'), .agg (pcells P0 A0 c0)] (by rfl) rfl rfl (by simp only [List.map_toArray, List.map_cons, List.map_nil]; rfl) ?_
        with_reducible refine (alike_calls P P0 A' A0 c' c0 _ HLK.out).mono ?_
        rintro e w2 ⟨rfl, hb⟩
        refine ⟨_, rfl, ?_⟩
        replace H4 := H4.drew.keep hb
        replace HC0 := Aside0.mk (HC0.out.drew.below hb)
        replace HB := Aside0.mk (below_step (below_drew1 HB.out) hb)
        clear hb
        refine hK.out _ _ ⟨H4.at, HC0.out⟩ (fun hHeld => ?_)
        clear hK K
        refine norm_ (a' := ?_) ?_ ?_
        rotate_left
        · show Act.put _ (some 15) _ = _
          simp only [Act.put, List.setIfInBounds_toArray, List.set_cons_zero, List.set_cons_succ, i64_w, i32_w]
          rfl
        refine pure_ (i := 5) (N := some 16) (v := ?_) (a' := ?_) #[Yy,Yy,Yy,Yy,Yy,Yy] rfl rfl (by kernel_rfl) (fun _ _ _ h => h) (Or.inl ⟨by rfl, ?_⟩) ?_ ?_
        rotate_left
        · intro w'
          go_simp
          with_reducible rfl
        rotate_left
        · simp only [Act.put, List.setIfInBounds_toArray, List.set_cons_zero, List.set_cons_succ, i64_w, i32_w]
          rfl
        refine done_ (by kernel_rfl) ?_
        go_wp2
        go_roundw
        case rel => exact ⟨k + 1, by go_num, by omega, HE2, HB⟩
        case measure => simp [intOf]; omega
    · have HN : Aside0 (likesB ps = decide ((ps.length : Int) ≤ 8)) := ⟨by
        unfold likesB
        rw [all_pv (fun j hj => HE.out j (by omega)), Bool.true_and, Bool.eq_iff_iff, decide_eq_true_iff, decide_eq_true_iff]
        omega⟩
      go_wp2
      go_ret
      exact ⟨by rw [HN.out]; first | rfl | (congr 3; rw [Bool.eq_iff_iff, decide_eq_true_iff, decide_eq_true_iff]; omega), HB.out⟩
end Go.Proofs.YtbenhcognapdpaaGreat
/- Walks: the value of a polynomial at a point. -/
set_option linter.unusedVariables false
set_option linter.unusedSimpArgs false
namespace Go.Proofs.YtbenhcognapdpaaGreat
open Go.RowKit Go.Proofs.YtbenhcognapdpaaGreatW.PrintWords Go.Proofs.YtbenhcognapdpaaGreatW.PrintLast Lin

theorem polOk_term {p d : Int} {ts : List (List Int × Int)} (h : PolyOk p d ts) : ∀ j < ts.length, 0 ≤ (tmR ts j).2 ∧ (tmR ts j).2 < p := fun j hj => ⟨by have := (h.terms j hj).low; omega, (h.terms j hj).high⟩

set_option maxRecDepth 100000 in
set_option maxHeartbeats 2000000 in
theorem valueAt_calls (p : Int) (d : Nat) (A : Option Addr) (q c : Nat) (ts : List (List Int × Int)) (A' : Option Addr) (q' c' : Nat) (x : List Int) (w : World) (hr : kT.C w A q ts) (ht : ∀ t ∈ ts, Is3 t.1) (hr' : kI.C w A' q' x)
    (hok : PolyOk p d ts) (hx : Pt p d x) (hl : ts.length ≤ 1048576) :
    Calls Tryz.prog 173 #[.agg #[.int .i64 p, .int .i64 d, .slice A q c], .slice A' q' c'] w fun e w' => e = .returned (.int .i64 (valueV p x ts)) ∧ Below w.heap.size w w' := by
  obtain rfl := Kd.C_len hr
  obtain rfl := Kd.C_len hr'
  have HR := Aside0.mk hr
  have HR' := Aside0.mk hr'
  have HTA := Aside0.mk ht
  have hpp := (primeB_iff.1 hok.prime).pos
  have hvv := hok.vars
  have hxl : x.length ≤ 3 := by have := hx.1; omega
  have HX := Aside0.mk hx.2
  have HTB := Aside0.mk (polOk_term hok)
  have HSB := Aside0.mk (fun j hj => sumV_bd (x := x) (show 0 < p by omega) (polOk_term hok) j hj)
  have hp0 : (p == 0) = false := by rw [beq_eq_false_iff_ne]; omega
  clear hr hr' ht hx hok
  have H1 := Blk.new w #[.int .i64 p, .int .i64 d, .slice A ts.length c] 58
  have HB := Aside0.mk (below_alloc (Below.refl w.heap.size w) (.cells #[.int .i64 p, .int .i64 d, .slice A ts.length c] 58))
  go_enter Tryz.func173, Tryz.ntmps173
  go_wp2
  go_loopw [5, 14] (fun v5 v14 wr => ∃ j : Nat, v14 = .int .i64 j ∧ j ≤ ts.length ∧ v5 = .int .i64 (sumV p x ts j) ∧ Blk wr w.heap.size 58 #[.int .i64 p, .int .i64 d, .slice A ts.length c] ∧ Aside0 (Below w.heap.size w wr)) (fun _ v14 _ => ts.length - (intOf v14).toNat)
  case atStart => exact ⟨0, rfl, by omega, rfl, H1, HB⟩
  case round =>
    clear H1 HB
    obtain ⟨j, rfl, hj, rfl, H1, HB⟩ := hrel
    have hsb := HSB.out j hj
    have hjp : (j : Int) * p ≤ 1048576 * 13 := Int.mul_le_mul (by omega) (by omega) (by omega) (by omega)
    obtain ⟨s, hs⟩ : ∃ s, s = sumV p x ts j := ⟨_, rfl⟩
    rw [← hs] at hsb ⊢
    have HS := Aside0.mk hs
    clear hs
    have hsl : s ≤ 1048576 * 13 := by omega
    have hsl0 := hsb.1
    clear hsb hjp
    by_cases hlt : j < ts.length
    · obtain ⟨ad, t, htt, rfl, ht3, hc⟩ := term_at (Kd.C_below HR.out HB.out) j hlt
      have HT : Aside0 (Is3 t.1) := ⟨HTA.out t (htt ▸ tmR_mem ts j hlt)⟩
      have HTV := Aside0.mk (fun i => termV_bd (p := p) (x := x) (t := t) (by omega) (by rw [htt]; exact HTB.out j hlt) i)
      have HC := Aside0.mk hc
      have HS2 : Aside0 (sumV p x ts (j + 1) = s + termV p x t x.length) := ⟨by rw [HS.out, htt]; rfl⟩
      clear htt hc
      have hd3 : decide ((j : Int) < ts.length) = true := decide_eq_true (by omega)
      obtain ⟨wo, rfl⟩ : ∃ wo, wo = wr := ⟨_, rfl⟩
      have H4 := Blk.new wo (tcells t) 151
      have hgl := H1.lt
      replace H1 := H1.alloc (.cells (tcells t) 151)
      replace HB := Aside0.mk (below_alloc HB.out (.cells (tcells t) 151))
      have c3 : (wo.alloc (.cells (tcells t) 151)).cell? ⟨wo.heap.size, 3, none⟩ = some (.int .i64 t.2) := H4.cell 3 (tcells_val ht3)
      go_wp2_with (first
        | (refine load_agg rfl _ 16 rfl (ad.add (j * 4)) HC.out rfl _ Tryz.underlying151 rfl (sizeT_of ht3) ?_)
        | (refine gate_ (.store 151 (.tmp 7) (.tmp 17)) rfl ?_; go_must (refine store_blk (cs := tcells t) rfl _ 7 _ rfl (Blk.new wo #[.int .u8 0, .int .u8 0, .int .u8 0, .int .i64 0] 151) rfl rfl (sizeT_of ht3) (by rw [tcells_size ht3]; rfl) (tcells_one t) ?_; rw [World.setRow_alloc_new])))
      clear HC c3
      go_loopw [8, 22] (fun v8 v22 wx => ∃ i : Nat, v22 = .int .i64 i ∧ i ≤ x.length ∧ v8 = .int .i64 (termV p x t i) ∧ Blk wx w.heap.size 58 #[.int .i64 p, .int .i64 d, .slice (some ad) ts.length c] ∧ Blk wx wo.heap.size 151 (tcells t) ∧ Aside0 (Below w.heap.size w wx)) (fun _ v22 _ => x.length - (intOf v22).toNat)
      case atStart => exact ⟨0, rfl, by omega, rfl, H1, H4, HB⟩
      case round =>
        clear H1 H4 HB
        obtain ⟨i, rfl, hi, rfl, H1, H4, HB⟩ := hrel
        have htv := HTV.out i
        have HP2 : Aside0 (termV p x t (i + 1) = powV p (nt x i) (termV p x t i) (nt t.1 i).toNat) := ⟨rfl⟩
        obtain ⟨z, hz⟩ : ∃ z, z = termV p x t i := ⟨_, rfl⟩
        rw [← hz] at htv HP2 ⊢
        have HZ := Aside0.mk hz
        clear hz
        by_cases hil : i < x.length
        · obtain ⟨adx, rfl, hcx⟩ := at_nt (Kd.C_below HR'.out HB.out) i hil
          have hbx := HX.out.nt (show 0 < p by omega) i
          have hi3 : i < 3 := by omega
          have c0 : wr.cell? ⟨wo.heap.size, i, none⟩ = some (.int .u8 (nt t.1 i)) := H4.cell i (tcells_exp ht3 hi3)
          have hbe := HT.out.nt i
          have HPB := Aside0.mk (fun m => powV_bd (p := p) (a := nt x i) (n := z) (by omega) htv m)
          obtain ⟨a, ha⟩ : ∃ a, a = nt x i := ⟨_, rfl⟩
          rw [← ha] at hcx hbx HP2 HPB
          clear ha
          obtain ⟨en, hen⟩ : ∃ en : Nat, nt t.1 i = en := ⟨(nt t.1 i).toNat, by omega⟩
          rw [hen] at c0 hbe HP2
          rw [Int.toNat_natCast] at HP2
          clear hen
          have hd4 : decide ((i : Int) < x.length) = true := decide_eq_true (by omega)
          go_wp2
          go_loopw [8, 31] (fun v8 v31 wy => ∃ m : Nat, v31 = .int .u8 m ∧ m ≤ en ∧ v8 = .int .i64 (powV p a z m) ∧ Blk wy w.heap.size 58 #[.int .i64 p, .int .i64 d, .slice (some ad) ts.length c] ∧ Blk wy wo.heap.size 151 (tcells t) ∧ Aside0 (Below w.heap.size w wy)) (fun _ v31 _ => en - (intOf v31).toNat)
          case atStart => exact ⟨0, rfl, by omega, rfl, H1, H4, HB⟩
          case round =>
            clear H1 H4 HB c0 hcx
            obtain ⟨m, rfl, hm, rfl, H1, H4, HB⟩ := hrel
            have hpb := HPB.out m
            have HPS : Aside0 (powV p a z (m + 1) = powV p a z m * a % p) := ⟨rfl⟩
            obtain ⟨y, hy⟩ : ∃ y, y = powV p a z m := ⟨_, rfl⟩
            rw [← hy] at hpb HPS ⊢
            have HY := Aside0.mk hy
            clear hy
            by_cases hml : m < en
            · have hd5 : decide ((m : Int) < en) = true := decide_eq_true (by omega)
              have k0 := H1.cell 0 rfl
              have m1 : 0 ≤ y * a := Int.mul_nonneg hpb.1 hbx.1
              have m2 : y * a ≤ 13 * 13 := Int.mul_le_mul (by omega) (by omega) (by omega) (by omega)
              go_wp2
              go_roundw
              case rel => exact ⟨m + 1, by go_num, by omega, by rw [HPS.out], H1, H4, HB⟩
              case measure => simp [intOf]; omega
            · obtain rfl : m = en := by omega
              have HP3 : Aside0 (termV p x t (i + 1) = y) := ⟨by rw [HP2.out, ← HY.out]⟩
              go_wp2
              go_roundw
              case rel => exact ⟨i + 1, by go_num, by omega, by rw [HP3.out], H1, H4, HB⟩
              case measure => simp [intOf]; omega
        · obtain rfl : i = x.length := by omega
          have htv1 := htv.1
          have htv2 := htv.2
          go_wp2
          go_roundw
          case rel => exact ⟨j + 1, by go_num, by omega, by rw [HS2.out, ← HZ.out], H1, HB⟩
          case measure => simp [intOf]; omega
    · obtain rfl : j = ts.length := by omega
      have HV : Aside0 (valueV p x ts = s % p) := ⟨by unfold valueV; rw [← HS.out]⟩
      have k0 := H1.cell 0 rfl
      go_wp2
      go_ret
      exact ⟨by rw [HV.out]; rfl, HB.out⟩
end Go.Proofs.YtbenhcognapdpaaGreat
/- Walk: the value of a polynomial at a point, in the specification. -/
set_option linter.unusedVariables false
set_option linter.unusedSimpArgs false
namespace Go.Proofs.YtbenhcognapdpaaGreat
open Go.RowKit Go.Proofs.YtbenhcognapdpaaGreatW.PrintWords Go.Proofs.YtbenhcognapdpaaGreatW.PrintLast Lin

set_option maxRecDepth 100000 in
set_option maxHeartbeats 2000000 in
theorem l01Value_calls (p : Int) (d : Nat) (A : Option Addr) (q c : Nat) (ts : List (List Int × Int)) (A' : Option Addr) (q' c' : Nat) (x : List Int) (w : World) (hr : kT.C w A q ts) (ht : ∀ t ∈ ts, Is3 t.1) (hr' : kI.C w A' q' x)
    (hok : PolyOk p d ts) (hx : Pt p d x) (hl : ts.length ≤ 1048576) :
    Calls Tryz.prog 166 #[.agg #[.int .i64 p, .int .i64 d, .slice A q c], .slice A' q' c'] w fun e w' => e = .returned (.int .i64 (valueV p x ts)) ∧ Below w.heap.size w w' := by
  obtain rfl := Kd.C_len hr
  obtain rfl := Kd.C_len hr'
  have HR := Aside0.mk hr
  have HR' := Aside0.mk hr'
  have HTA := Aside0.mk ht
  have hpp := (primeB_iff.1 hok.prime).pos
  have hvv := hok.vars
  have hxl : x.length ≤ 3 := by have := hx.1; omega
  have HX := Aside0.mk hx.2
  have HTB := Aside0.mk (polOk_term hok)
  have HSB := Aside0.mk (fun j hj => sumV_bd (x := x) (show 0 < p by omega) (polOk_term hok) j hj)
  have hp0 : (p == 0) = false := by rw [beq_eq_false_iff_ne]; omega
  clear hr hr' ht hx hok
  have H1 := Blk.new w #[.int .i64 p, .int .i64 d, .slice A ts.length c] 58
  have HB := Aside0.mk (below_alloc (Below.refl w.heap.size w) (.cells #[.int .i64 p, .int .i64 d, .slice A ts.length c] 58))
  go_enter Tryz.func166, Tryz.ntmps166
  go_wp2
  go_loopw [5, 6] (fun v5 v6 wr => ∃ j : Nat, v6 = .int .i64 j ∧ j ≤ ts.length ∧ v5 = .int .i64 (sumV p x ts j) ∧ Blk wr w.heap.size 58 #[.int .i64 p, .int .i64 d, .slice A ts.length c] ∧ Aside0 (Below w.heap.size w wr)) (fun _ v6 _ => ts.length - (intOf v6).toNat)
  case atStart => exact ⟨0, rfl, by omega, rfl, H1, HB⟩
  case round =>
    clear H1 HB
    obtain ⟨j, rfl, hj, rfl, H1, HB⟩ := hrel
    have hsb := HSB.out j hj
    have hjp : (j : Int) * p ≤ 1048576 * 13 := Int.mul_le_mul (by omega) (by omega) (by omega) (by omega)
    obtain ⟨s, hs⟩ : ∃ s, s = sumV p x ts j := ⟨_, rfl⟩
    rw [← hs] at hsb ⊢
    have HS := Aside0.mk hs
    clear hs
    have hsl : s ≤ 1048576 * 13 := by omega
    have hsl0 := hsb.1
    clear hsb hjp
    by_cases hlt : j < ts.length
    · obtain ⟨ad, t, htt, rfl, ht3, hc⟩ := term_at (Kd.C_below HR.out HB.out) j hlt
      have HT : Aside0 (Is3 t.1) := ⟨HTA.out t (htt ▸ tmR_mem ts j hlt)⟩
      have HTV := Aside0.mk (fun i => termV_bd (p := p) (x := x) (t := t) (by omega) (by rw [htt]; exact HTB.out j hlt) i)
      have HC := Aside0.mk hc
      have HS2 : Aside0 (sumV p x ts (j + 1) = s + termV p x t x.length) := ⟨by rw [HS.out, htt]; rfl⟩
      clear htt hc
      have hd3 : decide ((j : Int) < ts.length) = true := decide_eq_true (by omega)
      obtain ⟨wo, rfl⟩ : ∃ wo, wo = wr := ⟨_, rfl⟩
      have k2 := H1.cell 2 rfl
      have c3 : wo.cell? ((ad.add (j * 4)).add 3) = some (.int .i64 t.2) := HC.out.val ht3
      have c3' : wo.cell? ⟨(ad.add (j * 4)).block, (ad.add (j * 4)).off + 3, none⟩ = some (.int .i64 t.2) := c3
      go_wp2
      clear c3 c3' k2
      go_loopw [7, 8] (fun v7 v8 wx => ∃ i : Nat, v8 = .int .i64 i ∧ i ≤ x.length ∧ v7 = .int .i64 (termV p x t i) ∧ Blk wx w.heap.size 58 #[.int .i64 p, .int .i64 d, .slice (some ad) ts.length c] ∧ Aside0 (At wx (ad.add (j * 4)) (tcells t)) ∧ Aside0 (Below w.heap.size w wx)) (fun _ v8 _ => x.length - (intOf v8).toNat)
      case atStart => exact ⟨0, rfl, by omega, rfl, H1, HC, HB⟩
      case round =>
        clear H1 HC HB
        obtain ⟨i, rfl, hi, rfl, H1, HC, HB⟩ := hrel
        have htv := HTV.out i
        have HP2 : Aside0 (termV p x t (i + 1) = powV p (nt x i) (termV p x t i) (nt t.1 i).toNat) := ⟨rfl⟩
        obtain ⟨z, hz⟩ : ∃ z, z = termV p x t i := ⟨_, rfl⟩
        rw [← hz] at htv HP2 ⊢
        have HZ := Aside0.mk hz
        clear hz
        by_cases hil : i < x.length
        · obtain ⟨adx, rfl, hcx⟩ := at_nt (Kd.C_below HR'.out HB.out) i hil
          have hbx := HX.out.nt (show 0 < p by omega) i
          have hi3 : i < 3 := by omega
          have c0 : wr.cell? ((ad.add (j * 4)).add i) = some (.int .u8 (nt t.1 i)) := HC.out.exp ht3 hi3
          have k2 := H1.cell 2 rfl
          have hbe := HT.out.nt i
          have HPB := Aside0.mk (fun m => powV_bd (p := p) (a := nt x i) (n := z) (by omega) htv m)
          obtain ⟨a, ha⟩ : ∃ a, a = nt x i := ⟨_, rfl⟩
          rw [← ha] at hcx hbx HP2 HPB
          clear ha
          obtain ⟨en, hen⟩ : ∃ en : Nat, nt t.1 i = en := ⟨(nt t.1 i).toNat, by omega⟩
          rw [hen] at c0 hbe HP2
          rw [Int.toNat_natCast] at HP2
          clear hen
          have hd4 : decide ((i : Int) < x.length) = true := decide_eq_true (by omega)
          have HCX := Aside0.mk (hcx : wr.cell? (adx.add i) = some (.int .i64 a))
          clear hcx
          go_wp2
          clear k2
          go_loopw [7, 9] (fun v7 v9 wy => ∃ m : Nat, v9 = .int .u8 (en - m : Nat) ∧ m ≤ en ∧ v7 = .int .i64 (powV p a z m) ∧ Blk wy w.heap.size 58 #[.int .i64 p, .int .i64 d, .slice (some ad) ts.length c] ∧ Aside0 (wy.cell? (adx.add i) = some (.int .i64 a)) ∧ Aside0 (At wy (ad.add (j * 4)) (tcells t)) ∧ Aside0 (Below w.heap.size w wy)) (fun _ v9 _ => (intOf v9).toNat)
          case atStart => exact ⟨0, by simp, by omega, rfl, H1, HCX, HC, HB⟩
          case round =>
            clear H1 HC HB c0 HCX
            obtain ⟨m, rfl, hm, rfl, H1, HCX, HC, HB⟩ := hrel
            have hpb := HPB.out m
            have HPS : Aside0 (powV p a z (m + 1) = powV p a z m * a % p) := ⟨rfl⟩
            obtain ⟨y, hy⟩ : ∃ y, y = powV p a z m := ⟨_, rfl⟩
            rw [← hy] at hpb HPS ⊢
            have HY := Aside0.mk hy
            clear hy
            by_cases hml : m < en
            · obtain ⟨e', he'⟩ : ∃ e', en - m = e' + 1 := ⟨en - m - 1, by omega⟩
              have HE' := Aside0.mk (show en - (m + 1) = e' by omega)
              have he8 : e' + 1 ≤ 255 := by omega
              rw [he']
              have HEM := Aside0.mk he'
              clear he'
              have hd5 : decide ((0 : Int) < ((e' + 1 : Nat) : Int)) = true := decide_eq_true (by omega)
              have k0 := H1.cell 0 rfl
              have hcx := HCX.out
              have m1 : 0 ≤ y * a := Int.mul_nonneg hpb.1 hbx.1
              have m2 : y * a ≤ 13 * 13 := Int.mul_le_mul (by omega) (by omega) (by omega) (by omega)
              have q1 : IntKind.i64.wrap (y * a) = y * a := IntWalk.i64_in _ (by omega)
              have q2 : (y * a).tmod p = y * a % p := Int.tmod_eq_emod_of_nonneg m1
              go_wp2
              go_quiet (fail)
              clear q1 q2
              go_wp2
              go_roundw
              case rel => exact ⟨m + 1, by rw [HE'.out], by omega, by rw [HPS.out], H1.drewN _, ⟨(World.cell?_drewN _ _ _).trans HCX.out⟩, ⟨fun j' v' h' => (World.cell?_drewN _ _ _).trans (HC.out j' v' h')⟩, ⟨(by repeat (first | (with_reducible first | exact HB.out | apply below_alloc | apply pw_below_drewN | apply below_drew1) | exact HB.out | exact Below.refl _ _))⟩⟩
              case measure => simp [intOf]
            · obtain rfl : m = en := by omega
              have HP3 : Aside0 (termV p x t (i + 1) = y) := ⟨by rw [HP2.out, ← HY.out]⟩
              have hd5 : ((m - m : Nat) : Int) = 0 := by simp
              go_wp2
              go_roundw
              case rel => exact ⟨i + 1, by go_num, by omega, by rw [HP3.out], H1, HC, HB⟩
              case measure => simp [intOf]; omega
        · obtain rfl : i = x.length := by omega
          have htv1 := htv.1
          have htv2 := htv.2
          go_wp2
          go_roundw
          case rel => exact ⟨j + 1, by go_num, by omega, by rw [HS2.out, ← HZ.out], H1, HB⟩
          case measure => simp [intOf]; omega
    · obtain rfl : j = ts.length := by omega
      have HV : Aside0 (valueV p x ts = s % p) := ⟨by unfold valueV; rw [← HS.out]⟩
      have k0 := H1.cell 0 rfl
      have k2 := H1.cell 2 rfl
      go_wp2
      go_ret
      exact ⟨by rw [HV.out]; rfl, HB.out⟩
end Go.Proofs.YtbenhcognapdpaaGreat
/- Walks: the specification's code of polynomials; polynomials for a group; lists of values. -/
set_option linter.unusedVariables false
set_option linter.unusedSimpArgs false
namespace Go.Proofs.YtbenhcognapdpaaGreat
open Go.RowKit Go.Proofs.YtbenhcognapdpaaGreatW.PrintWords Go.Proofs.YtbenhcognapdpaaGreatW.PrintLast Lin

noncomputable def likeC (ps : List Pv) : Int := if ps.all polB = true then if likesB ps = true then 0 else 2 else 1
set_option maxRecDepth 100000 in
set_option maxHeartbeats 1000000 in
theorem l09Like_calls (A : Option Addr) (q c : Nat) (ps : List Pv) (w : World) (hr : kP.C w A q ps) (ht : ∀ P ∈ ps, IsPv P) :
    Calls Tryz.prog 164 #[.slice A q c] w fun e w' => e = .returned (.int .i64 (likeC ps)) ∧ Below w.heap.size w w' := by
  obtain rfl := Kd.C_len hr
  have hmx := Kd.C_max hr
  have HR := Aside0.mk hr
  have HTA := Aside0.mk ht
  clear hr ht
  go_enter Tryz.func164, Tryz.ntmps164
  go_wp2
  go_loopw [3] (fun v wr => ∃ k : Nat, v = .int .i64 k ∧ k ≤ ps.length ∧ Aside0 (∀ j < k, polB (pvR ps j) = true) ∧ Aside0 (Below w.heap.size w wr)) (fun v _ => ps.length - (intOf v).toNat)
  case atStart => exact ⟨0, rfl, by omega, ⟨fun j hj => by omega⟩, ⟨Below.refl _ _⟩⟩
  case round =>
    obtain ⟨k, rfl, hk, HE, HB⟩ := hrel
    by_cases hlt : k < ps.length
    · obtain ⟨ad, P, A', c', hpp, rfl, hc', hC', hc⟩ := poly_at (Kd.C_below HR.out HB.out) k hlt
      have HC := Aside0.mk hc
      have HPV : Aside0 (IsPv P) := ⟨HTA.out P (hpp ▸ pvR_mem ps k hlt)⟩
      have HPP := Aside0.mk hpp
      have hd3 : decide ((k : Int) < ps.length) = true := decide_eq_true (by omega)
      have HK := Aside0.mk (l01Is_calls P.1 P.2.1 A' P.2.2.length c' P.2.2 _ hC' HPV.out)
      clear hpp hC' hc
      cases hb : polB P
      · have HN : Aside0 (likeC ps = 1) := ⟨by unfold likeC; rw [all_bad' (x := P) (by rw [HPP.out]; exact pvR_mem ps k hlt) hb]; rfl⟩
        rw [show polyB P.1 P.2.1 P.2.2 = false from hb] at HK
        go_wp2_with (first
          | (refine load_agg (cs := pcells P A' c') rfl _ 13 rfl (ad.add (k * 3)) HC.out rfl _ Tryz.underlying58 rfl sizeP ?_)
          | (go_at_call 72; refine HK.out.mono ?_; rintro e w2 ⟨rfl, hb⟩; replace HB := Aside0.mk (below_step HB.out hb); clear hb))
        go_ret
        exact ⟨ret_i HN.out.symm, HB.out⟩
      · have HE2 : Aside0 (∀ j < k + 1, polB (pvR ps j) = true) := ⟨fun j hj => by rcases Nat.lt_succ_iff_lt_or_eq.1 hj with h | h; exact HE.out j h; subst h; rw [← HPP.out]; exact hb⟩
        rw [show polyB P.1 P.2.1 P.2.2 = true from hb] at HK
        go_wp2_with (first
          | (refine load_agg (cs := pcells P A' c') rfl _ 13 rfl (ad.add (k * 3)) HC.out rfl _ Tryz.underlying58 rfl sizeP ?_)
          | (go_at_call 72; refine HK.out.mono ?_; rintro e w2 ⟨rfl, hb⟩; replace HB := Aside0.mk (below_step HB.out hb); clear hb))
        go_roundw
        case rel => exact ⟨k + 1, by go_num, by omega, HE2, HB⟩
        case measure => simp [intOf]; omega
    · have HAL : Aside0 (ps.all polB = true) := ⟨all_pv (fun j hj => HE.out j (by omega))⟩
      by_cases h8 : ps.length ≤ 8
      rotate_left
      · have hb8 : decide ((8 : Int) < ps.length) = true := decide_eq_true (by omega)
        have HN : Aside0 (likeC ps = 2) := ⟨by unfold likeC likesB; rw [HAL.out, decide_eq_false h8, Bool.and_false]; rfl⟩
        go_wp2
        go_ret
        exact ⟨ret_i HN.out.symm, HB.out⟩
      have hb8 : decide ((8 : Int) < ps.length) = false := decide_eq_false (by omega)
      obtain ⟨wo, rfl⟩ : ∃ wo, wo = wr := ⟨_, rfl⟩
      go_wp2
      go_loopw [4] (fun v wr => ∃ k : Nat, v = .int .i64 k ∧ k ≤ ps.length ∧ Aside0 (∀ j < k, likeB (pvR ps j) (pvR ps 0) = true) ∧ Aside0 (Below w.heap.size w wr)) (fun v _ => ps.length - (intOf v).toNat)
      case atStart => exact ⟨0, rfl, by omega, ⟨fun j hj => by omega⟩, HB⟩
      case round =>
        clear HB HE
        obtain ⟨k, rfl, hk, HE, HB⟩ := hrel
        by_cases hlt : k < ps.length
        · obtain ⟨ad, P, A', c', hpp, rfl, hc', hC', hc⟩ := poly_at (Kd.C_below HR.out HB.out) k hlt
          obtain ⟨ad0, P0, A0, c0, hpp0, he0, hc0', hC0', hc0⟩ := poly_at (Kd.C_below HR.out HB.out) 0 (by omega)
          obtain rfl : ad = ad0 := Option.some.inj he0
          have HPP := Aside0.mk hpp
          have HPP0 := Aside0.mk hpp0
          have hd3 : decide ((k : Int) < ps.length) = true := decide_eq_true (by omega)
          have hgt : 0 < ps.length := by omega
          have f0 : wr.cell? (ad.add (k * 3)) = some (.int .i64 P.1) := by have h := hc 0 (.int .i64 P.1) rfl; rwa [addr_zero] at h
          have f1 : wr.cell? ⟨(ad.add (k * 3)).block, (ad.add (k * 3)).off + 1, none⟩ = some (.int .i64 P.2.1) := hc 1 (.int .i64 P.2.1) rfl
          have g0 : wr.cell? ad = some (.int .i64 P0.1) := by have h := hc0 0 (.int .i64 P0.1) rfl; rwa [addr_zero, show 0 * 3 = 0 from rfl, addr_zero] at h
          have g0' : wr.cell? (ad.add 0) = some (.int .i64 P0.1) := by rw [addr_zero]; exact g0
          have g1 : wr.cell? ⟨ad.block, ad.off + 1, none⟩ = some (.int .i64 P0.2.1) := by have h := hc0 1 (.int .i64 P0.2.1) rfl; rwa [show 0 * 3 = 0 from rfl, addr_zero] at h
          have g1' : wr.cell? ⟨(ad.add 0).block, (ad.add 0).off + 1, none⟩ = some (.int .i64 P0.2.1) := by rw [addr_zero]; exact g1
          clear hpp hC' hc hpp0 he0 hc0' hC0' hc0
          have HBAD : Aside0 (likeB P P0 = false → likeC ps = 2) := ⟨fun h => by unfold likeC likesB; rw [HAL.out, all_bad' (x := P) (by rw [HPP.out]; exact pvR_mem ps k hlt) (by rw [← HPP0.out]; exact h)]; rfl⟩
          cases h1 : (P.1 == P0.1)
          · have hb1 : (P.1 != P0.1) = true := by simpa using h1
            have HN := Aside0.mk (HBAD.out (by unfold likeB; rw [h1]; rfl))
            clear h1
            go_wp2
            go_quiet (fail)
            go_wp2
            go_ret
            exact ⟨ret_i HN.out.symm, (by repeat (first | (with_reducible first | exact HB.out | apply below_alloc | apply pw_below_drewN | apply below_drew1) | exact HB.out | exact Below.refl _ _))⟩
          have hb1 : (P.1 != P0.1) = false := by simpa using h1
          cases h2 : (P.2.1 == P0.2.1)
          · have hb2 : (P.2.1 != P0.2.1) = true := by simpa using h2
            have HN := Aside0.mk (HBAD.out (by unfold likeB; rw [h1, h2]; rfl))
            clear h1 h2
            go_wp2
            go_quiet (fail)
            go_wp2
            go_ret
            exact ⟨ret_i HN.out.symm, (by repeat (first | (with_reducible first | exact HB.out | apply below_alloc | apply pw_below_drewN | apply below_drew1) | exact HB.out | exact Below.refl _ _))⟩
          · have hb2 : (P.2.1 != P0.2.1) = false := by simpa using h2
            have HE2 : Aside0 (∀ j < k + 1, likeB (pvR ps j) (pvR ps 0) = true) := ⟨fun j hj => by rcases Nat.lt_succ_iff_lt_or_eq.1 hj with h | h; exact HE.out j h; subst h; rw [← HPP.out, ← HPP0.out]; unfold likeB; rw [h1, h2]; rfl⟩
            clear h1 h2
            go_wp2
            go_quiet (fail)
            go_wp2
            go_roundw
            case rel => exact ⟨k + 1, by go_num, by omega, HE2, ⟨(by repeat (first | (with_reducible first | exact HB.out | apply below_alloc | apply pw_below_drewN | apply below_drew1) | exact HB.out | exact Below.refl _ _))⟩⟩
            case measure => simp [intOf]; omega
        · have HN : Aside0 (likeC ps = 0) := ⟨by
            unfold likeC likesB
            rw [HAL.out, all_pv (f := fun P => likeB P (pvR ps 0)) (fun j hj => HE.out j (by omega)), decide_eq_true h8]
            rfl⟩
          go_wp2
          go_ret
          exact ⟨ret_i HN.out.symm, HB.out⟩
set_option maxHeartbeats 400000 in
theorem forGroup_calls (p n : Int) (A' : Option Addr) (q' c' : Nat) (P : Pv) (A : Option Addr) (c : Nat) (w : World) {t : Bool} (ht : ((P.1 == p) && (P.2.1 == n)) = t) :
    Calls Tryz.prog 77 #[.agg #[.int .i64 p, .int .i64 n, .slice A' q' c'], .agg (pcells P A c)] w fun e w' => e = .returned (.bool t) ∧ Below w.heap.size w w' := by
  have H1 := (Blk.new w #[.int .i64 p, .int .i64 n, .slice A' q' c'] 37).alloc (.cells (pcells P A c) 58)
  have H2 := Blk.new1 w (.cells #[.int .i64 p, .int .i64 n, .slice A' q' c'] 37) (pcells P A c) 58
  have HB := Aside0.mk (below_alloc (below_alloc (Below.refl w.heap.size w) (.cells #[.int .i64 p, .int .i64 n, .slice A' q' c'] 37)) (.cells (pcells P A c) 58))
  have c0 := H1.cell 0 rfl
  have c1 := H2.cell 0 (show (pcells P A c)[0]? = some (.int .i64 P.1) from rfl)
  have c2 := H1.cell 1 rfl
  have c3 := H2.cell 1 (show (pcells P A c)[1]? = some (.int .i64 P.2.1) from rfl)
  cases h0 : (P.1 == p)
  · have HN : Aside0 (t = false) := ⟨by rw [← ht, h0]; rfl⟩
    clear ht
    go_enter Tryz.func77, Tryz.ntmps77
    go_wp2
    go_ret
    exact ⟨ret_b HN.out.symm, HB.out⟩
  · have HN : Aside0 (t = (P.2.1 == n)) := ⟨by rw [← ht, h0]; rfl⟩
    clear ht
    go_enter Tryz.func77, Tryz.ntmps77
    go_wp2
    go_ret
    exact ⟨ret_b HN.out.symm, HB.out⟩
end Go.Proofs.YtbenhcognapdpaaGreat
/- Rows of rows: cuts, literals of one row, appends of many rows. -/
set_option linter.unusedVariables false
set_option linter.unusedSimpArgs false
namespace Go.Proofs.YtbenhcognapdpaaGreat
open Go.RowKit Go.Proofs.YtbenhcognapdpaaGreatW.PrintWords Go.Proofs.YtbenhcognapdpaaGreatW.PrintLast Lin

theorem rows_drop {α : Type} {R : α → List Value → Prop} {size m c : Nat} {w : World} {A : Option Addr} {xs : List α} (h : ReadsRow R size w A xs.length xs) (hm : m ≤ xs.length) (hc : xs.length ≤ c) :
    ReadsRow R size w (if c = m then A else A.map (·.add (m * size))) (xs.length - m) (xs.drop m) := by
  refine ⟨List.length_drop, by have := h.2.1; omega, fun hp => ?_⟩
  obtain ⟨ad, rfl, hcell⟩ := h.2.2 (by omega)
  rw [if_neg (by omega)]
  refine ⟨ad.add (m * size), rfl, fun j p hj => ?_⟩
  rw [List.getElem?_drop] at hj
  obtain ⟨cs, h1, h2, h3⟩ := hcell (m + j) p hj
  refine ⟨cs, h1, h2, fun i u hu => ?_⟩
  rw [add_add', show m * size + (j * size + i) = (m + j) * size + i by rw [Nat.add_mul]; omega]
  exact h3 i u hu
theorem rows_take {α : Type} {R : α → List Value → Prop} {size m : Nat} {w : World} {A : Option Addr} {xs : List α} (h : ReadsRow R size w A xs.length xs) (hm : m ≤ xs.length) :
    ReadsRow R size w A m (xs.take m) := by
  refine ⟨by rw [List.length_take]; omega, by have := h.2.1; omega, fun hp => ?_⟩
  obtain ⟨ad, rfl, hcell⟩ := h.2.2 (by omega)
  refine ⟨ad, rfl, fun j p hj => ?_⟩
  rw [List.getElem?_take] at hj
  split at hj
  · exact hcell j p hj
  · cases hj
theorem R_rows {α : Type} {d : Kd α} {e base : Nat} {ok : Nat → Prop} {W : World} {v : Value} {xs : List α} (h : d.R e W base ok v xs) :
    ∃ A c, v = .slice A xs.length c ∧ xs.length ≤ c ∧ ReadsRow (d.M W base (fun k => ok k ∧ some k ≠ v.ownBlock)) d.sz W A xs.length xs := by
  obtain ⟨h0, inner, hown, hr⟩ := h
  obtain ⟨A, c, hv, h1⟩ := own_reads_row hown hr rfl
  obtain ⟨A', c', hv', hle⟩ := OwnRow.slice_ (R := d.M W base (fun k => ok k ∧ some k ≠ v.ownBlock)) ⟨inner, hown, hr⟩
  rw [hv] at hv'
  cases hv'
  exact ⟨A, c, hv, hle, h1⟩
theorem R_rows' {α : Type} {d : Kd α} {e base n c : Nat} {ok : Nat → Prop} {W : World} {A : Option Addr} {xs : List α} (h : d.R e W base ok (.slice A n c) xs) :
    n = xs.length ∧ xs.length ≤ c ∧ ReadsRow (d.M W base (fun k => ok k ∧ some k ≠ (Value.slice A n c).ownBlock)) d.sz W A xs.length xs := by
  obtain ⟨A', c', hv, hle, hr⟩ := R_rows h
  cases hv
  exact ⟨rfl, hle, hr⟩
theorem R_lit1 {α : Type} (d : Kd α) (e : Nat) (W : World) (B : Nat) {x : α} {cs : List Value} {okp : Nat → Prop} (hx : d.M W B okp x cs) (h : B ≤ W.heap.size) : d.R e (W.alloc (.cells cs.toArray e)) B (fun _ => True) (.slice (some ⟨W.heap.size, 0, none⟩) 1 1) [x] := by
  have hlen := d.K_len (d.K_of_M hx)
  have hrep : Reps (d.M W B okp) d.sz [x] cs := ⟨by simp [hlen], fun j p hj => by
    have hj0 : j = 0 := by have := (List.getElem?_eq_some_iff.1 hj).1; simpa using this
    subst hj0
    have : x = p := by simpa using hj
    subst this
    rw [Nat.zero_mul, List.drop_zero, ← hlen, List.take_length]
    exact hx⟩
  refine ⟨fun _ _ => trivial, cs, ?_, ?_⟩
  · have h2 := World.ownsRow_lit (base := B) (e := e) (size := d.sz) W cs.toArray 1 h (by simp [maxLen]) (by simp [hlen])
    simpa using h2
  · refine hrep.imp_ (fun p c hp => d.M_mono (fun k hk => ⟨trivial, fun he => ?_⟩) (Kd.M_below (d.M_bound hp) (below_alloc (Below.refl _ _) _)))
    have h3 : k = W.heap.size := by simpa [Value.ownBlock] using he
    have := hk.2.2.1
    omega
section
variable {P : Program} {ops : Array Oper} {rest : List Oper} {o : Oper} {a : Act} {Q : Exit → Act → World → Prop}
/-- append(v, ys...): v an own list of rows, ys rows of the call's own. -/
theorem app_rows {w0 W : World} (hgd : o.guard = none) (s x : Operand) (t : TypeId) (ho : o.op = .call { callee := .builtin .append, args := #[s, x], argTypes := #[t, t] })
    (ht : P.underlying t = some (.slice 84)) (hinfo : (P.info? 84).map (fun i => (i.zero, i.size, i.bytes)) = some (some (.slice none 0 0), 1, 24))
    (v : Value) (xs ys : List (List Int)) (A : Option Addr) (m c : Nat) (okp : Nat → Prop) (hs : a.eval s = v) (hx : a.eval x = .slice A m c)
    (HO : kR.R 84 W w0.heap.size (fun _ => True) v xs) (HR : ReadsRow (kR.M W w0.heap.size okp) 1 W A m ys) (hokp : ∀ k, okp k → some k ≠ v.ownBlock) (HB : Below w0.heap.size w0 W) (hl : xs.length + m < 1000000000000)
    (h : ∀ v1 w1, kR.R 84 w1 w0.heap.size (fun _ => True) v1 (xs ++ ys) → Below w0.heap.size w0 w1 → W.grownBy w1 v.ownBlock → (v1.ownBlock = v.ownBlock ∨ ∃ b, v1.ownBlock = some b ∧ W.heap.size ≤ b) → wpList P ops Q rest (a.put o.dst v1) w1) :
    wpList P ops Q (o :: rest) a W :=
  Kd.R_append_rows kR (Rr := kR.M W w0.heap.size okp) w0.heap.size hgd s x t 84 (.slice none 0 0) 24 ho ht hinfo rfl (by decide) (by omega) v xs ys A m c (fun _ => True) okp hs hx HO HR (fun _ _ h => h) (fun k h => ⟨trivial, hokp k h⟩) (fun _ _ => trivial) HB HB.size (by omega) h
end
end Go.Proofs.YtbenhcognapdpaaGreat
/- Walks: lists of values of polynomials at a point. -/
set_option linter.unusedVariables false
set_option linter.unusedSimpArgs false
namespace Go.Proofs.YtbenhcognapdpaaGreat
open Go.RowKit Go.Proofs.YtbenhcognapdpaaGreatW.PrintWords Go.Proofs.YtbenhcognapdpaaGreatW.PrintLast Lin

/-- Polynomials for points of n numbers modulo p. -/
def ForP (p : Int) (n : Nat) (ps : List Pv) : Prop := ∀ P ∈ ps, PolyOk P.1 P.2.1 P.2.2 ∧ P.1 = p ∧ P.2.1 = n ∧ P.2.2.length ≤ 1048576 ∧ IsPv P
theorem valsV_len (ps : List Pv) (x : List Int) : (valsV ps x).length = ps.length := by simp [valsV]
set_option maxRecDepth 100000 in
set_option maxHeartbeats 1000000 in
theorem values_calls (p : Int) (n : Nat) (A : Option Addr) (q c : Nat) (ps : List Pv) (A' : Option Addr) (q' c' : Nat) (x : List Int) (w : World) (hr : kP.C w A q ps) (hf : ForP p n ps) (hr' : kI.C w A' q' x) (hx : Pt p n x) (hl : ps.length ≤ 8) :
    Calls Tryz.prog 92 #[.slice A q c, .slice A' q' c'] w fun e w' => ∃ v, e = .returned v ∧ kI.R 2 w' w.heap.size (fun _ => True) v (valsV ps x) ∧ Below w.heap.size w w' := by
  obtain rfl := Kd.C_len hr
  obtain rfl := Kd.C_len hr'
  have HR := Aside0.mk hr
  have HR' := Aside0.mk hr'
  have HF := Aside0.mk hf
  have HX := Aside0.mk hx
  clear hr hr' hf hx
  go_enter Tryz.func92, Tryz.ntmps92
  go_wp2
  go_loopw [5, 11] (fun v5 v wr => ∃ k : Nat, v = .int .i64 k ∧ k ≤ ps.length ∧ Aside0 (kI.R 2 wr w.heap.size (fun _ => True) v5 (valsV (ps.take k) x)) ∧ Aside0 (Below w.heap.size w wr)) (fun _ v _ => ps.length - (intOf v).toNat)
  case atStart => exact ⟨0, rfl, by omega, ⟨R_lit0 kI _ _ _ (Nat.le_refl _)⟩, ⟨below_alloc (Below.refl _ _) _⟩⟩
  case round =>
    obtain ⟨k, rfl, hk, HO, HB⟩ := hrel
    obtain ⟨wo, rfl⟩ : ∃ wo, wo = wr := ⟨_, rfl⟩
    by_cases hlt : k < ps.length
    · obtain ⟨ad, P, A1, c1, hpp, rfl, hc1, hC1, hc⟩ := poly_at (Kd.C_below HR.out HB.out) k hlt
      obtain ⟨g1, g2, g3, g4, g5⟩ := HF.out P (hpp ▸ pvR_mem ps k hlt)
      have HS := Aside0.mk (valsV_take ps x k hlt)
      rw [← hpp] at HS
      have HC := Aside0.mk hc
      clear hpp hc
      obtain ⟨P1, P2, ts⟩ := P
      simp only at g1 g2 g3 g4 hC1 HS hc1
      subst g2
      subst g3
      have hd3 : decide ((k : Int) < ps.length) = true := decide_eq_true (by omega)
      have HK := Aside0.mk (fun W (h : Below wo.heap.size wo W) => valueAt_calls P1 n A1 ts.length c1 ts A' x.length c' x W (Kd.C_below hC1 h) g5 (Kd.C_below HR'.out (below_step HB.out h)) g1 HX.out g4)
      have HLE : Aside0 ((valsV (ps.take k) x).length ≤ 8) := ⟨by rw [valsV_len, List.length_take]; omega⟩
      obtain ⟨out, hout⟩ : ∃ out, out = valsV (ps.take k) x := ⟨_, rfl⟩
      rw [← hout] at HO HS HLE
      clear hout hC1 g1 g5
      obtain ⟨A5, c5, rfl, hc5, hC5⟩ := Kd.R_reads HO.out
      clear hC5
      obtain ⟨P, hP⟩ : ∃ P : Pv, P = (P1, (n : Int), ts) := ⟨_, rfl⟩
      rw [← hP] at HC
      have HPE := Aside0.mk hP
      clear hP
      have H4 := Blk.new wo (pcells P A1 c1) 58
      have HBN := Aside0.mk (below_alloc (Below.refl wo.heap.size wo) (.cells (pcells P A1 c1) 58))
      go_wp2_with (first
        | (refine load_agg (cs := pcells P A1 c1) rfl _ 13 rfl (ad.add (k * 3)) HC.out rfl _ Tryz.underlying58 rfl sizeP ?_)
        | (refine gate_ (.store 58 (.tmp 7) (.tmp 14)) rfl ?_; go_must (refine store_blk (cs := pcells P A1 c1) rfl _ 7 _ rfl (Blk.new wo #[.int .i64 0, .int .i64 0, .slice none 0 0] 58) rfl rfl sizeP rfl (pcells_one _ _ _) ?_; rw [World.setRow_alloc_new]))
        | (refine load_blk rfl _ 7 rfl H4 rfl _ Tryz.underlying58 rfl sizeP ?_)
        | (go_at_call 173; rw [HPE.out]; refine (HK.out _ (HPE.out ▸ HBN.out)).mono ?_; rintro e w2 ⟨rfl, hb⟩; rw [← HPE.out] at hb; have hb2 := below_step HBN.out hb; replace HO := Aside0.mk (Kd.R_below HO.out hb2); replace HB := Aside0.mk (below_step HB.out hb2); clear hb2; clear hb)
        | (at_builtin; go_must (refine app_int (w0 := w) rfl (.tmp 15) (.tmp 19) _ rfl Tryz.underlying84 infoI (.slice A5 out.length c5) out _ rfl rfl HO.out HB.out (by have := HLE.out; omega) ?_); intro v1 w3 ho hb _ _; have H9 := Aside0.mk ho; replace HB := Aside0.mk hb; clear ho hb))
      go_roundw
      case rel => exact ⟨k + 1, by go_num, by omega, ⟨by rw [HS.out]; exact H9.out⟩, HB⟩
      case measure => simp [intOf]; omega
    · obtain rfl : k = ps.length := by omega
      rw [List.take_length] at HO
      go_wp2
      go_ret
      exact ⟨_, rfl, HO.out, HB.out⟩
set_option maxRecDepth 100000 in
set_option maxHeartbeats 1000000 in
theorem l09Values_calls (p : Int) (n : Nat) (A : Option Addr) (q c : Nat) (ps : List Pv) (A' : Option Addr) (q' c' : Nat) (x : List Int) (w : World) (hr : kP.C w A q ps) (hf : ForP p n ps) (hr' : kI.C w A' q' x) (hx : Pt p n x) (hl : ps.length ≤ 8) :
    Calls Tryz.prog 87 #[.slice A q c, .slice A' q' c'] w fun e w' => ∃ v, e = .returned v ∧ kI.R 2 w' w.heap.size (fun _ => True) v (valsV ps x) ∧ Below w.heap.size w w' := by
  obtain rfl := Kd.C_len hr
  obtain rfl := Kd.C_len hr'
  have HR := Aside0.mk hr
  have HR' := Aside0.mk hr'
  have HF := Aside0.mk hf
  have HX := Aside0.mk hx
  clear hr hr' hf hx
  go_enter Tryz.func87, Tryz.ntmps87
  go_wp2
  go_loopw [5, 6] (fun v5 v wr => ∃ k : Nat, v = .int .i64 k ∧ k ≤ ps.length ∧ Aside0 (kI.R 2 wr w.heap.size (fun _ => True) v5 (valsV (ps.take k) x)) ∧ Aside0 (Below w.heap.size w wr)) (fun _ v _ => ps.length - (intOf v).toNat)
  case atStart => exact ⟨0, rfl, by omega, ⟨R_lit0 kI _ _ _ (Nat.le_refl _)⟩, ⟨below_alloc (Below.refl _ _) _⟩⟩
  case round =>
    obtain ⟨k, rfl, hk, HO, HB⟩ := hrel
    obtain ⟨wo, rfl⟩ : ∃ wo, wo = wr := ⟨_, rfl⟩
    by_cases hlt : k < ps.length
    · obtain ⟨ad, P, A1, c1, hpp, rfl, hc1, hC1, hc⟩ := poly_at (Kd.C_below HR.out HB.out) k hlt
      obtain ⟨g1, g2, g3, g4, g5⟩ := HF.out P (hpp ▸ pvR_mem ps k hlt)
      have HS := Aside0.mk (valsV_take ps x k hlt)
      rw [← hpp] at HS
      have HC := Aside0.mk hc
      clear hpp hc
      obtain ⟨P1, P2, ts⟩ := P
      simp only at g1 g2 g3 g4 hC1 HS hc1
      subst g2
      subst g3
      have hd3 : decide ((k : Int) < ps.length) = true := decide_eq_true (by omega)
      have HK := Aside0.mk (fun W (h : Below wo.heap.size wo W) => l01Value_calls P1 n A1 ts.length c1 ts A' x.length c' x W (Kd.C_below hC1 h) g5 (Kd.C_below HR'.out (below_step HB.out h)) g1 HX.out g4)
      have HLE : Aside0 ((valsV (ps.take k) x).length ≤ 8) := ⟨by rw [valsV_len, List.length_take]; omega⟩
      obtain ⟨out, hout⟩ : ∃ out, out = valsV (ps.take k) x := ⟨_, rfl⟩
      rw [← hout] at HO HS HLE
      clear hout hC1 g1 g5
      obtain ⟨A5, c5, rfl, hc5, hC5⟩ := Kd.R_reads HO.out
      clear hC5
      obtain ⟨P, hP⟩ : ∃ P : Pv, P = (P1, (n : Int), ts) := ⟨_, rfl⟩
      rw [← hP] at HC
      have HPE := Aside0.mk hP
      clear hP
      have HBN := Aside0.mk (Below.refl wo.heap.size wo)
      go_wp2_with (first
        | (refine load_agg (cs := pcells P A1 c1) rfl _ 17 rfl (ad.add (k * 3)) HC.out rfl _ Tryz.underlying58 rfl sizeP ?_)
        | (go_at_call 166; rw [HPE.out]; refine (HK.out _ HBN.out).mono ?_; rintro e w2 ⟨rfl, hb⟩; replace HO := Aside0.mk (Kd.R_below HO.out hb); replace HB := Aside0.mk (below_step HB.out hb); clear hb)
        | (at_builtin; go_must (refine app_int (w0 := w) rfl (.tmp 14) (.tmp 21) _ rfl Tryz.underlying84 infoI (.slice A5 out.length c5) out _ rfl rfl HO.out HB.out (by have := HLE.out; omega) ?_); intro v1 w3 ho hb _ _; have H9 := Aside0.mk ho; replace HB := Aside0.mk hb; clear ho hb))
      go_roundw
      case rel => exact ⟨k + 1, by go_num, by omega, ⟨by rw [HS.out]; exact H9.out⟩, HB⟩
      case measure => simp [intOf]; omega
    · obtain rfl : k = ps.length := by omega
      rw [List.take_length] at HO
      go_wp2
      go_ret
      exact ⟨_, rfl, HO.out, HB.out⟩
end Go.Proofs.YtbenhcognapdpaaGreat
/- Plain law: the two lists of all points of n numbers modulo p hold the same points, each once. No program in sight. -/
set_option linter.unusedVariables false
set_option linter.unusedSimpArgs false
namespace Go.Proofs.YtbenhcognapdpaaGreat.Lin

/-- The numbers of v to the base p, the least first. -/
def digs (p : Nat) : Nat → Nat → Row
  | 0, _ => []
  | n + 1, v => ((v % p : Nat) : Int) :: digs p n (v / p)
def ptsI (p n : Nat) : List Row := (List.range (p ^ n)).map (digs p n)
/-- All rows of n numbers, the first the greatest. -/
def ptsS (p : Nat) : Nat → List Row
  | 0 => [[]]
  | n + 1 => (ptsS p n).flatMap fun x => (List.range p).map fun v => x ++ [((v : Nat) : Int)]
theorem digs_len (p : Nat) : ∀ (n v : Nat), (digs p n v).length = n
  | 0, _ => rfl
  | n + 1, v => by simp [digs, digs_len p n]
theorem digs_inj (p : Nat) : ∀ (n v w : Nat), v < p ^ n → w < p ^ n → digs p n v = digs p n w → v = w
  | 0, v, w, hv, hw, _ => by simp at hv hw; omega
  | n + 1, v, w, hv, hw, h => by
    simp only [digs, List.cons.injEq] at h
    have hp : 0 < p := by
      rcases Nat.eq_zero_or_pos p with h0 | h0
      · subst h0; simp at hv
      · exact h0
    have h1 : v / p < p ^ n := by rw [Nat.div_lt_iff_lt_mul hp, ← Nat.pow_succ]; exact hv
    have h2 : w / p < p ^ n := by rw [Nat.div_lt_iff_lt_mul hp, ← Nat.pow_succ]; exact hw
    have h3 := digs_inj p n _ _ h1 h2 h.2
    have h4 : v % p = w % p := by have := h.1; omega
    rw [← Nat.div_add_mod v p, ← Nat.div_add_mod w p, h3, h4]
theorem digs_mem (p : Nat) (hp : 0 < p) : ∀ (n : Nat) (x : Row), x.length = n → InR p x → ∃ v, v < p ^ n ∧ digs p n v = x
  | 0, x, hl, _ => ⟨0, by simp, by rw [List.eq_nil_of_length_eq_zero hl]; rfl⟩
  | n + 1, [], hl, _ => by simp at hl
  | n + 1, a :: x, hl, hx => by
    obtain ⟨v, hv, he⟩ := digs_mem p hp n x (by simpa using hl) (fun y hy => hx y (List.mem_cons_of_mem _ hy))
    have ha := hx a List.mem_cons_self
    obtain ⟨k, rfl⟩ : ∃ k : Nat, a = k := ⟨a.toNat, by omega⟩
    have hk : k < p := by omega
    refine ⟨k + p * v, ?_, ?_⟩
    · rw [Nat.pow_succ]
      have : p * v + p ≤ p * p ^ n := by rw [← Nat.mul_succ]; exact Nat.mul_le_mul_left _ hv
      rw [Nat.mul_comm (p ^ n)]
      omega
    · simp only [digs]
      rw [Nat.add_mul_mod_self_left, Nat.mod_eq_of_lt hk, Nat.add_mul_div_left _ _ hp, Nat.div_eq_of_lt hk, Nat.zero_add, he]
theorem digs_inR (p : Nat) (hp : 0 < p) : ∀ (n v : Nat), InR p (digs p n v)
  | 0, _ => by intro x hx; cases hx
  | n + 1, v => by
    intro x hx
    simp only [digs, List.mem_cons] at hx
    rcases hx with rfl | hx
    · have := Nat.mod_lt v hp; omega
    · exact digs_inR p hp n _ x hx
theorem ptsI_mem {p : Nat} (hp : 0 < p) (n : Nat) (x : Row) : x ∈ ptsI p n ↔ x.length = n ∧ InR p x := by
  unfold ptsI
  rw [List.mem_map]
  constructor
  · rintro ⟨v, _, rfl⟩; exact ⟨digs_len p n v, digs_inR p hp n v⟩
  · rintro ⟨h1, h2⟩
    obtain ⟨v, hv, he⟩ := digs_mem p hp n x h1 h2
    exact ⟨v, List.mem_range.2 hv, he⟩
theorem snoc_split {x : Row} {n : Nat} (h : x.length = n + 1) : ∃ y a, x = y ++ [a] ∧ y.length = n := by
  refine ⟨x.dropLast, x.getLast (by intro e; rw [e] at h; simp at h), (List.dropLast_concat_getLast _).symm, by rw [List.length_dropLast]; omega⟩
theorem ptsS_mem {p : Nat} : ∀ (n : Nat) (x : Row), x ∈ ptsS p n ↔ x.length = n ∧ InR p x
  | 0, x => by
    simp only [ptsS, List.mem_singleton]
    constructor
    · rintro rfl; exact ⟨rfl, fun y hy => by cases hy⟩
    · rintro ⟨h, _⟩; exact List.eq_nil_of_length_eq_zero h
  | n + 1, x => by
    simp only [ptsS, List.mem_flatMap, List.mem_map, List.mem_range]
    constructor
    · rintro ⟨y, hy, v, hv, rfl⟩
      obtain ⟨h1, h2⟩ := (ptsS_mem n y).1 hy
      refine ⟨by simp [h1], fun z hz => ?_⟩
      rcases List.mem_append.1 hz with hz | hz
      · exact h2 z hz
      · simp at hz; omega
    · rintro ⟨h1, h2⟩
      obtain ⟨y, a, rfl, hy⟩ := snoc_split h1
      have ha := h2 a (by simp)
      exact ⟨y, (ptsS_mem n y).2 ⟨hy, fun z hz => h2 z (by simp [hz])⟩, a.toNat, by omega, by rw [Int.toNat_of_nonneg ha.1]⟩
theorem ptsI_nodup (p n : Nat) : (ptsI p n).Nodup := by
  unfold ptsI List.Nodup
  rw [List.pairwise_map]
  refine List.Pairwise.imp_of_mem (fun {a b} ha hb hab e => hab ?_) List.nodup_range
  exact digs_inj p n a b (List.mem_range.1 ha) (List.mem_range.1 hb) e
theorem snoc_inj {a b : Row} {x y : Int} (h : a ++ [x] = b ++ [y]) : a = b ∧ x = y := by
  have h1 := List.append_inj' h rfl
  exact ⟨h1.1, by simpa using h1.2⟩
theorem ptsS_nodup (p : Nat) : ∀ n, (ptsS p n).Nodup
  | 0 => by simp [ptsS]
  | n + 1 => by
    unfold ptsS List.Nodup
    rw [List.pairwise_flatMap]
    refine ⟨fun x _ => ?_, ?_⟩
    · rw [List.pairwise_map]
      exact List.Pairwise.imp (fun {a b} hab e => hab (by have := (snoc_inj e).2; omega)) List.nodup_range
    · refine List.Pairwise.imp (fun {a b} hab x hx y hy e => ?_) (ptsS_nodup p n)
      obtain ⟨v, _, rfl⟩ := List.mem_map.1 hx
      obtain ⟨u, _, rfl⟩ := List.mem_map.1 hy
      exact hab (snoc_inj e).1
theorem pts_perm {p : Nat} (hp : 0 < p) (n : Nat) : (ptsI p n).Perm (ptsS p n) :=
  (List.perm_ext_iff_of_nodup (ptsI_nodup p n) (ptsS_nodup p n)).2 fun x => by rw [ptsI_mem hp, ptsS_mem]
theorem ptsS_len (p : Nat) : ∀ n, (ptsS p n).length = p ^ n
  | 0 => rfl
  | n + 1 => by
    simp only [ptsS, List.length_flatMap, List.length_map, List.length_range]
    rw [List.map_const', List.sum_replicate_nat, ptsS_len p n, Nat.pow_succ]
theorem ptsI_len (p n : Nat) : (ptsI p n).length = p ^ n := by simp [ptsI]
end Go.Proofs.YtbenhcognapdpaaGreat.Lin
