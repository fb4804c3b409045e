/- Own texts of this claim, in one file: LinM, MatM, SmallM, DetM, DetM2, OrbM. -/
/- Plain definitions and laws of rows of numbers modulo a prime: leads, rests, reduced lists. No program in sight. -/
set_option linter.unusedVariables false
set_option linter.unusedSimpArgs false
namespace Go.Proofs.YtbenhcognapdpaaGreat.Lin

abbrev Row := List Int
/-- The number at a place; 0 behind the end. (A name that simp does not open.) -/
def nt (r : Row) (j : Nat) : Int := r.getD j 0
theorem nt_eq (r : Row) (j : Nat) (h : j < r.length) : nt r j = r[j] := by
  simp [nt, List.getD_eq_getElem?_getD, List.getElem?_eq_getElem h]
theorem nt_out (r : Row) (j : Nat) (h : r.length ≤ j) : nt r j = 0 := by
  simp [nt, List.getD_eq_getElem?_getD, List.getElem?_eq_none h]
theorem row_ext {a b : Row} (hl : a.length = b.length) (h : ∀ j < a.length, nt a j = nt b j) : a = b := by
  apply List.ext_getElem hl
  intro j h1 h2
  have := h j h1
  rwa [nt_eq a j h1, nt_eq b j h2] at this
/-- All numbers in 0..p-1. -/
def InR (p : Int) (r : Row) : Prop := ∀ x ∈ r, 0 ≤ x ∧ x < p
def IsP (p : Int) : Prop := p = 2 ∨ p = 3 ∨ p = 5 ∨ p = 7 ∨ p = 11 ∨ p = 13
theorem IsP.pos {p : Int} (h : IsP p) : 2 ≤ p ∧ p ≤ 13 := by unfold IsP at h; omega

/-- The place of the first number other than 0; the length if there is none. -/
def fstNZ (r : Row) : Nat := r.findIdx (· != 0)
/-- As the program tells it: -1 if there is none. -/
def lead (r : Row) : Int := if fstNZ r < r.length then (fstNZ r : Int) else -1
theorem fstNZ_le (r : Row) : fstNZ r ≤ r.length := List.findIdx_le_length
theorem fstNZ_before (r : Row) (j : Nat) (h : j < fstNZ r) : nt r j = 0 := by
  have hl := fstNZ_le r
  have := List.not_of_lt_findIdx (p := (· != 0)) (xs := r) (i := j) h
  rw [nt_eq r j (by omega)]
  simpa using this
theorem fstNZ_at (r : Row) (h : fstNZ r < r.length) : nt r (fstNZ r) ≠ 0 := by
  have := List.findIdx_getElem (p := (· != 0)) (xs := r) (w := h)
  have e : r[fstNZ r] = r[List.findIdx (· != 0) r] := rfl
  rw [nt_eq r _ h, e]
  intro h0
  rw [h0] at this
  simp at this
theorem fstNZ_eq (r : Row) (k : Nat) (hk : k < r.length) (hb : ∀ j < k, nt r j = 0) (ha : nt r k ≠ 0) : fstNZ r = k := by
  rcases Nat.lt_trichotomy (fstNZ r) k with h | h | h
  · exact absurd (hb _ h) (fstNZ_at r (by omega))
  · exact h
  · exact absurd (fstNZ_before r k h) ha
theorem lead_eq (r : Row) (k : Nat) (hk : k < r.length) (hb : ∀ j < k, nt r j = 0) (ha : nt r k ≠ 0) : lead r = k := by
  unfold lead; rw [fstNZ_eq r k hk hb ha, if_pos hk]
theorem lead_none (r : Row) (hb : ∀ j < r.length, nt r j = 0) : lead r = -1 := by
  unfold lead
  rw [if_neg]
  intro h
  exact fstNZ_at r h (hb _ h)
theorem lead_lt (r : Row) (h : 0 ≤ lead r) : (lead r).toNat < r.length ∧ lead r = ((lead r).toNat : Int) ∧ fstNZ r = (lead r).toNat ∧ nt r (lead r).toNat ≠ 0 := by
  by_cases hl : fstNZ r < r.length
  · have e : lead r = (fstNZ r : Int) := by unfold lead; rw [if_pos hl]
    rw [e, Int.toNat_natCast]
    exact ⟨hl, rfl, rfl, fstNZ_at r hl⟩
  · have e : lead r = -1 := by unfold lead; rw [if_neg hl]
    omega

/-- The least number from k on that makes 1 with x modulo p, as the program looks for it. -/
def invGo (p x : Int) : Nat → Int → Int
  | 0, _ => 0
  | n + 1, k => if k * x % p = 1 then k else invGo p x n (k + 1)
def invOf (p x : Int) : Int := invGo p (x % p) (p.toNat - 1) 1

/-- A row less k times another one. -/
def lessOf (p : Int) (row other : Row) (k : Int) : Row := List.zipWith (fun a b => (a - k * b) % p) row other
/-- What is left of a row. -/
def restOf (p : Int) (list : List Row) (row : Row) : Row :=
  list.foldl (fun out r => if nt out (lead r).toNat = 0 then out else lessOf p out r (nt out (lead r).toNat)) row
/-- One round: whether the row has been put in, and the rows so far. -/
def insSt (p : Int) (own : Row) (at_ : Nat) (s : Bool × List Row) (r : Row) : Bool × List Row :=
  if s.1 = false ∧ (at_ : Int) < lead r then (true, (s.2 ++ [own]) ++ [lessOf p r own (nt r at_)]) else (s.1, s.2 ++ [lessOf p r own (nt r at_)])
/-- The rows with one more, put in by its lead. -/
def insRow (p : Int) (own : Row) (at_ : Nat) (out : List Row) : List Row :=
  if (out.foldl (insSt p own at_) (false, [])).1 = true then (out.foldl (insSt p own at_) (false, [])).2 else (out.foldl (insSt p own at_) (false, [])).2 ++ [own]
def scaleRow (p : Int) (row : Row) (k : Int) : Row := row.map (fun a => a * k % p)
def echStep (p : Int) (out : List Row) (row : Row) : List Row :=
  if lead (restOf p out row) < 0 then out
  else insRow p (scaleRow p (restOf p out row) (invOf p (nt (restOf p out row) (lead (restOf p out row)).toNat))) (lead (restOf p out row)).toNat out
def echelon (p : Int) (rows : List Row) : List Row := rows.foldl (echStep p) []

/-- Rows of n numbers, none of which is 0 alone. -/
def GoodRows (p : Int) (n : Nat) (out : List Row) : Prop := ∀ r ∈ out, r.length = n ∧ InR p r ∧ 0 ≤ lead r

theorem lessOf_length (p : Int) (row other : Row) (k : Int) (h : other.length = row.length) : (lessOf p row other k).length = row.length := by
  simp [lessOf, h]
theorem lessOf_get (p : Int) (row other : Row) (k : Int) (h : other.length = row.length) (j : Nat) (hj : j < row.length) : nt (lessOf p row other k) j = (nt row j - k * nt other j) % p := by
  have h2 : j < other.length := by omega
  simp [nt, lessOf, List.getD_eq_getElem?_getD, List.getElem?_zipWith, List.getElem?_eq_getElem hj, List.getElem?_eq_getElem h2]
theorem take_succ_nt (r : Row) (j : Nat) (h : j < r.length) : r.take (j + 1) = r.take j ++ [nt r j] := by
  rw [nt_eq r j h, List.take_succ_eq_append_getElem h]
theorem lessOf_take (p : Int) (row other : Row) (k : Int) (h : other.length = row.length) (j : Nat) (hj : j < row.length) : (lessOf p row other k).take (j + 1) = (lessOf p row other k).take j ++ [(nt row j - k * nt other j) % p] := by
  rw [take_succ_nt _ _ (by rw [lessOf_length _ _ _ _ h]; exact hj), lessOf_get _ _ _ _ h j hj]
theorem InR.nt {p : Int} {r : Row} (h : InR p r) (hp : 0 < p) (j : Nat) : 0 ≤ Lin.nt r j ∧ Lin.nt r j < p := by
  rcases Nat.lt_or_ge j r.length with hj | hj
  · rw [nt_eq r j hj]; exact h _ (List.getElem_mem hj)
  · rw [nt_out r j hj]; exact ⟨Int.le_refl 0, hp⟩
theorem inR_of_get {p : Int} {r : Row} (h : ∀ j < r.length, 0 ≤ nt r j ∧ nt r j < p) : InR p r := by
  intro x hx
  obtain ⟨j, hj, rfl⟩ := List.mem_iff_getElem.1 hx
  have := h j hj
  rwa [nt_eq r j hj] at this
theorem lessOf_inR (p : Int) (row other : Row) (k : Int) (hp : 0 < p) (h : other.length = row.length) : InR p (lessOf p row other k) := by
  refine inR_of_get fun j hj => ?_
  rw [lessOf_length p row other k h] at hj
  rw [lessOf_get p row other k h j hj]
  exact ⟨Int.emod_nonneg _ (by omega), Int.emod_lt_of_pos _ hp⟩
theorem restOf_good {p : Int} {n : Nat} (hp : 0 < p) (list : List Row) : ∀ (row : Row), GoodRows p n list → row.length = n → InR p row → (restOf p list row).length = n ∧ InR p (restOf p list row) := by
  induction list with
  | nil => intro row _ h1 h2; exact ⟨h1, h2⟩
  | cons r rs ih =>
    intro row hg h1 h2
    have hr := hg r (List.mem_cons_self ..)
    have hrs : GoodRows p n rs := fun x hx => hg x (List.mem_cons_of_mem _ hx)
    simp only [restOf, List.foldl_cons]
    split
    · exact ih row hrs h1 h2
    · exact ih _ hrs (by rw [lessOf_length _ _ _ _ (by omega)]; exact h1) (lessOf_inR _ _ _ _ hp (by omega))
theorem restOf_snoc (p : Int) (list : List Row) (r row : Row) : restOf p (list ++ [r]) row = if nt (restOf p list row) (lead r).toNat = 0 then restOf p list row else lessOf p (restOf p list row) r (nt (restOf p list row) (lead r).toNat) := by
  unfold restOf
  rw [List.foldl_append]
  rfl

/-- The rows by recursion. -/
def insRec (p : Int) (own : Row) (at_ : Nat) : List Row → List Row
  | [] => [own]
  | r :: rs => if (at_ : Int) < lead r then own :: (r :: rs).map (fun r => lessOf p r own (nt r at_)) else lessOf p r own (nt r at_) :: insRec p own at_ rs
theorem insSt_true (p : Int) (own : Row) (at_ : Nat) (out : List Row) : ∀ acc, out.foldl (insSt p own at_) (true, acc) = (true, acc ++ out.map (fun r => lessOf p r own (nt r at_))) := by
  induction out with
  | nil => intro acc; simp
  | cons r rs ih =>
    intro acc
    rw [List.foldl_cons, show insSt p own at_ (true, acc) r = (true, acc ++ [lessOf p r own (nt r at_)]) by simp [insSt], ih]
    simp
theorem insRow_rec (p : Int) (own : Row) (at_ : Nat) (out : List Row) : insRow p own at_ out = insRec p own at_ out := by
  have key : ∀ acc, (if (out.foldl (insSt p own at_) (false, acc)).1 = true then (out.foldl (insSt p own at_) (false, acc)).2 else (out.foldl (insSt p own at_) (false, acc)).2 ++ [own]) = acc ++ insRec p own at_ out := by
    induction out with
    | nil => intro acc; simp [insRec]
    | cons r rs ih =>
      intro acc
      rw [List.foldl_cons]
      by_cases h : (at_ : Int) < lead r
      · rw [show insSt p own at_ (false, acc) r = (true, (acc ++ [own]) ++ [lessOf p r own (nt r at_)]) by simp [insSt, h], insSt_true]
        simp [insRec, h]
      · rw [show insSt p own at_ (false, acc) r = (false, acc ++ [lessOf p r own (nt r at_)]) by simp [insSt, h], ih]
        simp [insRec, h]
  have := key []
  simpa [insRow] using this

theorem snoc_ind {α : Type} {P : List α → Prop} (l : List α) (h0 : P []) (h1 : ∀ l a, P l → P (l ++ [a])) : P l := by
  have : ∀ r : List α, P r.reverse := by
    intro r
    induction r with
    | nil => simpa using h0
    | cons a r ih => simpa using h1 _ a ih
  simpa using this l.reverse

/-- A reduced list. -/
structure Red (p : Int) (n : Nat) (out : List Row) : Prop where
  good : ∀ r ∈ out, r.length = n ∧ InR p r ∧ 0 ≤ lead r ∧ nt r (lead r).toNat = 1
  apart : out.Pairwise (fun r s => lead r < lead s ∧ nt r (lead s).toNat = 0)
theorem Red.rows {p : Int} {n : Nat} {out : List Row} (h : Red p n out) : GoodRows p n out := fun r hr => ⟨(h.good r hr).1, (h.good r hr).2.1, (h.good r hr).2.2.1⟩
theorem nt_before_lead (r : Row) (j : Nat) (h : (j : Int) < lead r) : nt r j = 0 := by
  obtain ⟨_, h2, h3, _⟩ := lead_lt r (by omega)
  exact fstNZ_before r j (by omega)
theorem Red.zero {p : Int} {n : Nat} {out : List Row} (h : Red p n out) : out.Pairwise (fun r s => nt r (lead s).toNat = 0 ∧ nt s (lead r).toNat = 0) := by
  refine (List.Pairwise.and_mem.1 h.apart).imp ?_
  rintro r s ⟨hr, hs, h1, h2⟩
  have := (h.good r hr).2.2.1
  exact ⟨h2, nt_before_lead s _ (by omega)⟩
/-- What is left of a row has 0 at the leads. -/
theorem rest_zero {p : Int} (hp : 1 < p) {n : Nat} (list : List Row) : Red p n list → ∀ (row : Row), row.length = n → InR p row → ∀ s ∈ list, nt (restOf p list row) (lead s).toNat = 0 := by
  induction list using snoc_ind with
  | h0 => intro _ _ _ _ s hs; cases hs
  | h1 l a ih =>
    intro hred row hn hr s hs
    have hpw := List.pairwise_append.1 hred.apart
    have hl : Red p n l := ⟨fun r h => hred.good r (List.mem_append_left _ h), hpw.1⟩
    have ha := hred.good a (by simp)
    have hrest := restOf_good (by omega) l row hl.rows hn hr
    rw [restOf_snoc]
    have hal := (lead_lt a ha.2.2.1).1
    rcases List.mem_append.1 hs with h | h
    · have h0 := ih hl row hn hr s h
      split
      · exact h0
      · have hsl := lead_lt s (hl.good s h).2.2.1
        have hlt := (hpw.2.2 s h a (by simp)).1
        have h1 : nt a (lead s).toNat = 0 := nt_before_lead a _ (by omega)
        rw [lessOf_get _ _ _ _ (by omega) _ (by have := (hl.good s h).1; omega), h0, h1]
        simp
    · have h : s = a := by simpa using h
      subst h
      split
      · assumption
      · rw [lessOf_get _ _ _ _ (by omega) _ (by omega), ha.2.2.2]
        simp

theorem inv_all : ∀ q ∈ [2, 3, 5, 7, 11, 13], ∀ y ∈ List.range q, y ≠ 0 → invGo q y (q - 1) 1 * (y : Int) % q = 1 ∧ 1 ≤ invGo q y (q - 1) 1 ∧ invGo q y (q - 1) 1 < q := by decide +kernel
theorem inv_spec {p x : Int} (hp : IsP p) (h : x % p ≠ 0) : invOf p x * (x % p) % p = 1 ∧ 1 ≤ invOf p x ∧ invOf p x < p := by
  have hpos := hp.pos
  have h1 := Int.emod_nonneg x (show p ≠ 0 by omega)
  have h2 := Int.emod_lt_of_pos x (show 0 < p by omega)
  obtain ⟨y, hy⟩ : ∃ y : Nat, x % p = y := ⟨(x % p).toNat, by omega⟩
  obtain ⟨q, rfl⟩ : ∃ q : Nat, p = q := ⟨p.toNat, by omega⟩
  have hq : q ∈ [2, 3, 5, 7, 11, 13] := by unfold IsP at hp; simp; omega
  have := inv_all q hq y (List.mem_range.2 (by omega)) (by omega)
  unfold invOf
  rw [hy, Int.toNat_natCast]
  exact this

theorem scaleRow_length (p : Int) (r : Row) (k : Int) : (scaleRow p r k).length = r.length := by simp [scaleRow]
theorem scaleRow_get (p : Int) (r : Row) (k : Int) (j : Nat) (h : j < r.length) : nt (scaleRow p r k) j = nt r j * k % p := by
  rw [nt_eq _ _ (by rw [scaleRow_length]; exact h), nt_eq _ _ h]
  simp [scaleRow]
theorem scaleRow_inR {p : Int} (hp : 0 < p) (r : Row) (k : Int) : InR p (scaleRow p r k) := by
  refine inR_of_get fun j hj => ?_
  rw [scaleRow_length] at hj
  rw [scaleRow_get _ _ _ _ hj]
  exact ⟨Int.emod_nonneg _ (by omega), Int.emod_lt_of_pos _ hp⟩
theorem lead_of_eq {a b : Row} (hl : a.length = b.length) (hz : ∀ j : Nat, (j : Int) < lead b → nt a j = 0) (hb : 0 ≤ lead b) (hn : nt a (lead b).toNat ≠ 0) : lead a = lead b := by
  obtain ⟨h1, h2, _, _⟩ := lead_lt b hb
  rw [lead_eq a (lead b).toNat (by omega) (fun j hj => hz j (by omega)) hn]
  omega
theorem lessOf_zero {p : Int} (r o : Row) (hr : InR p r) (hp : 0 < p) (hl : o.length = r.length) : lessOf p r o 0 = r := by
  refine row_ext (lessOf_length _ _ _ _ hl) fun j hj => ?_
  rw [lessOf_length _ _ _ _ hl] at hj
  rw [lessOf_get _ _ _ _ hl j hj]
  have := hr.nt hp j
  simp
  exact Int.emod_eq_of_lt this.1 this.2

/-- What is put in: 1 at its lead, 0 at the others'. -/
structure Fits (p : Int) (n : Nat) (out : List Row) (own : Row) (at_ : Nat) : Prop where
  len : own.length = n
  inR : InR p own
  lead : lead own = at_
  one : nt own at_ = 1
  zero : ∀ s ∈ out, nt own (Lin.lead s).toNat = 0

theorem less_keeps {p : Int} (hp : 1 < p) {n : Nat} {out : List Row} {own : Row} {at_ : Nat} (hred : Red p n out) (hf : Fits p n out own at_) (r : Row) (hr : r ∈ out) :
    (lessOf p r own (nt r at_)).length = n ∧ InR p (lessOf p r own (nt r at_)) ∧ lead (lessOf p r own (nt r at_)) = lead r ∧ nt (lessOf p r own (nt r at_)) (lead r).toNat = 1 ∧ nt (lessOf p r own (nt r at_)) at_ = 0 := by
  obtain ⟨g1, g2, g3, g4⟩ := hred.good r hr
  have hol := hf.len
  obtain ⟨l1, l2, _, _⟩ := lead_lt r g3
  obtain ⟨m1, m2, _, _⟩ := lead_lt own (by rw [hf.lead]; omega)
  have hat : at_ < n := by rw [hf.lead] at m1; simpa [hol] using m1
  have hone : nt (lessOf p r own (nt r at_)) (lead r).toNat = 1 := by
    rw [lessOf_get _ _ _ _ (by omega) _ l1, hf.zero r hr, g4]
    simp
    exact Int.emod_eq_of_lt (by omega) hp
  refine ⟨by rw [lessOf_length _ _ _ _ (by omega)]; exact g1, lessOf_inR _ _ _ _ (by omega) (by omega), ?_, hone, ?_⟩
  · refine lead_of_eq (lessOf_length _ _ _ _ (by omega)) (fun j hj => ?_) g3 (by rw [hone]; decide)
    rw [lessOf_get _ _ _ _ (by omega) _ (by omega), nt_before_lead r j hj]
    by_cases hja : (at_ : Int) < lead r
    · rw [nt_before_lead r at_ hja]; simp
    · have hne : (at_ : Int) ≠ lead r := by
        intro e
        have h0 := hf.zero r hr
        rw [← e, Int.toNat_natCast, hf.one] at h0
        exact absurd h0 (by decide)
      rw [nt_before_lead own j (by rw [hf.lead]; omega)]; simp
  · rw [lessOf_get _ _ _ _ (by omega) _ (by omega), hf.one]
    simp

theorem insRec_mem {p : Int} {own : Row} {at_ : Nat} {x : Row} : ∀ {out : List Row}, x ∈ insRec p own at_ out ↔ x = own ∨ ∃ r ∈ out, x = lessOf p r own (nt r at_) := by
  intro out
  induction out with
  | nil => simp [insRec]
  | cons r rs ih =>
    simp only [insRec]
    split
    · simp [eq_comm]
    · rw [List.mem_cons, ih]
      simp only [List.mem_cons]
      constructor
      · rintro (h | h | ⟨r', h1, h2⟩)
        · exact .inr ⟨r, .inl rfl, h⟩
        · exact .inl h
        · exact .inr ⟨r', .inr h1, h2⟩
      · rintro (h | ⟨r', h1 | h1, h2⟩)
        · exact .inr (.inl h)
        · subst h1; exact .inl h2
        · exact .inr (.inr ⟨r', h1, h2⟩)

theorem insRec_red {p : Int} (hp : 1 < p) {n : Nat} {own : Row} {at_ : Nat} : ∀ {out : List Row}, Red p n out → Fits p n out own at_ → Red p n (insRec p own at_ out) := by
  intro out
  induction out with
  | nil =>
    intro _ hf
    refine ⟨fun r hr => ?_, by simp [insRec]⟩
    have : r = own := by simpa [insRec] using hr
    subst this
    exact ⟨hf.len, hf.inR, by rw [hf.lead]; omega, by rw [hf.lead, Int.toNat_natCast]; exact hf.one⟩
  | cons r rs ih =>
    intro hred hf
    have hpw := List.pairwise_cons.1 hred.apart
    have hrs : Red p n rs := ⟨fun x hx => hred.good x (List.mem_cons_of_mem _ hx), hpw.2⟩
    have hfs : Fits p n rs own at_ := ⟨hf.len, hf.inR, hf.lead, hf.one, fun s hs => hf.zero s (List.mem_cons_of_mem _ hs)⟩
    have ihs := ih hrs hfs
    have hk := less_keeps hp hred hf
    have hgo : own.length = n ∧ InR p own ∧ 0 ≤ lead own ∧ nt own (lead own).toNat = 1 := ⟨hf.len, hf.inR, by rw [hf.lead]; omega, by rw [hf.lead, Int.toNat_natCast]; exact hf.one⟩
    have hgl : ∀ x ∈ r :: rs, (lessOf p x own (nt x at_)).length = n ∧ InR p (lessOf p x own (nt x at_)) ∧ 0 ≤ lead (lessOf p x own (nt x at_)) ∧ nt (lessOf p x own (nt x at_)) (lead (lessOf p x own (nt x at_))).toNat = 1 := by
      intro x hx
      obtain ⟨a1, a2, a3, a4, a5⟩ := hk x hx
      rw [a3]
      exact ⟨a1, a2, (hred.good x hx).2.2.1, a4⟩
    have hpair : ∀ x ∈ r :: rs, ∀ y ∈ r :: rs, lead x < lead y → nt x (lead y).toNat = 0 → lead (lessOf p x own (nt x at_)) < lead (lessOf p y own (nt y at_)) ∧ nt (lessOf p x own (nt x at_)) (lead (lessOf p y own (nt y at_))).toNat = 0 := by
      intro x hx y hy h1 h2
      rw [(hk x hx).2.2.1, (hk y hy).2.2.1]
      refine ⟨h1, ?_⟩
      have hy2 := lead_lt y (hred.good y hy).2.2.1
      have e1 := (hred.good x hx).1
      have e2 := (hred.good y hy).1
      have e3 := hf.len
      rw [lessOf_get _ _ _ _ (by omega) _ (by omega), h2, hf.zero y hy]
      simp
    refine ⟨fun x hx => ?_, ?_⟩
    · rcases insRec_mem.1 hx with h | ⟨r', h1, h2⟩
      · subst h; exact hgo
      · subst h2; exact hgl r' h1
    · simp only [insRec]
      split
      · rename_i hlt
        refine List.pairwise_cons.2 ⟨fun x hx => ?_, ?_⟩
        · obtain ⟨y, hy, rfl⟩ := List.mem_map.1 hx
          rw [(hk y hy).2.2.1, hf.lead]
          refine ⟨?_, hf.zero y hy⟩
          rcases List.mem_cons.1 hy with h | h
          · subst h; exact hlt
          · have := (hpw.1 y h).1; omega
        · refine List.pairwise_map.2 ((List.Pairwise.and_mem.1 hred.apart).imp ?_)
          rintro x y ⟨hx, hy, h1, h2⟩
          exact hpair x hx y hy h1 h2
      · rename_i hlt
        refine List.pairwise_cons.2 ⟨fun x hx => ?_, ihs.apart⟩
        rcases insRec_mem.1 hx with h | ⟨y, h1, h2⟩
        · subst h
          rw [(hk r (List.mem_cons_self ..)).2.2.1, hf.lead, Int.toNat_natCast]
          refine ⟨?_, (hk r (List.mem_cons_self ..)).2.2.2.2⟩
          have hne : (at_ : Int) ≠ lead r := by
            intro e
            have h0 := hf.zero r (List.mem_cons_self ..)
            rw [← e, Int.toNat_natCast, hf.one] at h0
            exact absurd h0 (by decide)
          omega
        · subst h2
          exact hpair r (List.mem_cons_self ..) y (List.mem_cons_of_mem _ h1) (hpw.1 y h1).1 (hpw.1 y h1).2

theorem fits_rest {p : Int} (hp : IsP p) {n : Nat} {out : List Row} (hred : Red p n out) {row : Row} (hn : row.length = n) (hr : InR p row) (h0 : 0 ≤ lead (restOf p out row)) :
    Fits p n out (scaleRow p (restOf p out row) (invOf p (nt (restOf p out row) (lead (restOf p out row)).toNat))) (lead (restOf p out row)).toNat := by
  have hpos := hp.pos
  obtain ⟨r1, r2⟩ := restOf_good (by omega) out row hred.rows hn hr
  have hz := rest_zero (by omega) out hred row hn hr
  obtain ⟨own, hown⟩ : ∃ own, own = restOf p out row := ⟨_, rfl⟩
  rw [← hown] at r1 r2 hz h0 ⊢
  obtain ⟨l1, l2, l3, l4⟩ := lead_lt own h0
  have hb := r2.nt (show 0 < p by omega) (lead own).toNat
  have hm : nt own (lead own).toNat % p = nt own (lead own).toNat := Int.emod_eq_of_lt hb.1 hb.2
  obtain ⟨i1, i2, i3⟩ := inv_spec hp (x := nt own (lead own).toNat) (by rw [hm]; exact l4)
  rw [hm] at i1
  have hone : nt (scaleRow p own (invOf p (nt own (lead own).toNat))) (lead own).toNat = 1 := by
    rw [scaleRow_get _ _ _ _ l1, Int.mul_comm]; exact i1
  refine ⟨by rw [scaleRow_length]; exact r1, scaleRow_inR (by omega) _ _, ?_, hone, fun s hs => ?_⟩
  · rw [lead_of_eq (b := own) (scaleRow_length _ _ _) (fun j hj => ?_) h0 (by rw [hone]; decide)]
    · exact l2
    · rw [scaleRow_get _ _ _ _ (by omega), nt_before_lead own j hj]; simp
  · have hs2 := lead_lt s (hred.good s hs).2.2.1
    have := (hred.good s hs).1
    rw [scaleRow_get _ _ _ _ (by omega), hz s hs]; simp
theorem echStep_red {p : Int} (hp : IsP p) {n : Nat} {out : List Row} (hred : Red p n out) {row : Row} (hn : row.length = n) (hr : InR p row) : Red p n (echStep p out row) := by
  have hpos := hp.pos
  unfold echStep
  split
  · exact hred
  · rename_i h0
    rw [insRow_rec]
    exact insRec_red (by omega) hred (fits_rest hp hred hn hr (by omega))
theorem red_nil (p : Int) (n : Nat) : Red p n [] := ⟨(fun r hr => by cases hr), List.Pairwise.nil⟩
theorem echelon_red {p : Int} (hp : IsP p) {n : Nat} (rows : List Row) (h : ∀ r ∈ rows, r.length = n ∧ InR p r) : Red p n (echelon p rows) := by
  induction rows using snoc_ind with
  | h0 => exact red_nil p n
  | h1 l a ih =>
    unfold echelon
    rw [List.foldl_append]
    exact echStep_red hp (ih fun r hr => h r (List.mem_append_left _ hr)) (h a (by simp)).1 (h a (by simp)).2
theorem echelon_snoc (p : Int) (rows : List Row) (r : Row) : echelon p (rows ++ [r]) = echStep p (echelon p rows) r := by
  simp [echelon, List.foldl_append]
theorem insRow_length (p : Int) (own : Row) (at_ : Nat) (out : List Row) : (insRow p own at_ out).length = out.length + 1 := by
  rw [insRow_rec]
  induction out with
  | nil => rfl
  | cons r rs ih =>
    simp only [insRec]
    split
    · simp
    · simp [ih]
theorem echStep_length (p : Int) (out : List Row) (row : Row) : (echStep p out row).length ≤ out.length + 1 := by
  unfold echStep
  split
  · omega
  · rw [insRow_length]; omega
theorem echelon_length (p : Int) (rows : List Row) : (echelon p rows).length ≤ rows.length := by
  induction rows using snoc_ind with
  | h0 => simp [echelon]
  | h1 l a ih =>
    rw [echelon_snoc]
    have := echStep_length p (echelon p l) a
    simp
    omega
/-- A row of which the first j numbers have been scaled. -/
def scTo (p : Int) (own : Row) (k : Int) (j : Nat) : Row := (scaleRow p own k).take j ++ own.drop j
theorem scTo_length (p : Int) (own : Row) (k : Int) (j : Nat) (h : j ≤ own.length) : (scTo p own k j).length = own.length := by
  simp [scTo, scaleRow_length]; omega
theorem scTo_zero (p : Int) (own : Row) (k : Int) : scTo p own k 0 = own := by simp [scTo]
theorem scTo_all (p : Int) (own : Row) (k : Int) (j : Nat) (h : own.length ≤ j) : scTo p own k j = scaleRow p own k := by
  unfold scTo
  rw [List.drop_eq_nil_of_le h, List.append_nil, List.take_of_length_le (by rw [scaleRow_length]; exact h)]
theorem scTo_nt (p : Int) (own : Row) (k : Int) (j : Nat) (h : j < own.length) : nt (scTo p own k j) j = nt own j := by
  have hl : ((scaleRow p own k).take j).length = j := by simp [scaleRow_length]; omega
  unfold nt scTo
  rw [List.getD_eq_getElem?_getD, List.getElem?_append_right (by omega), hl, List.getElem?_drop, ← List.getD_eq_getElem?_getD]
  simp
theorem scTo_set (p : Int) (own : Row) (k : Int) (j : Nat) (h : j < own.length) : (scTo p own k j).set j (nt own j * k % p) = scTo p own k (j + 1) := by
  have hl : ((scaleRow p own k).take j).length = j := by simp [scaleRow_length]; omega
  unfold scTo
  rw [List.set_append_right _ _ (by omega), hl, Nat.sub_self, take_succ_nt _ _ (by rw [scaleRow_length]; exact h), scaleRow_get _ _ _ _ h, List.drop_eq_getElem_cons h, List.set_cons_zero, List.append_assoc, List.singleton_append]
end Go.Proofs.YtbenhcognapdpaaGreat.Lin
/- Plain definitions and laws of matrices as lists of nine numbers. No program in sight. -/
set_option linter.unusedVariables false
set_option linter.unusedSimpArgs false
namespace Go.Proofs.YtbenhcognapdpaaGreat.Lin

/-- Nine bytes. -/
def IsM (m : Row) : Prop := m.length = 9 ∧ ∀ x ∈ m, 0 ≤ x ∧ x ≤ 255
theorem IsM.nt {m : Row} (h : IsM m) (j : Nat) : 0 ≤ Lin.nt m j ∧ Lin.nt m j ≤ 255 := by
  rcases Nat.lt_or_ge j m.length with hj | hj
  · rw [nt_eq m j hj]; exact h.2 _ (List.getElem_mem hj)
  · rw [nt_out m j hj]; omega
/-- The sum of the first k products of row a of g and column b of h. -/
def dot (g h : Row) (a b : Nat) : Nat → Int
  | 0 => 0
  | k + 1 => dot g h a b k + nt g (a * 3 + k) * nt h (k * 3 + b)
theorem dot_bd {g h : Row} (hg : IsM g) (hh : IsM h) (a b : Nat) (k : Nat) : 0 ≤ dot g h a b k ∧ dot g h a b k ≤ k * 65025 := by
  induction k with
  | zero => simp [dot]
  | succ k ih =>
    have h1 := hg.nt (a * 3 + k)
    have h2 := hh.nt (k * 3 + b)
    have h3 : 0 ≤ nt g (a * 3 + k) * nt h (k * 3 + b) := Int.mul_nonneg h1.1 h2.1
    have h4 : nt g (a * 3 + k) * nt h (k * 3 + b) ≤ 255 * 255 := Int.mul_le_mul h1.2 h2.2 h2.1 (by omega)
    simp only [dot]
    omega
/-- A matrix by its numbers. -/
def mk9 (f : Nat → Nat → Int) : Row := [f 0 0, f 0 1, f 0 2, f 1 0, f 1 1, f 1 2, f 2 0, f 2 1, f 2 2]
theorem mk9_nt (f : Nat → Nat → Int) (a b : Nat) (ha : a < 3) (hb : b < 3) : nt (mk9 f) (a * 3 + b) = f a b := by
  have h1 : a = 0 ∨ a = 1 ∨ a = 2 := by omega
  have h2 : b = 0 ∨ b = 1 ∨ b = 2 := by omega
  rcases h1 with rfl | rfl | rfl <;> rcases h2 with rfl | rfl | rfl <;> rfl
theorem mk9_len (f : Nat → Nat → Int) : (mk9 f).length = 9 := rfl
theorem m_ext {g h : Row} (hg : g.length = 9) (hh : h.length = 9) (e : ∀ a b, a < 3 → b < 3 → nt g (a * 3 + b) = nt h (a * 3 + b)) : g = h := by
  refine row_ext (by omega) fun j hj => ?_
  have := e (j / 3) (j % 3) (by omega) (by omega)
  rwa [show j / 3 * 3 + j % 3 = j by omega] at this
def timesM (p : Int) (n : Nat) (g h : Row) : Row := mk9 fun a b => if a < n ∧ b < n then dot g h a b n % p else 0
theorem mk9_isM (f : Nat → Nat → Int) (h : ∀ a b, a < 3 → b < 3 → 0 ≤ f a b ∧ f a b ≤ 255) : IsM (mk9 f) := by
  refine ⟨rfl, fun x hx => ?_⟩
  obtain ⟨j, hj, rfl⟩ := List.mem_iff_getElem.1 hx
  have hj' : j < 9 := hj
  have h1 := mk9_nt f (j / 3) (j % 3) (by omega) (by omega)
  rw [show j / 3 * 3 + j % 3 = j by omega, nt_eq _ _ hj] at h1
  rw [h1]
  exact h _ _ (by omega) (by omega)
theorem timesM_isM {p : Int} (hp : 0 < p) (hp2 : p ≤ 256) (n : Nat) (g h : Row) : IsM (timesM p n g h) := by
  refine mk9_isM _ fun a b _ _ => ?_
  split
  · have h1 := Int.emod_nonneg (dot g h a b n) (show p ≠ 0 by omega)
    have h2 := Int.emod_lt_of_pos (dot g h a b n) hp
    omega
  · omega
/-- While it is being made: what is there behind i rows and j numbers of the next. -/
def Part (f : Nat → Nat → Int) (n i j : Nat) (o : Row) : Prop := o.length = 9 ∧ ∀ a b, a < 3 → b < 3 → nt o (a * 3 + b) = if b < n ∧ (a < i ∨ a = i ∧ b < j) then f a b else 0
theorem nt_set {o : Row} {i : Nat} {x : Int} (h : i < o.length) (j : Nat) : nt (o.set i x) j = if j = i then x else nt o j := by
  unfold nt
  rw [List.getD_eq_getElem?_getD, List.getD_eq_getElem?_getD, List.getElem?_set]
  by_cases e : i = j
  · subst e; simp [h]
  · rw [if_neg e, if_neg (fun h => e h.symm)]
theorem Part.step {f : Nat → Nat → Int} {n i j : Nat} {o : Row} (h : Part f n i j o) (hi : i < 3) (hj : j < 3) (hn : j < n) : Part f n i (j + 1) (o.set (i * 3 + j) (f i j)) := by
  refine ⟨by rw [List.length_set]; exact h.1, fun a b ha hb => ?_⟩
  rw [nt_set (by rw [h.1]; omega), h.2 a b ha hb]
  by_cases e : a * 3 + b = i * 3 + j
  · have e1 : a = i := by omega
    have e2 : b = j := by omega
    subst e1 e2
    rw [if_pos rfl, if_pos ⟨hn, .inr ⟨rfl, by omega⟩⟩]
  · rw [if_neg e]
    by_cases c : b < n ∧ (a < i ∨ a = i ∧ b < j)
    · rw [if_pos c, if_pos ⟨c.1, by omega⟩]
    · rw [if_neg c, if_neg (by omega)]
theorem Part.next {f : Nat → Nat → Int} {n i : Nat} {o : Row} (h : Part f n i n o) : Part f n (i + 1) 0 o := by
  refine ⟨h.1, fun a b ha hb => ?_⟩
  rw [h.2 a b ha hb]
  by_cases c : b < n ∧ (a < i ∨ a = i ∧ b < n)
  · rw [if_pos c, if_pos ⟨c.1, by omega⟩]
  · rw [if_neg c, if_neg (by omega)]
theorem Part.start (f : Nat → Nat → Int) (n : Nat) : Part f n 0 0 [0, 0, 0, 0, 0, 0, 0, 0, 0] := by
  refine ⟨rfl, fun a b ha hb => ?_⟩
  rw [if_neg (by omega)]
  have h1 : a = 0 ∨ a = 1 ∨ a = 2 := by omega
  have h2 : b = 0 ∨ b = 1 ∨ b = 2 := by omega
  rcases h1 with rfl | rfl | rfl <;> rcases h2 with rfl | rfl | rfl <;> rfl
theorem Part.done {f : Nat → Nat → Int} {n : Nat} {o : Row} (h : Part f n n 0 o) : o = mk9 fun a b => if a < n ∧ b < n then f a b else 0 := by
  refine m_ext h.1 (mk9_len _) fun a b ha hb => ?_
  rw [h.2 a b ha hb, mk9_nt _ a b ha hb]
  by_cases c : a < n ∧ b < n
  · rw [if_pos c, if_pos ⟨c.2, .inl c.1⟩]
  · rw [if_neg c, if_neg (by omega)]
def unitM (n : Nat) : Row := mk9 fun a b => if a < n ∧ b < n then (if a = b then 1 else 0) else 0
/-- The unit while it is being made. -/
def UPart (n i : Nat) (o : Row) : Prop := o.length = 9 ∧ ∀ a b, a < 3 → b < 3 → nt o (a * 3 + b) = if a = b ∧ a < i then 1 else 0
theorem UPart.start (n : Nat) : UPart n 0 [0, 0, 0, 0, 0, 0, 0, 0, 0] := by
  refine ⟨rfl, fun a b ha hb => ?_⟩
  rw [if_neg (by omega)]
  have h1 : a = 0 ∨ a = 1 ∨ a = 2 := by omega
  have h2 : b = 0 ∨ b = 1 ∨ b = 2 := by omega
  rcases h1 with rfl | rfl | rfl <;> rcases h2 with rfl | rfl | rfl <;> rfl
theorem UPart.step {n i : Nat} {o : Row} (h : UPart n i o) (hi : i < 3) (hn : i < n) : UPart n (i + 1) (o.set (i * 3 + i) 1) := by
  refine ⟨by rw [List.length_set]; exact h.1, fun a b ha hb => ?_⟩
  rw [nt_set (by rw [h.1]; omega), h.2 a b ha hb]
  by_cases e : a * 3 + b = i * 3 + i
  · have e1 : a = i := by omega
    have e2 : b = i := by omega
    subst e1 e2
    rw [if_pos rfl, if_pos ⟨rfl, by omega⟩]
  · rw [if_neg e]
    by_cases c : a = b ∧ a < i
    · rw [if_pos c, if_pos ⟨c.1, by omega⟩]
    · rw [if_neg c, if_neg (by omega)]
theorem UPart.done {n : Nat} {o : Row} (h : UPart n n o) : o = unitM n := by
  refine m_ext h.1 (mk9_len _) fun a b ha hb => ?_
  rw [h.2 a b ha hb]
  unfold unitM
  rw [mk9_nt _ a b ha hb]
  by_cases c : a = b
  · subst c
    by_cases c2 : a < n
    · rw [if_pos ⟨rfl, c2⟩, if_pos ⟨c2, c2⟩, if_pos rfl]
    · rw [if_neg (by omega), if_neg (by omega)]
  · rw [if_neg (by omega), if_neg c]
    split <;> rfl
theorem unitM_isM (n : Nat) : IsM (unitM n) := mk9_isM _ fun a b _ _ => by (repeat split) <;> omega
end Go.Proofs.YtbenhcognapdpaaGreat.Lin
/- Plain definitions: tests on rows, comparisons. No program in sight. -/
set_option linter.unusedVariables false
set_option linter.unusedSimpArgs false
namespace Go.Proofs.YtbenhcognapdpaaGreat.Lin

instance (p : Int) : Decidable (IsP p) := by unfold IsP; infer_instance
instance (p : Int) (r : Row) : Decidable (InR p r) := by unfold InR; infer_instance
def primeB (p : Int) : Bool := decide (IsP p)
def fieldB (p : Int) (l : Row) : Bool := decide (InR p l)
def pointB (p d : Int) (l : Row) : Bool := decide ((l.length : Int) = d ∧ InR p l)
def sameB (a b : Row) : Bool := decide (a = b)
theorem primeB_iff {p : Int} : primeB p = true ↔ IsP p := by simp [primeB]
theorem fieldB_true {p : Int} {l : Row} (h : ∀ j < l.length, 0 ≤ nt l j ∧ nt l j < p) : fieldB p l = true := decide_eq_true (inR_of_get h)
theorem fieldB_false {p : Int} {l : Row} {j : Nat} (hj : j < l.length) (h : ¬ (0 ≤ nt l j ∧ nt l j < p)) : fieldB p l = false := by
  refine decide_eq_false fun hi => h ?_
  rw [nt_eq l j hj]
  exact hi _ (List.getElem_mem hj)
theorem pointB_false {p d : Int} {l : Row} {j : Nat} (hj : j < l.length) (h : ¬ (0 ≤ nt l j ∧ nt l j < p)) : pointB p d l = false := by
  refine decide_eq_false fun hi => h ?_
  rw [nt_eq l j hj]
  exact hi.2 _ (List.getElem_mem hj)
theorem pointB_eq {p d : Int} {l : Row} (h : ∀ j < l.length, 0 ≤ nt l j ∧ nt l j < p) : pointB p d l = ((l.length : Int) == d) := by
  rw [Bool.eq_iff_iff, beq_iff_eq]
  unfold pointB
  rw [decide_eq_true_iff]
  exact ⟨fun h => h.1, fun e => ⟨e, inR_of_get h⟩⟩
theorem pointB_field (p d : Int) (l : Row) : pointB p d l = (decide ((l.length : Int) = d) && fieldB p l) := by
  unfold pointB fieldB
  rw [Bool.eq_iff_iff]
  simp
theorem sameB_false {a b : Row} {j : Nat} (hl : a.length = b.length) (hj : j < a.length) (h : nt a j ≠ nt b j) : sameB a b = false := by
  refine decide_eq_false fun e => h (by rw [e])
theorem sameB_true {a b : Row} (hl : a.length = b.length) (h : ∀ j < a.length, nt a j = nt b j) : sameB a b = true := decide_eq_true (row_ext hl h)

/-- The lexicographic order of rows: -1, 0, 1. -/
def cmpL : Row → Row → Int
  | [], [] => 0
  | [], _ :: _ => -1
  | _ :: _, [] => 1
  | a :: as, b :: bs => if a < b then -1 else if b < a then 1 else cmpL as bs
theorem cmpL_skip : ∀ {a b : Row} {k : Nat}, k ≤ a.length → k ≤ b.length → (∀ j < k, nt a j = nt b j) → cmpL a b = cmpL (a.drop k) (b.drop k) := by
  intro a b k
  induction k generalizing a b with
  | zero => intro _ _ _; rfl
  | succ k ih =>
    intro ha hb h
    cases a with
    | nil => simp at ha
    | cons x as =>
      cases b with
      | nil => simp at hb
      | cons y bs =>
        have h0 : x = y := h 0 (by omega)
        subst h0
        simp only [cmpL, Int.lt_irrefl, if_false, List.drop_succ_cons]
        exact ih (by simpa using ha) (by simpa using hb) fun j hj => h (j + 1) (by omega)
theorem cmpL_lt {a b : Row} {k : Nat} (ha : k < a.length) (hb : k < b.length) (h : ∀ j < k, nt a j = nt b j) (hl : nt a k < nt b k) : cmpL a b = -1 := by
  rw [cmpL_skip (by omega) (by omega) h, List.drop_eq_getElem_cons ha, List.drop_eq_getElem_cons hb]
  rw [nt_eq a k ha, nt_eq b k hb] at hl
  simp [cmpL, hl]
theorem cmpL_gt {a b : Row} {k : Nat} (ha : k < a.length) (hb : k < b.length) (h : ∀ j < k, nt a j = nt b j) (hl : nt b k < nt a k) : cmpL a b = 1 := by
  rw [cmpL_skip (by omega) (by omega) h, List.drop_eq_getElem_cons ha, List.drop_eq_getElem_cons hb]
  rw [nt_eq a k ha, nt_eq b k hb] at hl
  have : ¬ a[k] < b[k] := by omega
  simp [cmpL, hl, this]
theorem cmpL_end {a b : Row} (hl : a.length ≤ b.length) (h : ∀ j < a.length, nt a j = nt b j) : cmpL a b = if a.length < b.length then -1 else 0 := by
  rw [cmpL_skip (k := a.length) (by omega) hl h, List.drop_length]
  split
  · rename_i h2
    rw [List.drop_eq_getElem_cons h2]; rfl
  · rw [List.drop_eq_nil_of_le (by omega)]; rfl
theorem cmpL_out {a b : Row} (hl : b.length < a.length) (h : ∀ j < b.length, nt a j = nt b j) : cmpL a b = 1 := by
  rw [cmpL_skip (k := b.length) (by omega) (by omega) h, List.drop_length, List.drop_eq_getElem_cons hl]; rfl
/-- Of two numbers. -/
def cmpI (a b : Int) : Int := if a < b then -1 else if b < a then 1 else 0
theorem cmpL_cases : ∀ (a b : Row), cmpL a b = -1 ∨ cmpL a b = 0 ∨ cmpL a b = 1
  | [], [] => by simp [cmpL]
  | [], _ :: _ => by simp [cmpL]
  | _ :: _, [] => by simp [cmpL]
  | a :: as, b :: bs => by
    simp only [cmpL]
    split
    · simp
    · split
      · simp
      · exact cmpL_cases as bs
theorem cmpL_self : ∀ (a : Row), cmpL a a = 0
  | [] => rfl
  | a :: as => by simp [cmpL, cmpL_self as]
theorem cmpL_eq_zero : ∀ {a b : Row}, cmpL a b = 0 → a = b
  | [], [], _ => rfl
  | [], _ :: _, h => by simp [cmpL] at h
  | _ :: _, [], h => by simp [cmpL] at h
  | a :: as, b :: bs, h => by
    simp only [cmpL] at h
    split at h
    · cases h
    · split at h
      · cases h
      · rw [cmpL_eq_zero h, show a = b by omega]
theorem cmpL_append : ∀ {a b : Row} (c d : Row), a.length = b.length → cmpL (a ++ c) (b ++ d) = if cmpL a b = 0 then cmpL c d else cmpL a b
  | [], [], c, d, _ => by simp [cmpL]
  | a :: as, b :: bs, c, d, h => by
    have ih := cmpL_append (a := as) (b := bs) c d (by simpa using h)
    simp only [List.cons_append, cmpL]
    split
    · simp
    · split
      · simp
      · exact ih
  | [], _ :: _, _, _, h => by simp at h
  | _ :: _, [], _, _, h => by simp at h
theorem cmpL_rev : ∀ (a b : Row), cmpL b a = - cmpL a b
  | [], [] => by simp [cmpL]
  | [], _ :: _ => by simp [cmpL]
  | _ :: _, [] => by simp [cmpL]
  | a :: as, b :: bs => by
    simp only [cmpL]
    by_cases h : a < b
    · have : ¬ b < a := by omega
      simp [h, this]
    · by_cases h2 : b < a
      · simp [h, h2]
      · simp [h, h2, cmpL_rev as bs]
/-- Row i of a matrix. -/
def rowM (m : Row) (i : Nat) : Row := (m.drop (i * 3)).take 3
theorem rowM_len {m : Row} (h : m.length = 9) {i : Nat} (hi : i < 3) : (rowM m i).length = 3 := by
  simp [rowM]; omega
theorem rowM_nt {m : Row} (h : m.length = 9) {i : Nat} (hi : i < 3) {j : Nat} (hj : j < 3) : nt (rowM m i) j = nt m (i * 3 + j) := by
  unfold nt rowM
  simp only [List.getD_eq_getElem?_getD, List.getElem?_take, List.getElem?_drop]
  rw [if_pos hj]
theorem cmpL_row {m g : Row} (hm : m.length = 9) (hg : g.length = 9) {i : Nat} (hi : i < 3) (h : ∀ j < i * 3, nt m j = nt g j) (hc : cmpL (rowM m i) (rowM g i) ≠ 0) : cmpL m g = cmpL (rowM m i) (rowM g i) := by
  rw [cmpL_skip (k := i * 3) (by omega) (by omega) h]
  conv => lhs; rw [← List.take_append_drop 3 (m.drop (i * 3)), ← List.take_append_drop 3 (g.drop (i * 3))]
  rw [cmpL_append _ _ (by simp; omega)]
  exact if_neg hc
theorem rows_next {m g : Row} (hm : m.length = 9) (hg : g.length = 9) {i : Nat} (hi : i < 3) (h : ∀ j < i * 3, nt m j = nt g j) (hc : cmpL (rowM m i) (rowM g i) = 0) : ∀ j < (i + 1) * 3, nt m j = nt g j := by
  intro j hj
  by_cases h1 : j < i * 3
  · exact h j h1
  · have e := cmpL_eq_zero hc
    have e1 := rowM_nt hm hi (j := j - i * 3) (by omega)
    have e2 := rowM_nt hg hi (j := j - i * 3) (by omega)
    rw [e] at e1
    rw [show i * 3 + (j - i * 3) = j by omega] at e1 e2
    rw [← e1, ← e2]
theorem cmpL_all {m g : Row} (hm : m.length = 9) (hg : g.length = 9) (h : ∀ j < 3 * 3, nt m j = nt g j) : cmpL m g = 0 := by
  rw [row_ext (a := m) (b := g) (by omega) (fun j hj => h j (by omega)), cmpL_self]
end Go.Proofs.YtbenhcognapdpaaGreat.Lin
/- Plain laws: determinants, and the reduced lists of a matrix beside the unit matrix. No program in sight. -/
set_option linter.unusedVariables false
set_option linter.unusedSimpArgs false
namespace Go.Proofs.YtbenhcognapdpaaGreat.Lin

/-- The sum of the first numbers. -/
def sumTo (f : Nat → Int) : Nat → Int
  | 0 => 0
  | k + 1 => sumTo f k + f k
def dotF (c : Nat → Int) (r : Row) (k : Nat) : Int := sumTo (fun j => c j * nt r j) k
theorem dotF_less {p : Int} {n : Nat} (c : Nat → Int) {r o : Row} (k : Int) (hr : r.length = n) (ho : o.length = n) (h1 : p ∣ dotF c r n) (h2 : p ∣ dotF c o n) : p ∣ dotF c (lessOf p r o k) n := by
  have key : ∀ m, m ≤ n → ∃ q, dotF c (lessOf p r o k) m = dotF c r m - k * dotF c o m + p * q := by
    intro m
    induction m with
    | zero => intro _; exact ⟨0, by simp [dotF, sumTo]⟩
    | succ m ih =>
      intro hm
      obtain ⟨q, hq⟩ := ih (by omega)
      refine ⟨q - c m * ((nt r m - k * nt o m) / p), ?_⟩
      have e := lessOf_get p r o k (by omega) m (by omega)
      rw [Int.emod_def] at e
      simp only [dotF, sumTo] at hq ⊢
      rw [hq, e]
      grind
  obtain ⟨q, hq⟩ := key n (Nat.le_refl n)
  obtain ⟨a, ha⟩ := h1
  obtain ⟨b, hb⟩ := h2
  exact ⟨a - k * b + q, by rw [hq, ha, hb]; grind⟩
theorem dotF_scale {p : Int} {n : Nat} (c : Nat → Int) {r : Row} (k : Int) (hr : r.length = n) (h1 : p ∣ dotF c r n) : p ∣ dotF c (scaleRow p r k) n := by
  have key : ∀ m, m ≤ n → ∃ q, dotF c (scaleRow p r k) m = k * dotF c r m + p * q := by
    intro m
    induction m with
    | zero => intro _; exact ⟨0, by simp [dotF, sumTo]⟩
    | succ m ih =>
      intro hm
      obtain ⟨q, hq⟩ := ih (by omega)
      refine ⟨q - c m * ((nt r m * k) / p), ?_⟩
      have e := scaleRow_get p r k m (by omega)
      rw [Int.emod_def] at e
      simp only [dotF, sumTo] at hq ⊢
      rw [hq, e]
      grind
  obtain ⟨q, hq⟩ := key n (Nat.le_refl n)
  obtain ⟨a, ha⟩ := h1
  exact ⟨k * a + q, by rw [hq, ha]; grind⟩

/-- What is kept by the steps holds of every row of a reduced list. -/
theorem restOf_all {p : Int} {n : Nat} (hp : 0 < p) {K : Row → Prop} (hl : ∀ r o k, r.length = n → o.length = n → K r → K o → K (lessOf p r o k)) (list : List Row) : ∀ (row : Row), GoodRows p n list → (∀ r ∈ list, K r) → row.length = n → InR p row → K row → K (restOf p list row) := by
  induction list with
  | nil => intro row _ _ _ _ h; exact h
  | cons r rs ih =>
    intro row hg hk h1 h2 h3
    have hr := hg r (List.mem_cons_self ..)
    have hrs : GoodRows p n rs := fun x hx => hg x (List.mem_cons_of_mem _ hx)
    simp only [restOf, List.foldl_cons]
    split
    · exact ih row hrs (fun x hx => hk x (List.mem_cons_of_mem _ hx)) h1 h2 h3
    · exact ih _ hrs (fun x hx => hk x (List.mem_cons_of_mem _ hx)) (by rw [lessOf_length _ _ _ _ (by omega)]; exact h1) (lessOf_inR _ _ _ _ hp (by omega)) (hl _ _ _ h1 hr.1 h3 (hk r (List.mem_cons_self ..)))
theorem echelon_all {p : Int} {n : Nat} (hp : IsP p) {K : Row → Prop} (hl : ∀ r o k, r.length = n → o.length = n → K r → K o → K (lessOf p r o k)) (hs : ∀ r k, r.length = n → K r → K (scaleRow p r k)) (rows : List Row) (h : ∀ r ∈ rows, r.length = n ∧ InR p r ∧ K r) : ∀ r ∈ echelon p rows, K r := by
  have hpp := hp.pos
  induction rows using snoc_ind with
  | h0 => intro r hr; cases hr
  | h1 l a ih =>
    have hla : ∀ r ∈ l, r.length = n ∧ InR p r ∧ K r := fun r hr => h r (List.mem_append_left _ hr)
    have ha := h a (by simp)
    have hred := echelon_red hp l (n := n) fun r hr => ⟨(hla r hr).1, (hla r hr).2.1⟩
    have ih := ih hla
    rw [echelon_snoc]
    have hrest := restOf_good (by omega) _ a hred.rows ha.1 ha.2.1
    have hK := restOf_all (by omega) hl _ a hred.rows ih ha.1 ha.2.1 ha.2.2
    unfold echStep
    split
    · exact ih
    · rw [insRow_rec]
      intro r hr
      rcases insRec_mem.1 hr with rfl | ⟨x, hx, rfl⟩
      · exact hs _ _ hrest.1 hK
      · exact hl _ _ _ (hred.rows x hx).1 (by rw [scaleRow_length]; exact hrest.1) (ih x hx) (hs _ _ hrest.1 hK)
theorem rest_keep {p : Int} {n : Nat} (hp : 0 < p) {j : Nat} (hj : j < n) (list : List Row) : ∀ (row : Row), GoodRows p n list → (∀ r ∈ list, nt r j = 0) → row.length = n → InR p row → nt (restOf p list row) j = nt row j := by
  induction list with
  | nil => intro row _ _ _ _; rfl
  | cons r rs ih =>
    intro row hg hk h1 h2
    have hr := hg r (List.mem_cons_self ..)
    have hrs : GoodRows p n rs := fun x hx => hg x (List.mem_cons_of_mem _ hx)
    have hks : ∀ r ∈ rs, nt r j = 0 := fun x hx => hk x (List.mem_cons_of_mem _ hx)
    simp only [restOf, List.foldl_cons]
    split
    · exact ih row hrs hks h1 h2
    · refine (ih _ hrs hks (by rw [lessOf_length _ _ _ _ (by omega)]; exact h1) (lessOf_inR _ _ _ _ hp (by omega))).trans ?_
      rw [lessOf_get _ _ _ _ (by omega) _ (by omega), hk r (List.mem_cons_self ..)]
      have := h2.nt hp j
      rw [Int.mul_zero, Int.sub_zero]
      exact Int.emod_eq_of_lt this.1 this.2

/-- The row of a matrix beside the row of the unit matrix. -/
def augF (n : Nat) (m : Row) (i j : Nat) : Int := if j < n then nt m (i * 3 + j) else if j = n + i then 1 else 0
def augRow (n : Nat) (m : Row) (i : Nat) : Row := (List.range (2 * n)).map (augF n m i)
def augs (n : Nat) (m : Row) (i : Nat) : List Row := (List.range i).map (augRow n m)
theorem augRow_len (n : Nat) (m : Row) (i : Nat) : (augRow n m i).length = 2 * n := by simp [augRow]
theorem augRow_nt (n : Nat) (m : Row) (i : Nat) {j : Nat} (hj : j < 2 * n) : nt (augRow n m i) j = augF n m i j := by
  rw [nt_eq _ _ (by rw [augRow_len]; exact hj)]
  simp [augRow]
theorem augs_succ (n : Nat) (m : Row) (i : Nat) : augs n m (i + 1) = augs n m i ++ [augRow n m i] := by
  simp [augs, List.range_succ]
theorem augs_len (n : Nat) (m : Row) (i : Nat) : (augs n m i).length = i := by simp [augs]
/-- The numbers of a matrix are right. -/
def EntOk (p : Int) (n : Nat) (m : Row) : Prop := ∀ a < 3, ∀ b < 3, nt m (a * 3 + b) < p ∧ (n ≤ a ∨ n ≤ b → nt m (a * 3 + b) = 0)
instance (p : Int) (n : Nat) (m : Row) : Decidable (EntOk p n m) := by unfold EntOk; infer_instance
theorem aug_good {p : Int} (hp : IsP p) {n : Nat} {m : Row} (hm : IsM m) (hn : n ≤ 3) (h : EntOk p n m) {i : Nat} (hi : i < n) : (augRow n m i).length = 2 * n ∧ InR p (augRow n m i) := by
  have hpp := hp.pos
  refine ⟨augRow_len .., inR_of_get fun j hj => ?_⟩
  rw [augRow_len] at hj
  rw [augRow_nt _ _ _ hj]
  unfold augF
  split
  · exact ⟨(hm.nt _).1, (h i (by omega) j (by omega)).1⟩
  · split <;> omega
theorem augs_good {p : Int} (hp : IsP p) {n : Nat} {m : Row} (hm : IsM m) (hn : n ≤ 3) (h : EntOk p n m) {i : Nat} (hi : i ≤ n) : ∀ r ∈ augs n m i, r.length = 2 * n ∧ InR p r := by
  intro r hr
  obtain ⟨k, hk, rfl⟩ := List.mem_map.1 hr
  exact aug_good hp hm hn h (by have := List.mem_range.1 hk; omega)
theorem augs_length {p : Int} (hp : IsP p) {n : Nat} {m : Row} (hm : IsM m) (hn : n ≤ 3) (h : EntOk p n m) : ∀ i, i ≤ n → (echelon p (augs n m i)).length = i := by
  have hpp := hp.pos
  intro i
  induction i with
  | zero => intro _; rfl
  | succ i ih =>
    intro hi
    have ih := ih (by omega)
    rw [augs_succ, echelon_snoc]
    have hred := echelon_red hp _ (augs_good hp hm hn h (show i ≤ n by omega))
    have hz : ∀ r ∈ echelon p (augs n m i), nt r (n + i) = 0 := by
      refine echelon_all hp (n := 2 * n) (K := fun r => nt r (n + i) = 0) ?_ ?_ _ ?_
      · intro r o k hr ho h1 h2
        rw [lessOf_get _ _ _ _ (by omega) _ (by omega), h1, h2]; simp
      · intro r k hr h1
        rw [scaleRow_get _ _ _ _ (by omega), h1]; simp
      · intro r hr
        have hg := augs_good hp hm hn h (show i ≤ n by omega) r hr
        refine ⟨hg.1, hg.2, ?_⟩
        obtain ⟨k, hk, rfl⟩ := List.mem_map.1 hr
        have := List.mem_range.1 hk
        rw [augRow_nt _ _ _ (by omega)]
        unfold augF
        rw [if_neg (by omega), if_neg (by omega)]
    have hg := aug_good hp hm hn h (show i < n by omega)
    have h1 := rest_keep (by omega) (show n + i < 2 * n by omega) _ _ hred.rows hz hg.1 hg.2
    rw [augRow_nt _ _ _ (by omega)] at h1
    have h2 : augF n m i (n + i) = 1 := by unfold augF; rw [if_neg (by omega), if_pos rfl]
    have hl : 0 ≤ lead (restOf p (echelon p (augs n m i)) (augRow n m i)) := by
      by_cases hc : 0 ≤ lead (restOf p (echelon p (augs n m i)) (augRow n m i))
      · exact hc
      · exfalso
        have hlen := (restOf_good (by omega) _ _ hred.rows hg.1 hg.2).1
        have : lead (restOf p (echelon p (augs n m i)) (augRow n m i)) = -1 ∨ 0 ≤ lead (restOf p (echelon p (augs n m i)) (augRow n m i)) := by
          unfold lead; split <;> omega
        have hne : ¬ fstNZ (restOf p (echelon p (augs n m i)) (augRow n m i)) < (restOf p (echelon p (augs n m i)) (augRow n m i)).length := by
          intro hlt
          apply hc
          unfold lead
          rw [if_pos hlt]
          omega
        have := fstNZ_before (restOf p (echelon p (augs n m i)) (augRow n m i)) (n + i) (by omega)
        omega
    unfold echStep
    rw [if_neg (by omega), insRow_length, ih]

/-- The determinant, not yet reduced. -/
def detV (n : Nat) (m : Row) : Int :=
  if n = 2 then nt m 0 * nt m 4 - nt m 1 * nt m 3
  else if n = 3 then nt m 0 * (nt m 4 * nt m 8 - nt m 5 * nt m 7) - nt m 1 * (nt m 3 * nt m 8 - nt m 5 * nt m 6) + nt m 2 * (nt m 3 * nt m 7 - nt m 4 * nt m 6)
  else nt m 0
/-- What holds of the rows of the reduced list: the left part is the right part times the matrix. -/
def Bound (p : Int) (n : Nat) (m : Row) (r : Row) : Prop := ∀ j < n, p ∣ dotF (fun x => if x = j then 1 else if n ≤ x then - nt m ((x - n) * 3 + j) else 0) r (2 * n)
theorem aug_bound {p : Int} {n : Nat} {m : Row} (hn : n ≤ 3) {i : Nat} (hi : i < n) : Bound p n m (augRow n m i) := by
  intro j hj
  refine ⟨0, ?_⟩
  obtain rfl | rfl | rfl : n = 1 ∨ n = 2 ∨ n = 3 := by omega
  · obtain rfl : i = 0 := by omega
    obtain rfl : j = 0 := by omega
    simp [dotF, sumTo, augRow_nt, augF]
    omega
  · obtain rfl | rfl : i = 0 ∨ i = 1 := by omega
    all_goals obtain rfl | rfl : j = 0 ∨ j = 1 := by omega
    all_goals simp [dotF, sumTo, augRow_nt, augF]
    all_goals omega
  · obtain rfl | rfl | rfl : i = 0 ∨ i = 1 ∨ i = 2 := by omega
    all_goals obtain rfl | rfl | rfl : j = 0 ∨ j = 1 ∨ j = 2 := by omega
    all_goals simp [dotF, sumTo, augRow_nt, augF]
    all_goals omega
theorem ech_bound {p : Int} (hp : IsP p) {n : Nat} {m : Row} (hm : IsM m) (hn : n ≤ 3) (h : EntOk p n m) : ∀ r ∈ echelon p (augs n m n), Bound p n m r := by
  refine echelon_all hp (n := 2 * n) ?_ ?_ _ ?_
  · intro r o k hr ho h1 h2 j hj
    exact dotF_less _ k hr ho (h1 j hj) (h2 j hj)
  · intro r k hr h1 j hj
    exact dotF_scale _ k hr (h1 j hj)
  · intro r hr
    have hg := augs_good hp hm hn h (Nat.le_refl n) r hr
    refine ⟨hg.1, hg.2, ?_⟩
    obtain ⟨k, hk, rfl⟩ := List.mem_map.1 hr
    exact aug_bound hn (List.mem_range.1 hk)
end Go.Proofs.YtbenhcognapdpaaGreat.Lin
/- Plain laws: a matrix beside the unit matrix reduces to the unit matrix beside another one just if its determinant is not 0. -/
set_option linter.unusedVariables false
set_option linter.unusedSimpArgs false
namespace Go.Proofs.YtbenhcognapdpaaGreat.Lin

theorem incr_ge {l : List Row} {n : Nat} (h0 : ∀ r ∈ l, 0 ≤ lead r) (h : l.Pairwise (fun r s => lead r < lead s)) : ∀ i (hi : i < l.length), (i : Int) ≤ lead l[i] := by
  intro i
  induction i with
  | zero => intro hi; exact h0 _ (List.getElem_mem hi)
  | succ i ih =>
    intro hi
    have h1 := ih (by omega)
    have h2 := List.pairwise_iff_getElem.1 h i (i + 1) (by omega) hi (by omega)
    omega
theorem incr_le {l : List Row} {n : Int} (hn : ∀ r ∈ l, lead r < n) (h : l.Pairwise (fun r s => lead r < lead s)) : ∀ k i (hi : i < l.length), i + k + 1 = l.length → lead l[i] + k < n := by
  intro k
  induction k with
  | zero => intro i hi _; have := hn _ (List.getElem_mem hi); omega
  | succ k ih =>
    intro i hi he
    have h1 := ih (i + 1) (by omega) (by omega)
    have h2 := List.pairwise_iff_getElem.1 h i (i + 1) hi (by omega) (by omega)
    omega

theorem det3 (t00 t01 t02 t10 t11 t12 t20 t21 t22 g00 g01 g02 g10 g11 g12 g20 g21 g22 : Int) :
    (t00*(t11*t22-t12*t21) - t01*(t10*t22-t12*t20) + t02*(t10*t21-t11*t20)) * (g00*(g11*g22-g12*g21) - g01*(g10*g22-g12*g20) + g02*(g10*g21-g11*g20))
    = (t00*g00+t01*g10+t02*g20) * ((t10*g01+t11*g11+t12*g21)*(t20*g02+t21*g12+t22*g22) - (t10*g02+t11*g12+t12*g22)*(t20*g01+t21*g11+t22*g21))
    - (t00*g01+t01*g11+t02*g21) * ((t10*g00+t11*g10+t12*g20)*(t20*g02+t21*g12+t22*g22) - (t10*g02+t11*g12+t12*g22)*(t20*g00+t21*g10+t22*g20))
    + (t00*g02+t01*g12+t02*g22) * ((t10*g00+t11*g10+t12*g20)*(t20*g01+t21*g11+t22*g21) - (t10*g01+t11*g11+t12*g21)*(t20*g00+t21*g10+t22*g20)) := by
  grind
theorem near3 (p q00 q01 q02 q10 q11 q12 q20 q21 q22 : Int) :
    (1 - p*q00) * ((1 - p*q11)*(1 - p*q22) - (0 - p*q12)*(0 - p*q21)) - (0 - p*q01) * ((0 - p*q10)*(1 - p*q22) - (0 - p*q12)*(0 - p*q20)) + (0 - p*q02) * ((0 - p*q10)*(0 - p*q21) - (1 - p*q11)*(0 - p*q20))
    = 1 + p * ((0 - q00)*((1 - p*q11)*(1 - p*q22) - (0 - p*q12)*(0 - p*q21)) + (0 - q11 - q22 + p*q11*q22 - p*q12*q21) + q01*((0 - p*q10)*(1 - p*q22) - (0 - p*q12)*(0 - p*q20)) - q02*((0 - p*q10)*(0 - p*q21) - (1 - p*q11)*(0 - p*q20))) := by
  grind

/-- A row whose left part is 0 and whose right part is not: the determinant is 0. -/
theorem det_zero {p : Int} {n : Nat} {m r : Row} (hn : 1 ≤ n) (hn3 : n ≤ 3) (hb : Bound p n m r) (hz : ∀ j < n, nt r j = 0) {k : Nat} (hk : k < n) (h1 : nt r (n + k) = 1) : p ∣ detV n m := by
  obtain rfl | rfl | rfl : n = 1 ∨ n = 2 ∨ n = 3 := by omega
  · obtain ⟨a, ha⟩ := hb 0 (by omega)
    have z0 := hz 0 (by omega)
    obtain rfl : k = 0 := by omega
    simp [dotF, sumTo, z0, h1] at ha
    exact ⟨- a, by simp [detV]; grind⟩
  · obtain ⟨a, ha⟩ := hb 0 (by omega)
    obtain ⟨b, hb⟩ := hb 1 (by omega)
    have z0 := hz 0 (by omega)
    have z1 := hz 1 (by omega)
    simp [dotF, sumTo, z0, z1] at ha hb
    obtain rfl | rfl : k = 0 ∨ k = 1 := by omega
    all_goals simp at h1
    all_goals rw [h1] at ha hb
    · exact ⟨- a * nt m 4 + b * nt m 3, by simp [detV]; grind⟩
    · exact ⟨- b * nt m 0 + a * nt m 1, by simp [detV]; grind⟩
  · obtain ⟨a, ha⟩ := hb 0 (by omega)
    obtain ⟨b, hb'⟩ := hb 1 (by omega)
    obtain ⟨c, hc⟩ := hb 2 (by omega)
    have z0 := hz 0 (by omega)
    have z1 := hz 1 (by omega)
    have z2 := hz 2 (by omega)
    simp [dotF, sumTo, z0, z1, z2] at ha hb' hc
    obtain rfl | rfl | rfl : k = 0 ∨ k = 1 ∨ k = 2 := by omega
    all_goals simp at h1
    all_goals rw [h1] at ha hb' hc
    · exact ⟨- a * (nt m 4 * nt m 8 - nt m 5 * nt m 7) - b * (nt m 5 * nt m 6 - nt m 3 * nt m 8) - c * (nt m 3 * nt m 7 - nt m 4 * nt m 6), by simp [detV]; grind⟩
    · exact ⟨- a * (nt m 2 * nt m 7 - nt m 1 * nt m 8) - b * (nt m 0 * nt m 8 - nt m 2 * nt m 6) - c * (nt m 1 * nt m 6 - nt m 0 * nt m 7), by simp [detV]; grind⟩
    · exact ⟨- a * (nt m 1 * nt m 5 - nt m 2 * nt m 4) - b * (nt m 2 * nt m 3 - nt m 0 * nt m 5) - c * (nt m 0 * nt m 4 - nt m 1 * nt m 3), by simp [detV]; grind⟩

/-- A right inverse: the determinant is not 0. -/
theorem det_one {p : Int} {n : Nat} {m : Row} (hp : 2 ≤ p) (hn : 1 ≤ n) (hn3 : n ≤ 3) (R : Nat → Row) (hb : ∀ i < n, Bound p n m (R i)) (hr : ∀ i < n, ∀ j < n, nt (R i) j = if i = j then 1 else 0) : ¬ p ∣ detV n m := by
  rintro ⟨d, hd⟩
  have one : ∀ x : Int, 1 = p * x → False := by
    intro x hx
    rcases Int.lt_or_le x 1 with h | h
    · have : p * x ≤ 0 := Int.mul_nonpos_of_nonneg_of_nonpos (by omega) (by omega)
      omega
    · have : p * 1 ≤ p * x := Int.mul_le_mul_of_nonneg_left h (by omega)
      omega
  obtain rfl | rfl | rfl : n = 1 ∨ n = 2 ∨ n = 3 := by omega
  · obtain ⟨a, ha⟩ := hb 0 (by omega) 0 (by omega)
    have z0 := hr 0 (by omega) 0 (by omega)
    simp [dotF, sumTo, z0] at ha
    simp [detV] at hd
    exact one (a + nt (R 0) 1 * d) (by grind)
  · obtain ⟨a, ha⟩ := hb 0 (by omega) 0 (by omega)
    obtain ⟨b, hb1⟩ := hb 0 (by omega) 1 (by omega)
    obtain ⟨a', ha'⟩ := hb 1 (by omega) 0 (by omega)
    obtain ⟨b', hb1'⟩ := hb 1 (by omega) 1 (by omega)
    have z00 := hr 0 (by omega) 0 (by omega)
    have z01 := hr 0 (by omega) 1 (by omega)
    have z10 := hr 1 (by omega) 0 (by omega)
    have z11 := hr 1 (by omega) 1 (by omega)
    simp [dotF, sumTo, z00, z01, z10, z11] at ha hb1 ha' hb1'
    simp [detV] at hd
    clear hb hr
    refine one ((nt (R 0) 2 * nt (R 1) 3 - nt (R 0) 3 * nt (R 1) 2) * d + a + b' - p * a * b' + p * b * a') ?_
    have s00 : nt (R 0) 2 * nt m 0 + nt (R 0) 3 * nt m 3 = 1 - p * a := by grind
    have s01 : nt (R 0) 2 * nt m 1 + nt (R 0) 3 * nt m 4 = 0 - p * b := by grind
    have s10 : nt (R 1) 2 * nt m 0 + nt (R 1) 3 * nt m 3 = 0 - p * a' := by grind
    have s11 : nt (R 1) 2 * nt m 1 + nt (R 1) 3 * nt m 4 = 1 - p * b' := by grind
    grind
  · obtain ⟨q00, e00⟩ := hb 0 (by omega) 0 (by omega)
    obtain ⟨q01, e01⟩ := hb 0 (by omega) 1 (by omega)
    obtain ⟨q02, e02⟩ := hb 0 (by omega) 2 (by omega)
    obtain ⟨q10, e10⟩ := hb 1 (by omega) 0 (by omega)
    obtain ⟨q11, e11⟩ := hb 1 (by omega) 1 (by omega)
    obtain ⟨q12, e12⟩ := hb 1 (by omega) 2 (by omega)
    obtain ⟨q20, e20⟩ := hb 2 (by omega) 0 (by omega)
    obtain ⟨q21, e21⟩ := hb 2 (by omega) 1 (by omega)
    obtain ⟨q22, e22⟩ := hb 2 (by omega) 2 (by omega)
    have z0 := hr 0 (by omega)
    have z1 := hr 1 (by omega)
    have z2 := hr 2 (by omega)
    simp [dotF, sumTo, z0, z1, z2] at e00 e01 e02 e10 e11 e12 e20 e21 e22
    simp [detV] at hd
    have s00 : nt (R 0) 3 * nt m 0 + nt (R 0) 4 * nt m 3 + nt (R 0) 5 * nt m 6 = 1 - p * q00 := by grind
    have s01 : nt (R 0) 3 * nt m 1 + nt (R 0) 4 * nt m 4 + nt (R 0) 5 * nt m 7 = 0 - p * q01 := by grind
    have s02 : nt (R 0) 3 * nt m 2 + nt (R 0) 4 * nt m 5 + nt (R 0) 5 * nt m 8 = 0 - p * q02 := by grind
    have s10 : nt (R 1) 3 * nt m 0 + nt (R 1) 4 * nt m 3 + nt (R 1) 5 * nt m 6 = 0 - p * q10 := by grind
    have s11 : nt (R 1) 3 * nt m 1 + nt (R 1) 4 * nt m 4 + nt (R 1) 5 * nt m 7 = 1 - p * q11 := by grind
    have s12 : nt (R 1) 3 * nt m 2 + nt (R 1) 4 * nt m 5 + nt (R 1) 5 * nt m 8 = 0 - p * q12 := by grind
    have s20 : nt (R 2) 3 * nt m 0 + nt (R 2) 4 * nt m 3 + nt (R 2) 5 * nt m 6 = 0 - p * q20 := by grind
    have s21 : nt (R 2) 3 * nt m 1 + nt (R 2) 4 * nt m 4 + nt (R 2) 5 * nt m 7 = 0 - p * q21 := by grind
    have s22 : nt (R 2) 3 * nt m 2 + nt (R 2) 4 * nt m 5 + nt (R 2) 5 * nt m 8 = 1 - p * q22 := by grind
    have h := det3 (nt (R 0) 3) (nt (R 0) 4) (nt (R 0) 5) (nt (R 1) 3) (nt (R 1) 4) (nt (R 1) 5) (nt (R 2) 3) (nt (R 2) 4) (nt (R 2) 5) (nt m 0) (nt m 1) (nt m 2) (nt m 3) (nt m 4) (nt m 5) (nt m 6) (nt m 7) (nt m 8)
    rw [s00, s01, s02, s10, s11, s12, s20, s21, s22, near3, hd] at h
    clear hb hr e00 e01 e02 e10 e11 e12 e20 e21 e22 s00 s01 s02 s10 s11 s12 s20 s21 s22 z0 z1 z2
    generalize (nt (R 0) 3*(nt (R 1) 4*nt (R 2) 5-nt (R 1) 5*nt (R 2) 4) - nt (R 0) 4*(nt (R 1) 3*nt (R 2) 5-nt (R 1) 5*nt (R 2) 3) + nt (R 0) 5*(nt (R 1) 3*nt (R 2) 4-nt (R 1) 4*nt (R 2) 3)) = T at h
    obtain ⟨X, hX⟩ : ∃ X, T * (p * d) = 1 + p * X := ⟨_, h⟩
    exact one (T * d - X) (by grind)

/-- The reduced list of a matrix beside the unit matrix. -/
theorem inv_iff {p : Int} (hp : IsP p) {n : Nat} {m : Row} (hm : IsM m) (hn : 1 ≤ n) (hn3 : n ≤ 3) (h : EntOk p n m) :
    (∀ i (hi : i < (echelon p (augs n m n)).length), lead (echelon p (augs n m n))[i] = i) ↔ detV n m % p ≠ 0 := by
  have hpp := hp.pos
  have hlen := augs_length hp hm hn3 h n (Nat.le_refl n)
  have hbd := ech_bound hp hm hn3 h
  have hred := echelon_red hp _ (augs_good hp hm hn3 h (Nat.le_refl n))
  generalize echelon p (augs n m n) = R at *
  have hlt : R.Pairwise (fun r s => lead r < lead s) := hred.apart.imp fun h => h.1
  constructor
  · intro hl hd
    refine det_one (m := m) hpp.1 hn hn3 (fun i => R.getD i []) ?_ ?_ (Int.dvd_of_emod_eq_zero hd)
    · intro i hi
      rw [List.getD_eq_getElem?_getD, List.getElem?_eq_getElem (by omega)]
      exact hbd _ (List.getElem_mem (by omega))
    · intro i hi j hj
      rw [List.getD_eq_getElem?_getD, List.getElem?_eq_getElem (by omega)]
      show nt R[i] j = _
      have hg := hred.good _ (List.getElem_mem (show i < R.length by omega))
      have e1 := hl i (by omega)
      have e2 := hl j (by omega)
      rcases Nat.lt_trichotomy i j with h1 | h1 | h1
      · have hz := List.pairwise_iff_getElem.1 hred.zero i j (by omega) (by omega) h1
        have := hz.1
        rw [e2] at this
        rw [if_neg (by omega)]
        simpa using this
      · subst h1
        have := hg.2.2.2
        rw [e1] at this
        rw [if_pos rfl]
        simpa using this
      · have hz := List.pairwise_iff_getElem.1 hred.zero j i (by omega) (by omega) h1
        have := hz.2
        rw [e2] at this
        rw [if_neg (by omega)]
        simpa using this
  · intro hd i hi
    have hlead : ∀ r ∈ R, lead r < n := by
      intro r hr
      by_cases hc : lead r < n
      · exact hc
      · exfalso
        have hg := hred.good r hr
        have hll := lead_lt r hg.2.2.1
        apply hd
        apply Int.emod_eq_zero_of_dvd
        refine det_zero hn hn3 (hbd r hr) (fun j hj => nt_before_lead r j (by omega)) (k := (lead r).toNat - n) (by omega) ?_
        rw [show n + ((lead r).toNat - n) = (lead r).toNat by omega]
        exact hg.2.2.2
    have h1 := incr_ge (n := n) (fun r hr => (hred.good r hr).2.2.1) hlt i hi
    have h2 := incr_le hlead hlt (R.length - i - 1) i hi (by omega)
    omega
end Go.Proofs.YtbenhcognapdpaaGreat.Lin
/- Plain laws: points and their orbits. -/
set_option linter.unusedVariables false
set_option linter.unusedSimpArgs false
namespace Go.Proofs.YtbenhcognapdpaaGreat.Lin

/-- Where a matrix leads a point, one number of it. -/
def dotV (x m : Row) (j : Nat) : Nat → Int
  | 0 => 0
  | k + 1 => dotV x m j k + nt x k * nt m (k * 3 + j)
theorem dotV_bd {p : Int} {x m : Row} (hx : InR p x) (hp : 0 < p) (hp2 : p ≤ 1000) (hm : IsM m) (j k : Nat) : 0 ≤ dotV x m j k ∧ dotV x m j k ≤ k * 255000 := by
  induction k with
  | zero => simp [dotV]
  | succ k ih =>
    have h1 := hx.nt hp k
    have h2 := hm.nt (k * 3 + j)
    have h3 : 0 ≤ nt x k * nt m (k * 3 + j) := Int.mul_nonneg h1.1 h2.1
    have h4 : nt x k * nt m (k * 3 + j) ≤ 1000 * 255 := Int.mul_le_mul (by omega) h2.2 h2.1 (by omega)
    simp only [dotV]
    omega
def leadV (p : Int) (n : Nat) (x m : Row) : Row := (List.range n).map (fun j => dotV x m j n % p)
theorem leadV_len (p : Int) (n : Nat) (x m : Row) : (leadV p n x m).length = n := by simp [leadV]
theorem leadV_nt (p : Int) (n : Nat) (x m : Row) {j : Nat} (hj : j < n) : nt (leadV p n x m) j = dotV x m j n % p := by
  rw [nt_eq _ _ (by rw [leadV_len]; exact hj)]
  simp [leadV]
theorem leadV_inR {p : Int} (hp : 0 < p) (n : Nat) (x m : Row) : InR p (leadV p n x m) := by
  refine inR_of_get fun j hj => ?_
  rw [leadV_len] at hj
  rw [leadV_nt _ _ _ _ hj]
  exact ⟨Int.emod_nonneg _ (by omega), Int.emod_lt_of_pos _ hp⟩

/-- A row put into rows in order, once. -/
def orbIns (own : Row) : List Row → List Row
  | [] => [own]
  | r :: rs => if cmpL r own < 0 then r :: orbIns own rs else if cmpL r own = 0 then r :: rs else own :: r :: rs
def orbAt (own : Row) (out : List Row) : Nat := out.findIdx (fun r => decide (0 ≤ cmpL r own))
def orbitS (p : Int) (n : Nat) (l : List Row) (x : Row) : List Row := (l.map (leadV p n x)).foldl (fun out own => orbIns own out) []
theorem orbIns_mem {own x : Row} {out : List Row} : x ∈ orbIns own out ↔ x = own ∨ x ∈ out := by
  induction out with
  | nil => simp [orbIns]
  | cons r rs ih =>
    simp only [orbIns]
    split
    · rw [List.mem_cons, ih, List.mem_cons]
      constructor
      · rintro (h | h | h)
        · exact .inr (.inl h)
        · exact .inl h
        · exact .inr (.inr h)
      · rintro (h | h | h)
        · exact .inr (.inl h)
        · exact .inl h
        · exact .inr (.inr h)
    · split
      · rename_i h
        have := cmpL_eq_zero h
        subst this
        simp
      · simp
theorem cmpL_trans : ∀ {a b c : Row}, cmpL a b < 0 → cmpL b c < 0 → cmpL a c < 0
  | [], b, [], h1, h2 => by
    cases b with
    | nil => simp [cmpL] at h1
    | cons b bs => simp [cmpL] at h2
  | [], b, c :: cs, h1, h2 => by simp [cmpL]
  | a :: as', [], c, h1, h2 => by simp [cmpL] at h1
  | a :: as', b :: bs, [], h1, h2 => by simp [cmpL] at h2
  | a :: as', b :: bs, c :: cs, h1, h2 => by
    have ih := @cmpL_trans as' bs cs
    simp only [cmpL] at h1 h2 ⊢
    split at h1
    · split at h2
      · rw [if_pos (by omega)]; omega
      · split at h2
        · omega
        · rw [if_pos (by omega)]; omega
    · split at h1
      · omega
      · split at h2
        · rw [if_pos (by omega)]; omega
        · split at h2
          · omega
          · rw [if_neg (by omega), if_neg (by omega)]
            exact ih h1 h2
def Sorted (l : List Row) : Prop := l.Pairwise (fun a b => cmpL a b < 0)
theorem orbIns_sorted {own : Row} {out : List Row} (h : Sorted out) : Sorted (orbIns own out) := by
  induction out with
  | nil => simp [orbIns, Sorted]
  | cons r rs ih =>
    have hc := List.pairwise_cons.1 h
    have ih := ih hc.2
    simp only [orbIns]
    split
    · rename_i hlt
      refine List.pairwise_cons.2 ⟨fun x hx => ?_, ih⟩
      rcases orbIns_mem.1 hx with rfl | hx
      · exact hlt
      · exact hc.1 x hx
    · split
      · exact h
      · rename_i h1 h2
        have hlt : cmpL own r < 0 := by have := cmpL_rev r own; omega
        refine List.pairwise_cons.2 ⟨fun x hx => ?_, h⟩
        rcases List.mem_cons.1 hx with rfl | hx
        · exact hlt
        · exact cmpL_trans hlt (hc.1 x hx)
theorem foldl_ins_mem {x : Row} (l : List Row) : ∀ (out : List Row), x ∈ l.foldl (fun out own => orbIns own out) out ↔ x ∈ l ∨ x ∈ out := by
  induction l with
  | nil => intro out; simp
  | cons a l ih =>
    intro out
    rw [List.foldl_cons, ih, orbIns_mem, List.mem_cons]
    constructor
    · rintro (h | h | h)
      · exact .inl (.inr h)
      · exact .inl (.inl h)
      · exact .inr h
    · rintro ((h | h) | h)
      · exact .inr (.inl h)
      · exact .inl h
      · exact .inr (.inr h)
theorem foldl_ins_sorted (l : List Row) : ∀ (out : List Row), Sorted out → Sorted (l.foldl (fun out own => orbIns own out) out) := by
  induction l with
  | nil => intro out h; exact h
  | cons a l ih => intro out h; exact ih _ (orbIns_sorted h)
theorem orbitS_mem {p : Int} {n : Nat} {l : List Row} {x y : Row} : y ∈ orbitS p n l x ↔ ∃ m ∈ l, y = leadV p n x m := by
  unfold orbitS
  rw [foldl_ins_mem, List.mem_map]
  simp [eq_comm]
theorem orbitS_sorted (p : Int) (n : Nat) (l : List Row) (x : Row) : Sorted (orbitS p n l x) := foldl_ins_sorted _ _ List.Pairwise.nil
theorem cmpL_irrefl {a : Row} : ¬ cmpL a a < 0 := by rw [cmpL_self]; omega
theorem sorted_ext : ∀ {a b : List Row}, Sorted a → Sorted b → (∀ x, x ∈ a ↔ x ∈ b) → a = b
  | [], [], _, _, _ => rfl
  | [], b :: bs, _, _, h => by have := (h b).2 (List.mem_cons_self ..); cases this
  | a :: as', [], _, _, h => by have := (h a).1 (List.mem_cons_self ..); cases this
  | a :: as', b :: bs, ha, hb, h => by
    have ha' := List.pairwise_cons.1 ha
    have hb' := List.pairwise_cons.1 hb
    have hab : a = b := by
      have h1 := (h a).1 (List.mem_cons_self ..)
      have h2 := (h b).2 (List.mem_cons_self ..)
      rcases List.mem_cons.1 h1 with e | e
      · exact e
      · rcases List.mem_cons.1 h2 with e2 | e2
        · exact e2.symm
        · exact absurd (cmpL_trans (ha'.1 b e2) (hb'.1 a e)) cmpL_irrefl
    subst hab
    congr 1
    refine sorted_ext ha'.2 hb'.2 fun x => ⟨fun hx => ?_, fun hx => ?_⟩
    · rcases List.mem_cons.1 ((h x).1 (List.mem_cons_of_mem _ hx)) with e | e
      · subst e; exact absurd (ha'.1 x hx) cmpL_irrefl
      · exact e
    · rcases List.mem_cons.1 ((h x).2 (List.mem_cons_of_mem _ hx)) with e | e
      · subst e; exact absurd (hb'.1 x hx) cmpL_irrefl
      · exact e
/-- By its place. -/
theorem orbIns_at (own : Row) : ∀ (out : List Row) (k : Nat), k ≤ out.length → (∀ j < k, cmpL (out.getD j []) own < 0) →
    (k < out.length → 0 ≤ cmpL (out.getD k []) own) → orbIns own out = if k < out.length ∧ cmpL (out.getD k []) own = 0 then out else out.take k ++ ([own] ++ out.drop k)
  | [], k, hk, _, _ => by
    have : k = 0 := by simpa using hk
    subst this
    simp [orbIns]
  | r :: rs, 0, _, _, h2 => by
    have h := h2 (by simp)
    simp only [List.getD_cons_zero] at h
    simp only [orbIns, List.getD_cons_zero]
    rw [if_neg (by omega)]
    by_cases h0 : cmpL r own = 0
    · rw [if_pos h0, if_pos ⟨by simp, h0⟩]
    · rw [if_neg h0, if_neg (fun h => h0 h.2)]; simp
  | r :: rs, k + 1, hk, h1, h2 => by
    have ih := orbIns_at own rs k (by simpa using hk) (fun j hj => by simpa using h1 (j + 1) (by omega)) (fun hj => by simpa using h2 (by simpa using hj))
    have h0 := h1 0 (by omega)
    simp only [List.getD_cons_zero] at h0
    simp only [orbIns, List.getD_cons_succ, List.length_cons]
    rw [if_pos h0, ih]
    by_cases hc : k < rs.length ∧ cmpL (rs.getD k []) own = 0
    · rw [if_pos hc, if_pos ⟨by omega, hc.2⟩]
    · rw [if_neg hc, if_neg (fun h => hc ⟨by omega, h.2⟩)]; simp
end Go.Proofs.YtbenhcognapdpaaGreat.Lin
