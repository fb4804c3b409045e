/- Plain definitions and laws of rows of numbers modulo a prime: leads, rests, reduced lists. No program in sight. -/
set_option linter.unusedVariables false
set_option linter.unusedSimpArgs false
namespace Go.Proofs.Ytbenhcognapdpaa.Lin

abbrev Row := List Int
/-- The number at a place; 0 behind the end. (A name that simp does not open.) -/
def nt (r : Row) (j : Nat) : Int := r.getD j 0
theorem nt_eq (r : Row) (j : Nat) (h : j < r.length) : nt r j = r[j] := by
  simp [nt, List.getD_eq_getElem?_getD, List.getElem?_eq_getElem h]
theorem nt_out (r : Row) (j : Nat) (h : r.length ≤ j) : nt r j = 0 := by
  simp [nt, List.getD_eq_getElem?_getD, List.getElem?_eq_none h]
theorem row_ext {a b : Row} (hl : a.length = b.length) (h : ∀ j < a.length, nt a j = nt b j) : a = b := by
  apply List.ext_getElem hl
  intro j h1 h2
  have := h j h1
  rwa [nt_eq a j h1, nt_eq b j h2] at this
/-- All numbers in 0..p-1. -/
def InR (p : Int) (r : Row) : Prop := ∀ x ∈ r, 0 ≤ x ∧ x < p
def IsP (p : Int) : Prop := p = 2 ∨ p = 3 ∨ p = 5 ∨ p = 7 ∨ p = 11 ∨ p = 13
theorem IsP.pos {p : Int} (h : IsP p) : 2 ≤ p ∧ p ≤ 13 := by unfold IsP at h; omega

/-- The place of the first number other than 0; the length if there is none. -/
def fstNZ (r : Row) : Nat := r.findIdx (· != 0)
/-- As the program tells it: -1 if there is none. -/
def lead (r : Row) : Int := if fstNZ r < r.length then (fstNZ r : Int) else -1
theorem fstNZ_le (r : Row) : fstNZ r ≤ r.length := List.findIdx_le_length
theorem fstNZ_before (r : Row) (j : Nat) (h : j < fstNZ r) : nt r j = 0 := by
  have hl := fstNZ_le r
  have := List.not_of_lt_findIdx (p := (· != 0)) (xs := r) (i := j) h
  rw [nt_eq r j (by omega)]
  simpa using this
theorem fstNZ_at (r : Row) (h : fstNZ r < r.length) : nt r (fstNZ r) ≠ 0 := by
  have := List.findIdx_getElem (p := (· != 0)) (xs := r) (w := h)
  have e : r[fstNZ r] = r[List.findIdx (· != 0) r] := rfl
  rw [nt_eq r _ h, e]
  intro h0
  rw [h0] at this
  simp at this
theorem fstNZ_eq (r : Row) (k : Nat) (hk : k < r.length) (hb : ∀ j < k, nt r j = 0) (ha : nt r k ≠ 0) : fstNZ r = k := by
  rcases Nat.lt_trichotomy (fstNZ r) k with h | h | h
  · exact absurd (hb _ h) (fstNZ_at r (by omega))
  · exact h
  · exact absurd (fstNZ_before r k h) ha
theorem lead_eq (r : Row) (k : Nat) (hk : k < r.length) (hb : ∀ j < k, nt r j = 0) (ha : nt r k ≠ 0) : lead r = k := by
  unfold lead; rw [fstNZ_eq r k hk hb ha, if_pos hk]
theorem lead_none (r : Row) (hb : ∀ j < r.length, nt r j = 0) : lead r = -1 := by
  unfold lead
  rw [if_neg]
  intro h
  exact fstNZ_at r h (hb _ h)
theorem lead_lt (r : Row) (h : 0 ≤ lead r) : (lead r).toNat < r.length ∧ lead r = ((lead r).toNat : Int) ∧ fstNZ r = (lead r).toNat ∧ nt r (lead r).toNat ≠ 0 := by
  by_cases hl : fstNZ r < r.length
  · have e : lead r = (fstNZ r : Int) := by unfold lead; rw [if_pos hl]
    rw [e, Int.toNat_natCast]
    exact ⟨hl, rfl, rfl, fstNZ_at r hl⟩
  · have e : lead r = -1 := by unfold lead; rw [if_neg hl]
    omega

/-- The least number from k on that makes 1 with x modulo p, as the program looks for it. -/
def invGo (p x : Int) : Nat → Int → Int
  | 0, _ => 0
  | n + 1, k => if k * x % p = 1 then k else invGo p x n (k + 1)
def invOf (p x : Int) : Int := invGo p (x % p) (p.toNat - 1) 1

/-- A row less k times another one. -/
def lessOf (p : Int) (row other : Row) (k : Int) : Row := List.zipWith (fun a b => (a - k * b) % p) row other
/-- What is left of a row. -/
def restOf (p : Int) (list : List Row) (row : Row) : Row :=
  list.foldl (fun out r => if nt out (lead r).toNat = 0 then out else lessOf p out r (nt out (lead r).toNat)) row
/-- One round: whether the row has been put in, and the rows so far. -/
def insSt (p : Int) (own : Row) (at_ : Nat) (s : Bool × List Row) (r : Row) : Bool × List Row :=
  if s.1 = false ∧ (at_ : Int) < lead r then (true, (s.2 ++ [own]) ++ [lessOf p r own (nt r at_)]) else (s.1, s.2 ++ [lessOf p r own (nt r at_)])
/-- The rows with one more, put in by its lead. -/
def insRow (p : Int) (own : Row) (at_ : Nat) (out : List Row) : List Row :=
  if (out.foldl (insSt p own at_) (false, [])).1 = true then (out.foldl (insSt p own at_) (false, [])).2 else (out.foldl (insSt p own at_) (false, [])).2 ++ [own]
def scaleRow (p : Int) (row : Row) (k : Int) : Row := row.map (fun a => a * k % p)
def echStep (p : Int) (out : List Row) (row : Row) : List Row :=
  if lead (restOf p out row) < 0 then out
  else insRow p (scaleRow p (restOf p out row) (invOf p (nt (restOf p out row) (lead (restOf p out row)).toNat))) (lead (restOf p out row)).toNat out
def echelon (p : Int) (rows : List Row) : List Row := rows.foldl (echStep p) []

/-- Rows of n numbers, none of which is 0 alone. -/
def GoodRows (p : Int) (n : Nat) (out : List Row) : Prop := ∀ r ∈ out, r.length = n ∧ InR p r ∧ 0 ≤ lead r

theorem lessOf_length (p : Int) (row other : Row) (k : Int) (h : other.length = row.length) : (lessOf p row other k).length = row.length := by
  simp [lessOf, h]
theorem lessOf_get (p : Int) (row other : Row) (k : Int) (h : other.length = row.length) (j : Nat) (hj : j < row.length) : nt (lessOf p row other k) j = (nt row j - k * nt other j) % p := by
  have h2 : j < other.length := by omega
  simp [nt, lessOf, List.getD_eq_getElem?_getD, List.getElem?_zipWith, List.getElem?_eq_getElem hj, List.getElem?_eq_getElem h2]
theorem take_succ_nt (r : Row) (j : Nat) (h : j < r.length) : r.take (j + 1) = r.take j ++ [nt r j] := by
  rw [nt_eq r j h, List.take_succ_eq_append_getElem h]
theorem lessOf_take (p : Int) (row other : Row) (k : Int) (h : other.length = row.length) (j : Nat) (hj : j < row.length) : (lessOf p row other k).take (j + 1) = (lessOf p row other k).take j ++ [(nt row j - k * nt other j) % p] := by
  rw [take_succ_nt _ _ (by rw [lessOf_length _ _ _ _ h]; exact hj), lessOf_get _ _ _ _ h j hj]
theorem InR.nt {p : Int} {r : Row} (h : InR p r) (hp : 0 < p) (j : Nat) : 0 ≤ Lin.nt r j ∧ Lin.nt r j < p := by
  rcases Nat.lt_or_ge j r.length with hj | hj
  · rw [nt_eq r j hj]; exact h _ (List.getElem_mem hj)
  · rw [nt_out r j hj]; exact ⟨Int.le_refl 0, hp⟩
theorem inR_of_get {p : Int} {r : Row} (h : ∀ j < r.length, 0 ≤ nt r j ∧ nt r j < p) : InR p r := by
  intro x hx
  obtain ⟨j, hj, rfl⟩ := List.mem_iff_getElem.1 hx
  have := h j hj
  rwa [nt_eq r j hj] at this
theorem lessOf_inR (p : Int) (row other : Row) (k : Int) (hp : 0 < p) (h : other.length = row.length) : InR p (lessOf p row other k) := by
  refine inR_of_get fun j hj => ?_
  rw [lessOf_length p row other k h] at hj
  rw [lessOf_get p row other k h j hj]
  exact ⟨Int.emod_nonneg _ (by omega), Int.emod_lt_of_pos _ hp⟩
theorem restOf_good {p : Int} {n : Nat} (hp : 0 < p) (list : List Row) : ∀ (row : Row), GoodRows p n list → row.length = n → InR p row → (restOf p list row).length = n ∧ InR p (restOf p list row) := by
  induction list with
  | nil => intro row _ h1 h2; exact ⟨h1, h2⟩
  | cons r rs ih =>
    intro row hg h1 h2
    have hr := hg r (List.mem_cons_self ..)
    have hrs : GoodRows p n rs := fun x hx => hg x (List.mem_cons_of_mem _ hx)
    simp only [restOf, List.foldl_cons]
    split
    · exact ih row hrs h1 h2
    · exact ih _ hrs (by rw [lessOf_length _ _ _ _ (by omega)]; exact h1) (lessOf_inR _ _ _ _ hp (by omega))
theorem restOf_snoc (p : Int) (list : List Row) (r row : Row) : restOf p (list ++ [r]) row = if nt (restOf p list row) (lead r).toNat = 0 then restOf p list row else lessOf p (restOf p list row) r (nt (restOf p list row) (lead r).toNat) := by
  unfold restOf
  rw [List.foldl_append]
  rfl

/-- The rows by recursion. -/
def insRec (p : Int) (own : Row) (at_ : Nat) : List Row → List Row
  | [] => [own]
  | r :: rs => if (at_ : Int) < lead r then own :: (r :: rs).map (fun r => lessOf p r own (nt r at_)) else lessOf p r own (nt r at_) :: insRec p own at_ rs
theorem insSt_true (p : Int) (own : Row) (at_ : Nat) (out : List Row) : ∀ acc, out.foldl (insSt p own at_) (true, acc) = (true, acc ++ out.map (fun r => lessOf p r own (nt r at_))) := by
  induction out with
  | nil => intro acc; simp
  | cons r rs ih =>
    intro acc
    rw [List.foldl_cons, show insSt p own at_ (true, acc) r = (true, acc ++ [lessOf p r own (nt r at_)]) by simp [insSt], ih]
    simp
theorem insRow_rec (p : Int) (own : Row) (at_ : Nat) (out : List Row) : insRow p own at_ out = insRec p own at_ out := by
  have key : ∀ acc, (if (out.foldl (insSt p own at_) (false, acc)).1 = true then (out.foldl (insSt p own at_) (false, acc)).2 else (out.foldl (insSt p own at_) (false, acc)).2 ++ [own]) = acc ++ insRec p own at_ out := by
    induction out with
    | nil => intro acc; simp [insRec]
    | cons r rs ih =>
      intro acc
      rw [List.foldl_cons]
      by_cases h : (at_ : Int) < lead r
      · rw [show insSt p own at_ (false, acc) r = (true, (acc ++ [own]) ++ [lessOf p r own (nt r at_)]) by simp [insSt, h], insSt_true]
        simp [insRec, h]
      · rw [show insSt p own at_ (false, acc) r = (false, acc ++ [lessOf p r own (nt r at_)]) by simp [insSt, h], ih]
        simp [insRec, h]
  have := key []
  simpa [insRow] using this

theorem snoc_ind {α : Type} {P : List α → Prop} (l : List α) (h0 : P []) (h1 : ∀ l a, P l → P (l ++ [a])) : P l := by
  have : ∀ r : List α, P r.reverse := by
    intro r
    induction r with
    | nil => simpa using h0
    | cons a r ih => simpa using h1 _ a ih
  simpa using this l.reverse

/-- A reduced list. -/
structure Red (p : Int) (n : Nat) (out : List Row) : Prop where
  good : ∀ r ∈ out, r.length = n ∧ InR p r ∧ 0 ≤ lead r ∧ nt r (lead r).toNat = 1
  apart : out.Pairwise (fun r s => lead r < lead s ∧ nt r (lead s).toNat = 0)
theorem Red.rows {p : Int} {n : Nat} {out : List Row} (h : Red p n out) : GoodRows p n out := fun r hr => ⟨(h.good r hr).1, (h.good r hr).2.1, (h.good r hr).2.2.1⟩
theorem nt_before_lead (r : Row) (j : Nat) (h : (j : Int) < lead r) : nt r j = 0 := by
  obtain ⟨_, h2, h3, _⟩ := lead_lt r (by omega)
  exact fstNZ_before r j (by omega)
theorem Red.zero {p : Int} {n : Nat} {out : List Row} (h : Red p n out) : out.Pairwise (fun r s => nt r (lead s).toNat = 0 ∧ nt s (lead r).toNat = 0) := by
  refine (List.Pairwise.and_mem.1 h.apart).imp ?_
  rintro r s ⟨hr, hs, h1, h2⟩
  have := (h.good r hr).2.2.1
  exact ⟨h2, nt_before_lead s _ (by omega)⟩
/-- What is left of a row has 0 at the leads. -/
theorem rest_zero {p : Int} (hp : 1 < p) {n : Nat} (list : List Row) : Red p n list → ∀ (row : Row), row.length = n → InR p row → ∀ s ∈ list, nt (restOf p list row) (lead s).toNat = 0 := by
  induction list using snoc_ind with
  | h0 => intro _ _ _ _ s hs; cases hs
  | h1 l a ih =>
    intro hred row hn hr s hs
    have hpw := List.pairwise_append.1 hred.apart
    have hl : Red p n l := ⟨fun r h => hred.good r (List.mem_append_left _ h), hpw.1⟩
    have ha := hred.good a (by simp)
    have hrest := restOf_good (by omega) l row hl.rows hn hr
    rw [restOf_snoc]
    have hal := (lead_lt a ha.2.2.1).1
    rcases List.mem_append.1 hs with h | h
    · have h0 := ih hl row hn hr s h
      split
      · exact h0
      · have hsl := lead_lt s (hl.good s h).2.2.1
        have hlt := (hpw.2.2 s h a (by simp)).1
        have h1 : nt a (lead s).toNat = 0 := nt_before_lead a _ (by omega)
        rw [lessOf_get _ _ _ _ (by omega) _ (by have := (hl.good s h).1; omega), h0, h1]
        simp
    · have h : s = a := by simpa using h
      subst h
      split
      · assumption
      · rw [lessOf_get _ _ _ _ (by omega) _ (by omega), ha.2.2.2]
        simp

theorem inv_all : ∀ q ∈ [2, 3, 5, 7, 11, 13], ∀ y ∈ List.range q, y ≠ 0 → invGo q y (q - 1) 1 * (y : Int) % q = 1 ∧ 1 ≤ invGo q y (q - 1) 1 ∧ invGo q y (q - 1) 1 < q := by decide +kernel
theorem inv_spec {p x : Int} (hp : IsP p) (h : x % p ≠ 0) : invOf p x * (x % p) % p = 1 ∧ 1 ≤ invOf p x ∧ invOf p x < p := by
  have hpos := hp.pos
  have h1 := Int.emod_nonneg x (show p ≠ 0 by omega)
  have h2 := Int.emod_lt_of_pos x (show 0 < p by omega)
  obtain ⟨y, hy⟩ : ∃ y : Nat, x % p = y := ⟨(x % p).toNat, by omega⟩
  obtain ⟨q, rfl⟩ : ∃ q : Nat, p = q := ⟨p.toNat, by omega⟩
  have hq : q ∈ [2, 3, 5, 7, 11, 13] := by unfold IsP at hp; simp; omega
  have := inv_all q hq y (List.mem_range.2 (by omega)) (by omega)
  unfold invOf
  rw [hy, Int.toNat_natCast]
  exact this

theorem scaleRow_length (p : Int) (r : Row) (k : Int) : (scaleRow p r k).length = r.length := by simp [scaleRow]
theorem scaleRow_get (p : Int) (r : Row) (k : Int) (j : Nat) (h : j < r.length) : nt (scaleRow p r k) j = nt r j * k % p := by
  rw [nt_eq _ _ (by rw [scaleRow_length]; exact h), nt_eq _ _ h]
  simp [scaleRow]
theorem scaleRow_inR {p : Int} (hp : 0 < p) (r : Row) (k : Int) : InR p (scaleRow p r k) := by
  refine inR_of_get fun j hj => ?_
  rw [scaleRow_length] at hj
  rw [scaleRow_get _ _ _ _ hj]
  exact ⟨Int.emod_nonneg _ (by omega), Int.emod_lt_of_pos _ hp⟩
theorem lead_of_eq {a b : Row} (hl : a.length = b.length) (hz : ∀ j : Nat, (j : Int) < lead b → nt a j = 0) (hb : 0 ≤ lead b) (hn : nt a (lead b).toNat ≠ 0) : lead a = lead b := by
  obtain ⟨h1, h2, _, _⟩ := lead_lt b hb
  rw [lead_eq a (lead b).toNat (by omega) (fun j hj => hz j (by omega)) hn]
  omega
theorem lessOf_zero {p : Int} (r o : Row) (hr : InR p r) (hp : 0 < p) (hl : o.length = r.length) : lessOf p r o 0 = r := by
  refine row_ext (lessOf_length _ _ _ _ hl) fun j hj => ?_
  rw [lessOf_length _ _ _ _ hl] at hj
  rw [lessOf_get _ _ _ _ hl j hj]
  have := hr.nt hp j
  simp
  exact Int.emod_eq_of_lt this.1 this.2

/-- What is put in: 1 at its lead, 0 at the others'. -/
structure Fits (p : Int) (n : Nat) (out : List Row) (own : Row) (at_ : Nat) : Prop where
  len : own.length = n
  inR : InR p own
  lead : lead own = at_
  one : nt own at_ = 1
  zero : ∀ s ∈ out, nt own (Lin.lead s).toNat = 0

theorem less_keeps {p : Int} (hp : 1 < p) {n : Nat} {out : List Row} {own : Row} {at_ : Nat} (hred : Red p n out) (hf : Fits p n out own at_) (r : Row) (hr : r ∈ out) :
    (lessOf p r own (nt r at_)).length = n ∧ InR p (lessOf p r own (nt r at_)) ∧ lead (lessOf p r own (nt r at_)) = lead r ∧ nt (lessOf p r own (nt r at_)) (lead r).toNat = 1 ∧ nt (lessOf p r own (nt r at_)) at_ = 0 := by
  obtain ⟨g1, g2, g3, g4⟩ := hred.good r hr
  have hol := hf.len
  obtain ⟨l1, l2, _, _⟩ := lead_lt r g3
  obtain ⟨m1, m2, _, _⟩ := lead_lt own (by rw [hf.lead]; omega)
  have hat : at_ < n := by rw [hf.lead] at m1; simpa [hol] using m1
  have hone : nt (lessOf p r own (nt r at_)) (lead r).toNat = 1 := by
    rw [lessOf_get _ _ _ _ (by omega) _ l1, hf.zero r hr, g4]
    simp
    exact Int.emod_eq_of_lt (by omega) hp
  refine ⟨by rw [lessOf_length _ _ _ _ (by omega)]; exact g1, lessOf_inR _ _ _ _ (by omega) (by omega), ?_, hone, ?_⟩
  · refine lead_of_eq (lessOf_length _ _ _ _ (by omega)) (fun j hj => ?_) g3 (by rw [hone]; decide)
    rw [lessOf_get _ _ _ _ (by omega) _ (by omega), nt_before_lead r j hj]
    by_cases hja : (at_ : Int) < lead r
    · rw [nt_before_lead r at_ hja]; simp
    · have hne : (at_ : Int) ≠ lead r := by
        intro e
        have h0 := hf.zero r hr
        rw [← e, Int.toNat_natCast, hf.one] at h0
        exact absurd h0 (by decide)
      rw [nt_before_lead own j (by rw [hf.lead]; omega)]; simp
  · rw [lessOf_get _ _ _ _ (by omega) _ (by omega), hf.one]
    simp

theorem insRec_mem {p : Int} {own : Row} {at_ : Nat} {x : Row} : ∀ {out : List Row}, x ∈ insRec p own at_ out ↔ x = own ∨ ∃ r ∈ out, x = lessOf p r own (nt r at_) := by
  intro out
  induction out with
  | nil => simp [insRec]
  | cons r rs ih =>
    simp only [insRec]
    split
    · simp [eq_comm]
    · rw [List.mem_cons, ih]
      simp only [List.mem_cons]
      constructor
      · rintro (h | h | ⟨r', h1, h2⟩)
        · exact .inr ⟨r, .inl rfl, h⟩
        · exact .inl h
        · exact .inr ⟨r', .inr h1, h2⟩
      · rintro (h | ⟨r', h1 | h1, h2⟩)
        · exact .inr (.inl h)
        · subst h1; exact .inl h2
        · exact .inr (.inr ⟨r', h1, h2⟩)

theorem insRec_red {p : Int} (hp : 1 < p) {n : Nat} {own : Row} {at_ : Nat} : ∀ {out : List Row}, Red p n out → Fits p n out own at_ → Red p n (insRec p own at_ out) := by
  intro out
  induction out with
  | nil =>
    intro _ hf
    refine ⟨fun r hr => ?_, by simp [insRec]⟩
    have : r = own := by simpa [insRec] using hr
    subst this
    exact ⟨hf.len, hf.inR, by rw [hf.lead]; omega, by rw [hf.lead, Int.toNat_natCast]; exact hf.one⟩
  | cons r rs ih =>
    intro hred hf
    have hpw := List.pairwise_cons.1 hred.apart
    have hrs : Red p n rs := ⟨fun x hx => hred.good x (List.mem_cons_of_mem _ hx), hpw.2⟩
    have hfs : Fits p n rs own at_ := ⟨hf.len, hf.inR, hf.lead, hf.one, fun s hs => hf.zero s (List.mem_cons_of_mem _ hs)⟩
    have ihs := ih hrs hfs
    have hk := less_keeps hp hred hf
    have hgo : own.length = n ∧ InR p own ∧ 0 ≤ lead own ∧ nt own (lead own).toNat = 1 := ⟨hf.len, hf.inR, by rw [hf.lead]; omega, by rw [hf.lead, Int.toNat_natCast]; exact hf.one⟩
    have hgl : ∀ x ∈ r :: rs, (lessOf p x own (nt x at_)).length = n ∧ InR p (lessOf p x own (nt x at_)) ∧ 0 ≤ lead (lessOf p x own (nt x at_)) ∧ nt (lessOf p x own (nt x at_)) (lead (lessOf p x own (nt x at_))).toNat = 1 := by
      intro x hx
      obtain ⟨a1, a2, a3, a4, a5⟩ := hk x hx
      rw [a3]
      exact ⟨a1, a2, (hred.good x hx).2.2.1, a4⟩
    have hpair : ∀ x ∈ r :: rs, ∀ y ∈ r :: rs, lead x < lead y → nt x (lead y).toNat = 0 → lead (lessOf p x own (nt x at_)) < lead (lessOf p y own (nt y at_)) ∧ nt (lessOf p x own (nt x at_)) (lead (lessOf p y own (nt y at_))).toNat = 0 := by
      intro x hx y hy h1 h2
      rw [(hk x hx).2.2.1, (hk y hy).2.2.1]
      refine ⟨h1, ?_⟩
      have hy2 := lead_lt y (hred.good y hy).2.2.1
      have e1 := (hred.good x hx).1
      have e2 := (hred.good y hy).1
      have e3 := hf.len
      rw [lessOf_get _ _ _ _ (by omega) _ (by omega), h2, hf.zero y hy]
      simp
    refine ⟨fun x hx => ?_, ?_⟩
    · rcases insRec_mem.1 hx with h | ⟨r', h1, h2⟩
      · subst h; exact hgo
      · subst h2; exact hgl r' h1
    · simp only [insRec]
      split
      · rename_i hlt
        refine List.pairwise_cons.2 ⟨fun x hx => ?_, ?_⟩
        · obtain ⟨y, hy, rfl⟩ := List.mem_map.1 hx
          rw [(hk y hy).2.2.1, hf.lead]
          refine ⟨?_, hf.zero y hy⟩
          rcases List.mem_cons.1 hy with h | h
          · subst h; exact hlt
          · have := (hpw.1 y h).1; omega
        · refine List.pairwise_map.2 ((List.Pairwise.and_mem.1 hred.apart).imp ?_)
          rintro x y ⟨hx, hy, h1, h2⟩
          exact hpair x hx y hy h1 h2
      · rename_i hlt
        refine List.pairwise_cons.2 ⟨fun x hx => ?_, ihs.apart⟩
        rcases insRec_mem.1 hx with h | ⟨y, h1, h2⟩
        · subst h
          rw [(hk r (List.mem_cons_self ..)).2.2.1, hf.lead, Int.toNat_natCast]
          refine ⟨?_, (hk r (List.mem_cons_self ..)).2.2.2.2⟩
          have hne : (at_ : Int) ≠ lead r := by
            intro e
            have h0 := hf.zero r (List.mem_cons_self ..)
            rw [← e, Int.toNat_natCast, hf.one] at h0
            exact absurd h0 (by decide)
          omega
        · subst h2
          exact hpair r (List.mem_cons_self ..) y (List.mem_cons_of_mem _ h1) (hpw.1 y h1).1 (hpw.1 y h1).2

theorem fits_rest {p : Int} (hp : IsP p) {n : Nat} {out : List Row} (hred : Red p n out) {row : Row} (hn : row.length = n) (hr : InR p row) (h0 : 0 ≤ lead (restOf p out row)) :
    Fits p n out (scaleRow p (restOf p out row) (invOf p (nt (restOf p out row) (lead (restOf p out row)).toNat))) (lead (restOf p out row)).toNat := by
  have hpos := hp.pos
  obtain ⟨r1, r2⟩ := restOf_good (by omega) out row hred.rows hn hr
  have hz := rest_zero (by omega) out hred row hn hr
  obtain ⟨own, hown⟩ : ∃ own, own = restOf p out row := ⟨_, rfl⟩
  rw [← hown] at r1 r2 hz h0 ⊢
  obtain ⟨l1, l2, l3, l4⟩ := lead_lt own h0
  have hb := r2.nt (show 0 < p by omega) (lead own).toNat
  have hm : nt own (lead own).toNat % p = nt own (lead own).toNat := Int.emod_eq_of_lt hb.1 hb.2
  obtain ⟨i1, i2, i3⟩ := inv_spec hp (x := nt own (lead own).toNat) (by rw [hm]; exact l4)
  rw [hm] at i1
  have hone : nt (scaleRow p own (invOf p (nt own (lead own).toNat))) (lead own).toNat = 1 := by
    rw [scaleRow_get _ _ _ _ l1, Int.mul_comm]; exact i1
  refine ⟨by rw [scaleRow_length]; exact r1, scaleRow_inR (by omega) _ _, ?_, hone, fun s hs => ?_⟩
  · rw [lead_of_eq (b := own) (scaleRow_length _ _ _) (fun j hj => ?_) h0 (by rw [hone]; decide)]
    · exact l2
    · rw [scaleRow_get _ _ _ _ (by omega), nt_before_lead own j hj]; simp
  · have hs2 := lead_lt s (hred.good s hs).2.2.1
    have := (hred.good s hs).1
    rw [scaleRow_get _ _ _ _ (by omega), hz s hs]; simp
theorem echStep_red {p : Int} (hp : IsP p) {n : Nat} {out : List Row} (hred : Red p n out) {row : Row} (hn : row.length = n) (hr : InR p row) : Red p n (echStep p out row) := by
  have hpos := hp.pos
  unfold echStep
  split
  · exact hred
  · rename_i h0
    rw [insRow_rec]
    exact insRec_red (by omega) hred (fits_rest hp hred hn hr (by omega))
theorem red_nil (p : Int) (n : Nat) : Red p n [] := ⟨(fun r hr => by cases hr), List.Pairwise.nil⟩
theorem echelon_red {p : Int} (hp : IsP p) {n : Nat} (rows : List Row) (h : ∀ r ∈ rows, r.length = n ∧ InR p r) : Red p n (echelon p rows) := by
  induction rows using snoc_ind with
  | h0 => exact red_nil p n
  | h1 l a ih =>
    unfold echelon
    rw [List.foldl_append]
    exact echStep_red hp (ih fun r hr => h r (List.mem_append_left _ hr)) (h a (by simp)).1 (h a (by simp)).2
theorem echelon_snoc (p : Int) (rows : List Row) (r : Row) : echelon p (rows ++ [r]) = echStep p (echelon p rows) r := by
  simp [echelon, List.foldl_append]
theorem insRow_length (p : Int) (own : Row) (at_ : Nat) (out : List Row) : (insRow p own at_ out).length = out.length + 1 := by
  rw [insRow_rec]
  induction out with
  | nil => rfl
  | cons r rs ih =>
    simp only [insRec]
    split
    · simp
    · simp [ih]
theorem echStep_length (p : Int) (out : List Row) (row : Row) : (echStep p out row).length ≤ out.length + 1 := by
  unfold echStep
  split
  · omega
  · rw [insRow_length]; omega
theorem echelon_length (p : Int) (rows : List Row) : (echelon p rows).length ≤ rows.length := by
  induction rows using snoc_ind with
  | h0 => simp [echelon]
  | h1 l a ih =>
    rw [echelon_snoc]
    have := echStep_length p (echelon p l) a
    simp
    omega
/-- A row of which the first j numbers have been scaled. -/
def scTo (p : Int) (own : Row) (k : Int) (j : Nat) : Row := (scaleRow p own k).take j ++ own.drop j
theorem scTo_length (p : Int) (own : Row) (k : Int) (j : Nat) (h : j ≤ own.length) : (scTo p own k j).length = own.length := by
  simp [scTo, scaleRow_length]; omega
theorem scTo_zero (p : Int) (own : Row) (k : Int) : scTo p own k 0 = own := by simp [scTo]
theorem scTo_all (p : Int) (own : Row) (k : Int) (j : Nat) (h : own.length ≤ j) : scTo p own k j = scaleRow p own k := by
  unfold scTo
  rw [List.drop_eq_nil_of_le h, List.append_nil, List.take_of_length_le (by rw [scaleRow_length]; exact h)]
theorem scTo_nt (p : Int) (own : Row) (k : Int) (j : Nat) (h : j < own.length) : nt (scTo p own k j) j = nt own j := by
  have hl : ((scaleRow p own k).take j).length = j := by simp [scaleRow_length]; omega
  unfold nt scTo
  rw [List.getD_eq_getElem?_getD, List.getElem?_append_right (by omega), hl, List.getElem?_drop, ← List.getD_eq_getElem?_getD]
  simp
theorem scTo_set (p : Int) (own : Row) (k : Int) (j : Nat) (h : j < own.length) : (scTo p own k j).set j (nt own j * k % p) = scTo p own k (j + 1) := by
  have hl : ((scaleRow p own k).take j).length = j := by simp [scaleRow_length]; omega
  unfold scTo
  rw [List.set_append_right _ _ (by omega), hl, Nat.sub_self, take_succ_nt _ _ (by rw [scaleRow_length]; exact h), scaleRow_get _ _ _ _ h, List.drop_eq_getElem_cons h, List.set_cons_zero, List.append_assoc, List.singleton_append]
end Go.Proofs.Ytbenhcognapdpaa.Lin
