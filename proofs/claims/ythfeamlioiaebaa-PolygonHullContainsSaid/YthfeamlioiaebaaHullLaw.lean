/- Plain laws of convex hulls: the chain over a sorted row, the walk around the points, that both give one ring. No program stands here. -/
import Derived.Test.YthfeamlioiaebaaSimpLaw
set_option linter.unusedVariables false
set_option linter.unusedSimpArgs false
namespace Go.Proofs.Ythfeamlioiaebaa
open Go.RowKit Go.Par

/-! ## numbers -/
theorem pos_of_mul {u x : Int} (hu : 0 < u) (h : 0 < u * x) : 0 < x := by
  rcases Int.lt_or_le 0 x with hx | hx
  · exact hx
  · have := Int.mul_nonpos_of_nonneg_of_nonpos (Int.le_of_lt hu) hx
    omega
theorem nonneg_of_mul {u x : Int} (hu : 0 < u) (h : 0 ≤ u * x) : 0 ≤ x := by
  rcases Int.lt_or_le x 0 with hx | hx
  · have := Int.mul_neg_of_pos_of_neg hu hx
    omega
  · exact hx
theorem sq_nonneg (x : Int) : 0 ≤ x * x := by
  rcases Int.le_total 0 x with h | h
  · exact Int.mul_nonneg h h
  · exact Int.mul_nonneg_of_nonpos_of_nonpos h h
/-! ## vectors of one half of the plane -/
def posV (v : P2) : Prop := 0 < v.2 ∨ (v.2 = 0 ∧ 0 < v.1)
theorem half_id (A U B : P2) : U.2 * crossS A B = A.2 * crossS U B + B.2 * crossS A U := by unfold crossS; grind
theorem half_weak {A U B : P2} (hA : posV A) (hU : posV U) (hB : posV B) (h1 : 0 ≤ crossS A U) (h2 : 0 ≤ crossS U B) : 0 ≤ crossS A B := by
  have hA2 : 0 ≤ A.2 := by rcases hA with h | h <;> omega
  have hB2 : 0 ≤ B.2 := by rcases hB with h | h <;> omega
  rcases hU with hu | ⟨hu, hu1⟩
  · refine nonneg_of_mul hu ?_
    rw [half_id]
    have := Int.mul_nonneg hA2 h2
    have := Int.mul_nonneg hB2 h1
    omega
  · have e1 : crossS A U = -(U.1 * A.2) := by unfold crossS; rw [hu]; grind
    have h3 : A.2 = 0 := by
      rcases Int.lt_or_le 0 A.2 with h | h
      · have := Int.mul_pos hu1 h
        omega
      · omega
    have hA1 : 0 < A.1 := by rcases hA with h | h <;> omega
    have : crossS A B = A.1 * B.2 := by unfold crossS; rw [h3]; grind
    rw [this]
    exact Int.mul_nonneg (Int.le_of_lt hA1) hB2
theorem half_strict {A U B : P2} (hA : posV A) (hU : posV U) (hB : posV B) (h : (0 ≤ crossS A U ∧ 0 < crossS U B) ∨ (0 < crossS A U ∧ 0 ≤ crossS U B)) : 0 < crossS A B := by
  have hA2 : 0 ≤ A.2 := by rcases hA with h | h <;> omega
  have hB2 : 0 ≤ B.2 := by rcases hB with h | h <;> omega
  have h1 : 0 ≤ crossS A U := by rcases h with h | h <;> omega
  have h2 : 0 ≤ crossS U B := by rcases h with h | h <;> omega
  rcases hU with hu | ⟨hu, hu1⟩
  · have hBp : 0 < B.2 := by
      rcases hB with hb | ⟨hb, hb1⟩
      · exact hb
      · have e : crossS U B = -(U.2 * B.1) := by unfold crossS; rw [hb]; grind
        have := Int.mul_pos hu hb1
        omega
    refine pos_of_mul hu ?_
    rw [half_id]
    rcases hA with ha | ⟨ha, ha1⟩
    · rcases h with ⟨_, h⟩ | ⟨h, _⟩
      · have := Int.mul_pos ha h
        have := Int.mul_nonneg hB2 h1
        omega
      · have := Int.mul_pos hBp h
        have := Int.mul_nonneg hA2 h2
        omega
    · have e : crossS A U = A.1 * U.2 := by unfold crossS; rw [ha]; grind
      have := Int.mul_pos ha1 hu
      have := Int.mul_pos hBp (show 0 < crossS A U by omega)
      have := Int.mul_nonneg hA2 h2
      omega
  · have e1 : crossS A U = -(U.1 * A.2) := by unfold crossS; rw [hu]; grind
    have h3 : A.2 = 0 := by
      rcases Int.lt_or_le 0 A.2 with h | h
      · have := Int.mul_pos hu1 h
        omega
      · omega
    have h4 : crossS A U = 0 := by rw [e1, h3]; simp
    have hA1 : 0 < A.1 := by rcases hA with h | h <;> omega
    have e2 : crossS U B = U.1 * B.2 := by unfold crossS; rw [hu]; grind
    have hb : 0 < B.2 := by
      rcases h with ⟨_, h⟩ | ⟨h, _⟩
      · rw [e2] at h
        exact pos_of_mul hu1 h
      · omega
    have : crossS A B = A.1 * B.2 := by unfold crossS; rw [h3]; grind
    rw [this]
    exact Int.mul_pos hA1 hb
/-! ## the order of points -/
def subP (p q : P2) : P2 := (p.1 - q.1, p.2 - q.2)
theorem tri_cross (a b p : P2) : triS a b p = crossS (subP b a) (subP p a) := rfl
def ltS (p q : P2) : Prop := p.2 < q.2 ∨ (p.2 = q.2 ∧ p.1 < q.1)
instance (p q : P2) : Decidable (ltS p q) := by unfold ltS; exact inferInstance
theorem lt_pos {p q : P2} (h : ltS p q) : posV (subP q p) := by
  unfold ltS at h; unfold posV subP; simp only; omega
theorem lt_irrefl (p : P2) : ¬ ltS p p := by unfold ltS; omega
theorem lt_trans {p q r : P2} (h : ltS p q) (k : ltS q r) : ltS p r := by unfold ltS at *; omega
theorem lt_asymm {p q : P2} (h : ltS p q) : ¬ ltS q p := by unfold ltS at *; omega
theorem lt_tri (p q : P2) : ltS p q ∨ p = q ∨ ltS q p := by
  obtain ⟨a, b⟩ := p; obtain ⟨c, d⟩ := q
  unfold ltS; simp only [Prod.mk.injEq]; omega
theorem lt_ne {p q : P2} (h : ltS p q) : p ≠ q := fun e => lt_irrefl q (e ▸ h)
def negP (p : P2) : P2 := (-p.1, -p.2)
theorem neg_neg (p : P2) : negP (negP p) = p := by unfold negP; simp
theorem lt_neg {p q : P2} (h : ltS p q) : ltS (negP q) (negP p) := by unfold ltS negP at *; simp only; omega
theorem tri_neg (a b p : P2) : triS (negP a) (negP b) (negP p) = triS a b p := by unfold triS negP; grind
/-! ## the edge from a to b: all points lie to its left or on it -/
def dotS (a b p : P2) : Int := (b.1 - a.1) * (p.1 - a.1) + (b.2 - a.2) * (p.2 - a.2)
def edgeS (a b p : P2) : Prop := 0 < triS a b p ∨ (triS a b p = 0 ∧ 0 ≤ dotS a b p ∧ dotS a b p ≤ dotS a b b)
def farS (a p : P2) : Int := (p.1 - a.1) * (p.1 - a.1) + (p.2 - a.2) * (p.2 - a.2)
theorem dot_neg (a b p : P2) : dotS (negP a) (negP b) (negP p) = dotS a b p := by unfold dotS negP; grind
theorem edge_neg {a b p : P2} (h : edgeS a b p) : edgeS (negP a) (negP b) (negP p) := by
  unfold edgeS at *
  rw [tri_neg, dot_neg, dot_neg]
  exact h
theorem far_pos {a b : P2} (h : a ≠ b) : 0 < farS a b := by
  unfold farS
  have h1 := sq_nonneg (b.1 - a.1)
  have h2 := sq_nonneg (b.2 - a.2)
  rcases Int.lt_or_le 0 ((b.1 - a.1) * (b.1 - a.1) + (b.2 - a.2) * (b.2 - a.2)) with h0 | h0
  · exact h0
  · exfalso
    have e1 : (b.1 - a.1) * (b.1 - a.1) = 0 := by omega
    have e2 : (b.2 - a.2) * (b.2 - a.2) = 0 := by omega
    have e3 : b.1 - a.1 = 0 := by rcases Int.mul_eq_zero.1 e1 with e | e <;> exact e
    have e4 : b.2 - a.2 = 0 := by rcases Int.mul_eq_zero.1 e2 with e | e <;> exact e
    exact h (Prod.ext (by omega) (by omega))
theorem seg_lex {a b p : P2} (hab : ltS a b) (h0 : triS a b p = 0) (h1 : ¬ ltS p a) (h2 : ¬ ltS b p) : 0 ≤ dotS a b p ∧ dotS a b p ≤ dotS a b b := by
  have hq := sq_nonneg (b.1 - a.1)
  have hq2 := sq_nonneg (b.2 - a.2)
  unfold ltS at *
  unfold triS at h0
  unfold dotS
  rcases Int.lt_or_le a.2 b.2 with hy | hy
  · have hp : 0 ≤ p.2 - a.2 := by omega
    have hb : 0 ≤ b.2 - p.2 := by omega
    have k1 := Int.mul_nonneg hp (show 0 ≤ (b.1 - a.1) * (b.1 - a.1) + (b.2 - a.2) * (b.2 - a.2) by omega)
    have k2 := Int.mul_nonneg hb (show 0 ≤ (b.1 - a.1) * (b.1 - a.1) + (b.2 - a.2) * (b.2 - a.2) by omega)
    constructor
    · refine nonneg_of_mul (u := b.2 - a.2) (by omega) ?_
      have : (b.2 - a.2) * ((b.1 - a.1) * (p.1 - a.1) + (b.2 - a.2) * (p.2 - a.2)) = (p.2 - a.2) * ((b.1 - a.1) * (b.1 - a.1) + (b.2 - a.2) * (b.2 - a.2)) := by grind
      rw [this]
      exact k1
    · have := nonneg_of_mul (u := b.2 - a.2) (x := (b.1 - a.1) * (b.1 - a.1) + (b.2 - a.2) * (b.2 - a.2) - ((b.1 - a.1) * (p.1 - a.1) + (b.2 - a.2) * (p.2 - a.2))) (by omega) (by
        have : (b.2 - a.2) * ((b.1 - a.1) * (b.1 - a.1) + (b.2 - a.2) * (b.2 - a.2) - ((b.1 - a.1) * (p.1 - a.1) + (b.2 - a.2) * (p.2 - a.2))) = (b.2 - p.2) * ((b.1 - a.1) * (b.1 - a.1) + (b.2 - a.2) * (b.2 - a.2)) := by grind
        rw [this]
        exact k2)
      omega
  · have e : b.2 - a.2 = 0 := by omega
    have hx : 0 < b.1 - a.1 := by omega
    rw [e] at h0 ⊢
    have hp : p.2 - a.2 = 0 := by
      have : (b.1 - a.1) * (p.2 - a.2) = 0 := by omega
      rcases Int.mul_eq_zero.1 this with h | h <;> omega
    have hp1 : 0 ≤ p.1 - a.1 := by omega
    have hp2 : 0 ≤ b.1 - p.1 := by omega
    have k1 := Int.mul_nonneg (Int.le_of_lt hx) hp1
    have k2 := Int.mul_nonneg (Int.le_of_lt hx) hp2
    have k3 : (b.1 - a.1) * (b.1 - a.1) - (b.1 - a.1) * (p.1 - a.1) = (b.1 - a.1) * (b.1 - p.1) := by grind
    omega
/-- on an edge no point is farther than its end -/
theorem edge_far {a b p : P2} (hab : a ≠ b) (h0 : triS a b p = 0) (h1 : 0 ≤ dotS a b p) (h2 : dotS a b p ≤ dotS a b b) : farS a p ≤ farS a b ∧ (p ≠ b → farS a p < farS a b) := by
  have hN := far_pos hab
  have id : farS a b * farS a p = dotS a b p * dotS a b p + triS a b p * triS a b p := by unfold farS dotS triS; grind
  have e : dotS a b b = farS a b := rfl
  rw [h0] at id
  rw [e] at h2
  have hle : dotS a b p * dotS a b p ≤ farS a b * farS a b := Int.mul_le_mul h2 h2 h1 (Int.le_of_lt hN)
  constructor
  · have := nonneg_of_mul (u := farS a b) (x := farS a b - farS a p) hN (by rw [Int.mul_sub]; omega)
    omega
  · intro hne
    have hlt : dotS a b p < farS a b := by
      rcases Int.lt_or_le (dotS a b p) (farS a b) with h | h
      · exact h
      · exfalso
        have hd : dotS a b p = farS a b := by omega
        have k : farS a b * farS b p = 0 := by
          have : farS a b * farS b p = (dotS a b p - farS a b) * (dotS a b p - farS a b) + triS a b p * triS a b p := by unfold farS dotS triS; grind
          rw [this, hd, h0]
          simp
        have := far_pos (Ne.symm hne)
        have := Int.mul_pos hN this
        omega
    have k1 : dotS a b p * dotS a b p ≤ dotS a b p * farS a b := Int.mul_le_mul_of_nonneg_left h2 h1
    have k2 : dotS a b p * farS a b < farS a b * farS a b := Int.mul_lt_mul_of_pos_right hlt hN
    have := pos_of_mul (u := farS a b) (x := farS a b - farS a p) hN (by rw [Int.mul_sub]; omega)
    omega
/-! ## the chain -/
def popS (p : P2) : List P2 → List P2
  | b :: a :: t => if triS a b p ≤ 0 then popS p (a :: t) else b :: a :: t
  | l => l
def chainR (l : List P2) : List P2 := l.foldl (fun st p => p :: popS p st) []
theorem pop_neg (p : P2) (st : List P2) : popS (negP p) (st.map negP) = (popS p st).map negP := by
  induction st with
  | nil => rfl
  | cons b t ih =>
    cases t with
    | nil => rfl
    | cons a t =>
      simp only [List.map_cons, popS, tri_neg] at ih ⊢
      split
      · exact ih
      · rfl
theorem chain_neg (l : List P2) : chainR (l.map negP) = (chainR l).map negP := by
  unfold chainR
  have : ∀ (l st : List P2), (l.map negP).foldl (fun st p => p :: popS p st) (st.map negP) = (l.foldl (fun st p => p :: popS p st) st).map negP := by
    intro l
    induction l with
    | nil => intro st; rfl
    | cons p l ih =>
      intro st
      simp only [List.map_cons, List.foldl_cons]
      rw [← ih (p :: popS p st), pop_neg]
      rfl
  exact this l []
theorem pop_sub {p x : P2} : ∀ {st : List P2}, x ∈ popS p st → x ∈ st
  | [], h => h
  | [_], h => h
  | b :: a :: t, h => by
    unfold popS at h
    split at h
    · exact List.mem_cons_of_mem _ (pop_sub h)
    · exact h
def upS (t : List P2) (a b : P2) : Prop := match t with | c :: _ => 0 < triS c a b | [] => True
def lexS (a b p : P2) : Prop := 0 < triS a b p ∨ (triS a b p = 0 ∧ ¬ ltS p a ∧ ¬ ltS b p)
def InvS (seen : List P2) : List P2 → Prop
  | [] => seen = []
  | [a] => ∀ p ∈ seen, ¬ ltS p a
  | b :: a :: t => ltS a b ∧ (∀ p ∈ seen, lexS a b p) ∧ upS t a b ∧ InvS seen (a :: t)
theorem lexS_ge {a b p : P2} (h : lexS a b p) : 0 ≤ triS a b p := by unfold lexS at h; rcases h with h | h <;> omega
theorem tri_end (a q : P2) : triS a q q = 0 ∧ triS a q a = 0 := by constructor <;> (unfold triS; grind)
theorem keep_inv {seen : List P2} {q : P2} : ∀ {b a : P2} {t : List P2}, InvS seen (b :: a :: t) → 0 < triS a b q → ltS b q → InvS (q :: seen) (b :: a :: t) := by
  intro b a t
  induction t generalizing b a with
  | nil =>
    rintro ⟨h1, h2, h3, h4⟩ ht hq
    refine ⟨h1, ?_, h3, ?_⟩
    · intro p hp
      rcases List.mem_cons.1 hp with rfl | hp
      · exact .inl ht
      · exact h2 p hp
    · intro p hp
      rcases List.mem_cons.1 hp with rfl | hp
      · exact lt_asymm (lt_trans h1 hq)
      · exact h4 p hp
  | cons c t ih =>
    rintro ⟨h1, h2, h3, h4⟩ ht hq
    refine ⟨h1, ?_, h3, ?_⟩
    · intro p hp
      rcases List.mem_cons.1 hp with rfl | hp
      · exact .inl ht
      · exact h2 p hp
    · have hca := h4.1
      have haq := lt_trans h1 hq
      refine ih h4 ?_ haq
      have k := half_strict (A := subP a c) (U := subP b a) (B := subP q a) (lt_pos hca) (lt_pos h1) (lt_pos haq) (.inr ⟨by
        have : crossS (subP a c) (subP b a) = triS c a b := by unfold crossS subP triS; grind
        rw [this]; exact h3, by rw [← tri_cross]; omega⟩)
      have : crossS (subP a c) (subP q a) = triS c a q := by unfold crossS subP triS; grind
      rw [this] at k
      exact k
theorem pop_inv {seen : List P2} {q : P2} (hq : ∀ p ∈ seen, ltS p q) : ∀ (st : List P2), InvS seen st → (∀ b t, st = b :: t → ltS b q ∧ ∀ p ∈ seen, ltS b p → 0 ≤ triS b q p) → InvS (q :: seen) (q :: popS q st) := by
  intro st
  induction st with
  | nil =>
    intro h _
    have : seen = [] := h
    subst this
    intro p hp
    rcases List.mem_cons.1 hp with rfl | hp
    · exact lt_irrefl _
    · cases hp
  | cons b t ih =>
    intro h hup
    obtain ⟨hbq, hup'⟩ := hup b t rfl
    cases t with
    | nil =>
      refine ⟨hbq, ?_, trivial, ?_⟩
      · intro p hp
        rcases List.mem_cons.1 hp with rfl | hp
        · exact .inr ⟨(tri_end _ _).1, lt_asymm hbq, lt_irrefl _⟩
        · rcases lt_tri b p with hbp | rfl | hbp
          · have := hup' p hp hbp
            rcases Int.lt_or_le 0 (triS b q p) with h0 | h0
            · exact .inl h0
            · exact .inr ⟨by omega, lt_asymm hbp, lt_asymm (hq p hp)⟩
          · exact .inr ⟨(tri_end _ _).2, lt_irrefl _, lt_asymm hbq⟩
          · exact absurd hbp (h p hp)
      · intro p hp
        rcases List.mem_cons.1 hp with rfl | hp
        · exact lt_asymm hbq
        · exact h p hp
    | cons a t =>
      obtain ⟨h1, h2, h3, h4⟩ := h
      unfold popS
      by_cases hc : triS a b q ≤ 0
      · rw [if_pos hc]
        refine ih h4 fun b' t' e => ?_
        injection e with e1 e2
        subst e1
        have haq := lt_trans h1 hbq
        refine ⟨haq, fun p hp hap => ?_⟩
        have k := half_weak (A := subP q a) (U := subP b a) (B := subP p a) (lt_pos haq) (lt_pos h1) (lt_pos hap) (by
          have : crossS (subP q a) (subP b a) = - triS a b q := by unfold crossS subP triS; grind
          omega) (by rw [← tri_cross]; exact lexS_ge (h2 p hp))
        rw [← tri_cross] at k
        exact k
      · rw [if_neg hc]
        refine ⟨hbq, ?_, show 0 < triS a b q by omega, keep_inv ⟨h1, h2, h3, h4⟩ (by omega) hbq⟩
        intro p hp
        rcases List.mem_cons.1 hp with rfl | hp
        · exact .inr ⟨(tri_end _ _).1, lt_asymm hbq, lt_irrefl _⟩
        · rcases lt_tri b p with hbp | rfl | hbp
          · have := hup' p hp hbp
            rcases Int.lt_or_le 0 (triS b q p) with h0 | h0
            · exact .inl h0
            · exact .inr ⟨by omega, lt_asymm hbp, lt_asymm (hq p hp)⟩
          · exact .inr ⟨(tri_end _ _).2, lt_irrefl _, lt_asymm hbq⟩
          · have k := half_strict (A := subP b p) (U := subP b a) (B := subP q b) (lt_pos hbp) (lt_pos h1) (lt_pos hbq) (.inl ⟨by
              have e : crossS (subP b p) (subP b a) = triS a b p := by unfold crossS subP triS; grind
              have := lexS_ge (h2 p hp)
              omega, by
              have e : crossS (subP b a) (subP q b) = triS a b q := by unfold crossS subP triS; grind
              omega⟩)
            have e : crossS (subP b p) (subP q b) = triS b q p := by unfold crossS subP triS; grind
            rw [e] at k
            exact .inl k
theorem chain_inv : ∀ (l seen st : List P2), InvS seen st → (∀ b t, st = b :: t → b ∈ seen ∧ ∀ p ∈ seen, ¬ ltS b p) → (∀ x ∈ st, x ∈ seen) → l.Pairwise ltS → (∀ p ∈ seen, ∀ q ∈ l, ltS p q) →
    InvS (l.reverse ++ seen) (l.foldl (fun st p => p :: popS p st) st) ∧ (∀ x ∈ l.foldl (fun st p => p :: popS p st) st, x ∈ l.reverse ++ seen) ∧
    (∀ b t, l.foldl (fun st p => p :: popS p st) st = b :: t → b ∈ l.reverse ++ seen ∧ ∀ p ∈ l.reverse ++ seen, ¬ ltS b p) := by
  intro l
  induction l with
  | nil => intro seen st h ht hs _ _; exact ⟨h, hs, ht⟩
  | cons q l ih =>
    intro seen st h ht hs hp hlt
    rw [List.pairwise_cons] at hp
    have hq : ∀ p ∈ seen, ltS p q := fun p hp' => hlt p hp' q (List.mem_cons_self ..)
    have hi := pop_inv hq st h fun b t e => ⟨hq _ (ht b t e).1, fun p hp' hbp => absurd hbp ((ht b t e).2 p hp')⟩
    have := ih (q :: seen) (q :: popS q st) hi (fun b t e => by
      injection e with e1 e2
      subst e1
      refine ⟨List.mem_cons_self .., fun p hp' => ?_⟩
      rcases List.mem_cons.1 hp' with rfl | hp'
      · exact lt_irrefl _
      · exact lt_asymm (hq p hp')) (fun x hx => by
      rcases List.mem_cons.1 hx with rfl | hx
      · exact List.mem_cons_self ..
      · exact List.mem_cons_of_mem _ (hs x (pop_sub hx))) hp.2 (fun p hp' r hr => by
      rcases List.mem_cons.1 hp' with rfl | hp'
      · exact hp.1 r hr
      · exact hlt p hp' r (List.mem_cons_of_mem _ hr))
    have e : (q :: l).reverse ++ seen = l.reverse ++ q :: seen := by simp
    rw [e]
    exact this
/-! ## linked rows -/
def Link (R : P2 → P2 → Prop) : List P2 → Prop
  | a :: b :: t => R a b ∧ Link R (b :: t)
  | _ => True
theorem link_snoc {R : P2 → P2 → Prop} : ∀ {l : List P2} {a b : P2}, Link R (l ++ [a]) → R a b → Link R (l ++ [a, b])
  | [], a, b, _, h => ⟨h, trivial⟩
  | [x], a, b, h, k => ⟨h.1, k, trivial⟩
  | x :: y :: l, a, b, h, k => ⟨h.1, link_snoc (l := y :: l) h.2 k⟩
theorem link_join {R : P2 → P2 → Prop} {m : P2} {y : List P2} : ∀ {x : List P2}, Link R (x ++ [m]) → Link R (m :: y) → Link R (x ++ m :: y)
  | [], _, k => k
  | [a], h, k => ⟨h.1, k⟩
  | a :: b :: x, h, k => ⟨h.1, link_join (x := b :: x) h.2 k⟩
theorem link_mono {R Q : P2 → P2 → Prop} (h : ∀ a b, R a b → Q a b) : ∀ {l : List P2}, Link R l → Link Q l
  | [], _ => trivial
  | [_], _ => trivial
  | a :: b :: t, k => ⟨h a b k.1, link_mono h k.2⟩
theorem link_map {R Q : P2 → P2 → Prop} {f : P2 → P2} (h : ∀ a b, R a b → Q (f a) (f b)) : ∀ {l : List P2}, Link R l → Link Q (l.map f)
  | [], _ => trivial
  | [_], _ => trivial
  | a :: b :: t, k => ⟨h a b k.1, link_map h k.2⟩
theorem inv_link {seen : List P2} : ∀ {st : List P2}, InvS seen st → Link (fun a b => ltS a b ∧ ∀ p ∈ seen, lexS a b p) st.reverse
  | [], _ => trivial
  | [_], _ => trivial
  | b :: a :: t, ⟨h1, h2, _, h4⟩ => by
    have ih := inv_link h4
    rw [List.reverse_cons] at ih
    have e : (b :: a :: t).reverse = t.reverse ++ [a, b] := by simp
    rw [e]
    exact link_snoc ih ⟨h1, h2⟩
theorem inv_desc {seen : List P2} : ∀ {st : List P2}, InvS seen st → st.Pairwise (fun x y => ltS y x)
  | [], _ => List.Pairwise.nil
  | [_], _ => by simp
  | b :: a :: t, ⟨h1, h2, _, h4⟩ => by
    have ih := inv_desc h4
    refine List.Pairwise.cons ?_ ih
    intro y hy
    rcases List.mem_cons.1 hy with rfl | hy
    · exact h1
    · exact lt_trans ((List.pairwise_cons.1 ih).1 y hy) h1
theorem inv_min {seen : List P2} : ∀ {st : List P2}, InvS seen st → ∀ {l : List P2} {a : P2}, st = l ++ [a] → ∀ p ∈ seen, ¬ ltS p a
  | [], _, l, a, e => by simp at e
  | [x], h, l, a, e => by
    have : x = a := by
      cases l with
      | nil => simpa using e
      | cons y l => simp at e
    subst this
    exact h
  | b :: c :: t, ⟨_, _, _, h4⟩, l, a, e => by
    cases l with
    | nil => simp at e
    | cons y l =>
      simp only [List.cons_append, List.cons.injEq] at e
      exact inv_min h4 e.2
/-- what the chain over a rising row is -/
theorem chain_facts {S : List P2} (hS : S.Pairwise ltS) {s0 sm : P2} {S' S'' : List P2} (e0 : S = s0 :: S') (em : S = S'' ++ [sm]) (hne : s0 ≠ sm) :
    ∃ D2 : List P2, chainR S = sm :: (D2 ++ [s0]) ∧ (∀ x ∈ D2, x ∈ S ∧ x ≠ s0) ∧ Link (fun a b => a ≠ b ∧ ∀ p ∈ S, edgeS a b p) (s0 :: D2.reverse ++ [sm]) := by
  obtain ⟨h1, h2, h3⟩ := chain_inv S [] [] rfl (fun b t e => by cases e) (fun x hx => by cases hx) hS (fun p hp => by cases hp)
  rw [List.append_nil] at h1 h2 h3
  have hr : S.foldl (fun st p => p :: popS p st) [] = chainR S := rfl
  rw [hr] at h1 h2 h3
  have hfirst : ∃ t, chainR S = sm :: t := by
    unfold chainR
    rw [em, List.foldl_append]
    exact ⟨_, rfl⟩
  obtain ⟨t, ht⟩ := hfirst
  rcases List.eq_nil_or_concat t with rfl | ⟨D2, z, hz'⟩
  · exfalso
    have := inv_min h1 (l := []) (a := sm) ht s0 (by rw [e0]; simp)
    refine this ?_
    rw [e0, List.pairwise_cons] at hS
    have hm : sm ∈ s0 :: S' := by rw [← e0, em]; simp
    rcases List.mem_cons.1 hm with h | h
    · exact absurd h.symm hne
    · exact hS.1 sm h
  · rw [List.concat_eq_append] at hz'
    subst hz'
    have hz : z = s0 := by
      have hmin := inv_min h1 (l := sm :: D2) (a := z) (by rw [ht]; rfl)
      have hzS : z ∈ S := by
        have := h2 z (by rw [ht]; simp)
        simpa using this
      rw [e0] at hzS
      rcases List.mem_cons.1 hzS with h | h
      · exact h
      · rw [e0, List.pairwise_cons] at hS
        exact absurd (hS.1 z h) (hmin s0 (by rw [e0]; simp))
    subst hz
    refine ⟨D2, ht, fun x hx => ⟨?_, ?_⟩, ?_⟩
    · have := h2 x (by rw [ht]; simp [hx])
      simpa using this
    · have hd := inv_desc h1
      rw [ht, List.pairwise_cons] at hd
      have := (List.pairwise_append.1 hd.2).2.2 x hx z (by simp)
      exact (lt_ne this).symm
    · have hl := inv_link h1
      rw [ht] at hl
      have e : (sm :: (D2 ++ [z])).reverse = z :: D2.reverse ++ [sm] := by simp
      rw [e] at hl
      refine link_mono (fun a b h => ⟨lt_ne h.1, fun p hp => ?_⟩) hl
      rcases h.2 p (by simpa using hp) with k | ⟨k1, k2, k3⟩
      · exact .inl k
      · exact .inr ⟨k1, seg_lex h.1 k1 k2 k3⟩
theorem pair_neg {S : List P2} (hS : S.Pairwise ltS) : (S.reverse.map negP).Pairwise ltS := by
  rw [List.pairwise_map, List.pairwise_reverse]
  exact hS.imp fun h => lt_neg h
/-- the chain back -/
theorem chain_back {S : List P2} (hS : S.Pairwise ltS) {s0 sm : P2} {S' S'' : List P2} (e0 : S = s0 :: S') (em : S = S'' ++ [sm]) (hne : s0 ≠ sm) :
    ∃ U2 : List P2, chainR S.reverse = s0 :: (U2 ++ [sm]) ∧ (∀ x ∈ U2, x ∈ S ∧ x ≠ s0) ∧ Link (fun a b => a ≠ b ∧ ∀ p ∈ S, edgeS a b p) (sm :: U2.reverse ++ [s0]) := by
  have hb := pair_neg hS
  obtain ⟨D2, h1, h2, h3⟩ := chain_facts hb (s0 := negP sm) (sm := negP s0) (S' := (S''.reverse).map negP) (S'' := (S'.reverse).map negP) (by rw [em]; simp) (by rw [e0]; simp) (fun e => hne (by rw [← neg_neg s0, ← neg_neg sm, e]))
  have e1 : chainR S.reverse = (chainR (S.reverse.map negP)).map negP := by
    rw [chain_neg, List.map_map]
    have : (negP ∘ negP) = id := funext fun p => neg_neg p
    rw [this, List.map_id]
  refine ⟨D2.map negP, ?_, ?_, ?_⟩
  · rw [e1, h1]
    simp [neg_neg]
  · intro x hx
    obtain ⟨y, hy, rfl⟩ := List.mem_map.1 hx
    obtain ⟨hm, hn⟩ := h2 y hy
    obtain ⟨z, hz, rfl⟩ := List.mem_map.1 hm
    rw [neg_neg]
    have hzS : z ∈ S := by simpa using hz
    refine ⟨hzS, ?_⟩
    rintro rfl
    -- z = s0 stands on top of the chain: the others are smaller there
    have hd := inv_desc (chain_inv (S.reverse.map negP) [] [] rfl (fun b t e => by cases e) (fun x hx => by cases hx) hb (fun p hp => by cases hp)).1
    have hr : (S.reverse.map negP).foldl (fun st p => p :: popS p st) [] = chainR (S.reverse.map negP) := rfl
    rw [hr, h1, List.pairwise_cons] at hd
    exact lt_irrefl _ (hd.1 (negP z) (by simp [hy]))
  · have := link_map (f := negP) (Q := fun a b => a ≠ b ∧ ∀ p ∈ S, edgeS a b p) (fun a b h => ⟨fun e => h.1 (by rw [← neg_neg a, ← neg_neg b, e]), fun p hp => by
      have := edge_neg (h.2 (negP p) (List.mem_map.2 ⟨p, by simpa using hp, rfl⟩))
      rwa [neg_neg] at this⟩) h3
    simpa [neg_neg, List.map_reverse] using this
end Go.Proofs.Ythfeamlioiaebaa
