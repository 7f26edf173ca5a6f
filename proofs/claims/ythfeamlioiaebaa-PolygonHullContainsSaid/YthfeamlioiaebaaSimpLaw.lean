/- Plain laws: removing a vertex at which a ring does not turn keeps the area and the winding numbers. No program stands here. -/
import Derived.Test.YthfeamlioiaebaaTransLaw
set_option linter.unusedVariables false
set_option linter.unusedSimpArgs false
namespace Go.Proofs.Ythfeamlioiaebaa
open Go.RowKit Go.Par

def atS (l : List P2) (i : Nat) : P2 := l.getD i (0, 0)
/-- vertex i does not turn -/
def flatB (l : List P2) (i : Nat) : Bool := orientS (atS l ((i + l.length - 1) % l.length)) (atS l i) (atS l ((i + 1) % l.length)) == 0
def flatI (l : List P2) : Option Nat := (List.range l.length).find? (flatB l)
def flatN (l : List P2) : Int := match flatI l with | some i => (i : Int) | none => -1
def simpF : Nat → List P2 → List P2
  | 0, l => l
  | n + 1, l => match flatI l with | none => l | some i => simpF n (l.eraseIdx i)
def simpR (l : List P2) : List P2 := simpF l.length l
def simpS (l : List P2) : List P2 := if validL [l] then simpR l else []
theorem atS_at {l : List P2} {i : Nat} {p : P2} (h : l[i]? = some p) : atS l i = p := by simp [atS, List.getD, h]
theorem flatI_some {l : List P2} {i : Nat} (h : flatI l = some i) : i < l.length ∧ flatB l i = true := by
  have h1 := List.find?_some h
  have h2 := List.mem_of_find?_eq_some h
  exact ⟨List.mem_range.1 h2, h1⟩
theorem flatI_none {l : List P2} (h : flatI l = none) {i : Nat} (hi : i < l.length) : flatB l i = false := by
  have := List.find?_eq_none.1 h i (List.mem_range.2 hi)
  simpa using this
theorem flatI_is {l : List P2} {i : Nat} (hi : i < l.length) (h : flatB l i = true) (hno : ∀ j, j < i → flatB l j = false) : flatI l = some i := by
  unfold flatI
  rw [List.find?_range_eq_some]
  exact ⟨h, List.mem_range.2 hi, fun j hj => by rw [hno j hj]; rfl⟩
theorem flatI_isNone {l : List P2} (hno : ∀ j, j < l.length → flatB l j = false) : flatI l = none := by
  unfold flatI
  rw [List.find?_eq_none]
  intro j hj
  rw [hno j (List.mem_range.1 hj)]
  decide
theorem simpR_none {l : List P2} (h : flatI l = none) : simpR l = l := by
  unfold simpR
  cases hl : l.length with
  | zero => rfl
  | succ n => unfold simpF; rw [h]
theorem simpR_some {l : List P2} {i : Nat} (h : flatI l = some i) : simpR l = simpR (l.eraseIdx i) := by
  have hi := (flatI_some h).1
  unfold simpR
  rw [List.length_eraseIdx_of_lt hi]
  cases hl : l.length with
  | zero => omega
  | succ n => show simpF (n + 1) l = simpF n _; rw [simpF, h]
theorem orientS_mid (a b : P2) : orientS a b a = 0 ∧ orientS a a b = 0 := by
  constructor <;> rw [orientS_sgn] <;> unfold crossS subS <;> simp only [Int.sub_self, Int.mul_zero, Int.zero_mul] <;> rfl
theorem flatI_one (a : P2) : flatI [a] = some 0 := flatI_is (by simp) (by have := (orientS_mid a a).1; simp [flatB, atS, this]) (by simp)
theorem flatI_two (a b : P2) : flatI [a, b] = some 0 := flatI_is (by simp) (by have := (orientS_mid b a).1; simp [flatB, atS, this]) (by simp)
theorem simpR_nil : simpR [] = [] := rfl
theorem simpR_small {l : List P2} (h : l.length < 3) : simpR l = [] := by
  match l, h with
  | [], _ => rfl
  | [a], _ => rw [simpR_some (flatI_one a)]; rfl
  | [a, b], _ => rw [simpR_some (flatI_two a b)]; show simpR [b] = []; rw [simpR_some (flatI_one b)]; rfl
/-- an induction over the removals -/
theorem simp_ind {M : List P2 → Prop} (hstep : ∀ l i, M l → flatI l = some i → M (l.eraseIdx i)) : ∀ (n : Nat) (l : List P2), l.length ≤ n → M l → M (simpR l) ∧ flatI (simpR l) = none := by
  intro n
  induction n with
  | zero =>
    intro l hl hM
    have : l = [] := List.eq_nil_of_length_eq_zero (by omega)
    subst this
    exact ⟨hM, rfl⟩
  | succ n ih =>
    intro l hl hM
    cases h : flatI l with
    | none => rw [simpR_none h]; exact ⟨hM, h⟩
    | some i =>
      rw [simpR_some h]
      have hi := (flatI_some h).1
      exact ih _ (by rw [List.length_eraseIdx_of_lt hi]; omega) (hstep l i hM h)
theorem valid_erase {l : List P2} (i : Nat) (h : validL [l] = true) : validL [l.eraseIdx i] = true := by
  rw [validL_one, Bool.and_eq_true, decide_eq_true_eq, List.all_eq_true] at h ⊢
  refine ⟨Nat.le_trans (List.length_eraseIdx_le _ _) h.1, fun q hq => h.2 q (List.mem_of_mem_eraseIdx hq)⟩
/-! ## the sum over the edges, a vertex taken out -/
theorem path_last (f : P2 → P2 → Int) (x : P2) (m : List P2) (z : P2) : pathS f (x :: m ++ [z]) = pathS f (x :: m) + f (atS (x :: m) m.length) z := by
  induction m generalizing x with
  | nil => simp [pathS, atS]
  | cons y m ih =>
    have := ih y
    simp only [List.cons_append, pathS] at this ⊢
    rw [this]
    have e : atS (x :: y :: m) (y :: m).length = atS (y :: m) m.length := by simp [atS]
    rw [e]
    omega
theorem cyc_drop (f : P2 → P2 → Int) (c x : P2) (m : List P2) (h : f (atS (x :: m) m.length) c + f c x = f (atS (x :: m) m.length) x) : cycS f (c :: x :: m) = cycS f (x :: m) := by
  rw [cyc_path, cyc_path, path_last f x m x]
  have := path_last f x m c
  simp only [List.cons_append, pathS] at this ⊢
  omega
theorem getD_rot (l : List P2) (i j : Nat) (hi : i < l.length) (hj : j < l.length) : atS (l.drop i ++ l.take i) j = atS l ((i + j) % l.length) := by
  unfold atS
  rw [List.getD_eq_getElem?_getD, List.getD_eq_getElem?_getD]
  congr 1
  by_cases h : i + j < l.length
  · rw [List.getElem?_append_left (by rw [List.length_drop]; omega), List.getElem?_drop, Nat.mod_eq_of_lt h]
  · rw [List.getElem?_append_right (by rw [List.length_drop]; omega), List.length_drop, List.getElem?_take, if_pos (by omega)]
    congr 1
    rw [show i + j = (i + j - l.length) + l.length by omega, Nat.add_mod_right, Nat.mod_eq_of_lt (by omega)]
    omega
theorem cyc_erase (f : P2 → P2 → Int) {l : List P2} {i : Nat} (hi : i < l.length) (hone : ∀ a, f a a = 0)
    (h : f (atS l ((i + l.length - 1) % l.length)) (atS l i) + f (atS l i) (atS l ((i + 1) % l.length)) = f (atS l ((i + l.length - 1) % l.length)) (atS l ((i + 1) % l.length))) : cycS f (l.eraseIdx i) = cycS f l := by
  have e1 : l.eraseIdx i = l.take i ++ l.drop (i + 1) := List.eraseIdx_eq_take_drop_succ l i
  have hrot : cycS f (l.drop (i + 1) ++ l.take i) = cycS f (l.eraseIdx i) := by
    have := cyc_rot f (l.eraseIdx i) i (by rw [List.length_eraseIdx_of_lt hi]; omega)
    rw [← this, e1]
    congr 2
    · rw [List.drop_append_of_le_length (by rw [List.length_take]; omega), show (l.take i).drop i = [] from List.drop_eq_nil_of_le (by rw [List.length_take]; omega)]
      rfl
    · rw [List.take_append_of_le_length (by rw [List.length_take]; omega), List.take_take, Nat.min_self]
  have hrot2 := cyc_rot f l i (by omega)
  have hget : ∀ j, j < l.length → atS (l.drop i ++ l.take i) j = atS l ((i + j) % l.length) := fun j hj => getD_rot l i j hi hj
  have e2 : l.drop i = l[i] :: l.drop (i + 1) := List.drop_eq_getElem_cons hi
  have hcur : atS l i = l[i] := by simp [atS, hi]
  rw [← hrot, ← hrot2, e2, List.cons_append]
  rw [e2, List.cons_append] at hget
  have hlen : (l.drop (i + 1) ++ l.take i).length + 1 = l.length := by simp; omega
  revert hget hlen
  generalize l.drop (i + 1) ++ l.take i = r
  intro hget hlen
  cases r with
  | nil =>
    show (0 : Int) = _
    rw [cyc_path]
    simp [pathS, hone]
  | cons x m =>
    symm
    refine cyc_drop f _ x m ?_
    simp only [List.length_cons] at hlen
    have g1 := hget 1 (by omega)
    have g2 := hget (m.length + 1) (by omega)
    rw [show i + (m.length + 1) = i + l.length - 1 by omega] at g2
    have k1 : atS (l[i] :: x :: m) 1 = x := rfl
    have k2 : atS (l[i] :: x :: m) (m.length + 1) = atS (x :: m) m.length := by simp [atS]
    rw [k1] at g1
    rw [k2] at g2
    rw [g2, g1, ← hcur]
    exact h
/-! ## points in a line -/
theorem sgn_zero {n : Int} (h : sgnS n = 0) : n = 0 := by
  unfold sgnS at h
  split at h
  · cases h
  · split at h
    · cases h
    · omega
theorem sgn_pos (n : Int) : 0 < sgnS n ↔ 0 < n := by
  unfold sgnS
  split
  · omega
  · split <;> omega
/-- twice the area of the triangle a b p -/
def triS (a b p : P2) : Int := (b.1 - a.1) * (p.2 - a.2) - (b.2 - a.2) * (p.1 - a.1)
theorem orient_tri {a b p : P2} (ha : validS a = true) (hb : validS b = true) (hp : validS p = true) : orientS a b p = sgnS (triS a b p) := by
  rw [orientS_sgn]
  unfold crossS subS triS
  rw [(held_of_valid ha).1, (held_of_valid ha).2, (held_of_valid hb).1, (held_of_valid hb).2, (held_of_valid hp).1, (held_of_valid hp).2]
theorem mul_pos_iff {x y u v : Int} (hu : 0 < u) (hv : 0 < v) (h : x * u = y * v) : 0 < x ↔ 0 < y := by
  constructor
  · intro hx
    have h1 : 0 < y * v := h ▸ Int.mul_pos hx hu
    rcases Int.lt_or_le 0 y with hy | hy
    · exact hy
    · have := Int.mul_nonpos_of_nonpos_of_nonneg hy (Int.le_of_lt hv)
      omega
  · intro hy
    have h1 : 0 < x * u := h ▸ Int.mul_pos hy hv
    rcases Int.lt_or_le 0 x with hx | hx
    · exact hx
    · have := Int.mul_nonpos_of_nonpos_of_nonneg hx (Int.le_of_lt hu)
      omega
/-- two edges of one line, both going up: p lies on the same side -/
theorem line_side {a b c d p : P2} (h1 : triS a b c = 0) (h2 : triS a b d = 0) (hab : a.2 < b.2) (hcd : c.2 < d.2) : 0 < triS a b p ↔ 0 < triS c d p := by
  refine mul_pos_iff (u := d.2 - c.2) (v := b.2 - a.2) (by omega) (by omega) ?_
  unfold triS at *
  grind
theorem turn_line {y c x p : P2} (hy : validS y = true) (hc : validS c = true) (hx : validS x = true) (hp : validS p = true) (h : orientS y c x = 0) : turnS p y c + turnS p c x = turnS p y x := by
  have h0 : triS y c x = 0 := by rw [orient_tri hy hc hx] at h; exact sgn_zero h
  have t1 : triS y x c = 0 := by unfold triS at *; grind
  have t2 : triS c x y = 0 := by unfold triS at *; grind
  have t3 : triS x c y = 0 := by unfold triS at *; grind
  have t4 : triS c y x = 0 := by unfold triS at *; grind
  have t5 : triS x y c = 0 := by unfold triS at *; grind
  have z : ∀ a b : P2, triS a b a = 0 ∧ triS a b b = 0 := fun a b => ⟨by unfold triS; grind, by unfold triS; grind⟩
  unfold turnS
  rw [orient_tri hy hc hp, orient_tri hc hy hp, orient_tri hc hx hp, orient_tri hx hc hp, orient_tri hy hx hp, orient_tri hx hy hp]
  simp only [sgn_pos]
  by_cases p1 : y.2 ≤ p.2 <;> by_cases p2 : c.2 ≤ p.2 <;> by_cases p3 : x.2 ≤ p.2
  all_goals
    simp only [p1, p2, p3, ← Int.not_le, not_true_eq_false, not_false_eq_true, true_and, false_and, and_false, if_false]
    try simp only [Int.not_le]
  · rfl
  · have := line_side (p := p) t1 (z y x).2 (show y.2 < x.2 by omega) (show c.2 < x.2 by omega)
    simp only [this]
    omega
  · have := line_side (p := p) h0 (z y c).2 (show y.2 < c.2 by omega) (show x.2 < c.2 by omega)
    simp only [this]
    split <;> omega
  · have := line_side (p := p) (z y c).1 h0 (show y.2 < c.2 by omega) (show y.2 < x.2 by omega)
    simp only [this]
    omega
  · have := line_side (p := p) t4 (z c y).2 (show c.2 < y.2 by omega) (show x.2 < y.2 by omega)
    simp only [this]
    omega
  · have := line_side (p := p) (z c y).1 t4 (show c.2 < y.2 by omega) (show c.2 < x.2 by omega)
    simp only [this]
    split <;> omega
  · have := line_side (p := p) (z x c).1 t3 (show x.2 < c.2 by omega) (show x.2 < y.2 by omega)
    simp only [this]
    omega
  · rfl
theorem cross_line {y c x : P2} (hy : validS y = true) (hc : validS c = true) (hx : validS x = true) (h : orientS y c x = 0) : crossS (holdS y) (holdS c) + crossS (holdS c) (holdS x) = crossS (holdS y) (holdS x) := by
  have h0 : triS y c x = 0 := by rw [orient_tri hy hc hx] at h; exact sgn_zero h
  rw [(holdS_iff _).2 hy, (holdS_iff _).2 hc, (holdS_iff _).2 hx]
  unfold crossS
  unfold triS at h0
  grind
theorem valid_at {l : List P2} (h : validL [l] = true) (hl : 0 < l.length) (i : Nat) : validS (atS l (i % l.length)) = true := by
  rw [validL_one, Bool.and_eq_true, List.all_eq_true] at h
  have hi := Nat.mod_lt i hl
  unfold atS
  rw [List.getD_eq_getElem?_getD, List.getElem?_eq_getElem hi]
  exact h.2 _ (List.getElem_mem hi)
theorem turnS_self (p a : P2) : turnS p a a = 0 := by
  unfold turnS
  rw [if_neg (by omega), if_neg (by omega)]
theorem crossS_self (a : P2) : crossS a a = 0 := by unfold crossS; grind
theorem simp_step {l : List P2} {i : Nat} (hv : validL [l] = true) (h : flatI l = some i) : areaS (l.eraseIdx i) = areaS l ∧ ∀ p, windL [l.eraseIdx i] p = windL [l] p := by
  obtain ⟨hi, hf⟩ := flatI_some h
  have hpos : 0 < l.length := by omega
  have ho : orientS (atS l ((i + l.length - 1) % l.length)) (atS l i) (atS l ((i + 1) % l.length)) = 0 := by simpa [flatB] using hf
  have v1 := valid_at hv hpos (i + l.length - 1)
  have v2 := valid_at hv hpos i
  rw [Nat.mod_eq_of_lt hi] at v2
  have v3 := valid_at hv hpos (i + 1)
  have hv' := valid_erase i hv
  constructor
  · unfold areaS
    rw [hv, hv', area_cyc, area_cyc, cyc_erase (fun a b => crossS (holdS a) (holdS b)) hi (fun a => crossS_self _) (cross_line v1 v2 v3 ho)]
  · intro p
    rw [windL_one, windL_one, hv, hv']
    by_cases hp : validS p = true
    · rw [windR_cyc, windR_cyc, cyc_erase _ hi (fun a => turnS_self p a) (turn_line v1 v2 v3 hp ho)]
    · rw [Bool.eq_false_iff.2 hp]
      rfl
theorem simpS_laws (l : List P2) : areaS (simpS l) = areaS l ∧ (∀ p, windL [simpS l] p = windL [l] p) ∧ flatI (simpS l) = none ∧ validL [simpS l] = true ∧ (simpS l).length ≤ l.length := by
  unfold simpS
  cases hv : validL [l] with
  | false =>
    refine ⟨?_, fun p => ?_, rfl, rfl, Nat.zero_le _⟩
    · show areaS [] = areaS l
      unfold areaS
      rw [hv]
      rfl
    · show windL [[]] p = windL [l] p
      rw [windL_one, windL_one, hv]
      show _ = (0 : Int)
      have : windR p [] = 0 := rfl
      rw [this]
      split <;> rfl
  | true =>
    have := simp_ind (M := fun m => areaS m = areaS l ∧ (∀ p, windL [m] p = windL [l] p) ∧ validL [m] = true ∧ m.length ≤ l.length) (fun m i hM h => by
      obtain ⟨h1, h2, h3, h4⟩ := hM
      have hs := simp_step h3 h
      exact ⟨hs.1.trans h1, fun p => (hs.2 p).trans (h2 p), valid_erase i h3, Nat.le_trans (List.length_eraseIdx_le _ _) h4⟩) l.length l (Nat.le_refl _) ⟨rfl, fun p => rfl, hv, Nat.le_refl _⟩
    obtain ⟨⟨h1, h2, h3, h4⟩, h5⟩ := this
    exact ⟨h1, h2, h5, h3, h4⟩
theorem simpS_again (l : List P2) : simpS (simpS l) = simpS l := by
  obtain ⟨_, _, h3, h4, _⟩ := simpS_laws l
  unfold simpS at h3 h4 ⊢
  rw [h4]
  exact simpR_none h3
theorem simpS_len (l : List P2) : (simpS l).length ≠ 1 ∧ (simpS l).length ≠ 2 := by
  obtain ⟨_, _, h3, _, _⟩ := simpS_laws l
  revert h3
  generalize simpS l = s
  intro h3
  match s, h3 with
  | [], _ => simp
  | [a], h => rw [flatI_one] at h; cases h
  | [a, b], h => rw [flatI_two] at h; cases h
  | _ :: _ :: _ :: _, _ => simp
theorem simpS_turns (l : List P2) {i : Nat} (hi : i < (simpS l).length) : orientS (atS (simpS l) i) (atS (simpS l) ((i + 1) % (simpS l).length)) (atS (simpS l) ((i + 2) % (simpS l).length)) ≠ 0 := by
  obtain ⟨_, _, h3, _, _⟩ := simpS_laws l
  revert h3 hi
  generalize simpS l = s
  intro hi h3
  have hm : (i + 1) % s.length < s.length := Nat.mod_lt _ (by omega)
  have := flatI_none h3 hm
  unfold flatB at this
  have e1 : ((i + 1) % s.length + s.length - 1) % s.length = i := by
    by_cases h : i + 1 = s.length
    · rw [h, Nat.mod_self, Nat.mod_eq_of_lt (by omega)]; omega
    · rw [Nat.mod_eq_of_lt (show i + 1 < s.length by omega), show i + 1 + s.length - 1 = i + s.length by omega, Nat.add_mod_right, Nat.mod_eq_of_lt hi]
  have e2 : ((i + 1) % s.length + 1) % s.length = (i + 2) % s.length := by
    rw [Nat.mod_add_mod]
  rw [e1, e2] at this
  simpa using this
end Go.Proofs.Ythfeamlioiaebaa
