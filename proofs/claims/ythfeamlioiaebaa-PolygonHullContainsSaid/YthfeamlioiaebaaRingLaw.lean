/- Plain laws of rings: turning the first point, reversing, several rings together. No program stands here. -/
import Derived.Test.YthfeamlioiaebaaBoundsLaw
set_option linter.unusedVariables false
set_option linter.unusedSimpArgs false
namespace Go.Proofs.Ythfeamlioiaebaa
open Go.RowKit Go.Par

/-- the sum over the edges of a ring -/
def cycS (f : P2 → P2 → Int) (r : List P2) : Int := ((edgesS r).map fun e => f e.1 e.2).sum
/-- the sum over the steps of a path -/
def pathS (f : P2 → P2 → Int) : List P2 → Int
  | [] => 0
  | [_] => 0
  | a :: b :: l => f a b + pathS f (b :: l)
theorem pathS_snoc (f : P2 → P2 → Int) (l : List P2) (y z : P2) : pathS f (l ++ [y, z]) = pathS f (l ++ [y]) + f y z := by
  induction l with
  | nil => simp [pathS]
  | cons a l ih =>
    cases l with
    | nil => simp [pathS]
    | cons b l =>
      simp only [List.cons_append, pathS] at ih ⊢
      rw [ih]
      omega
theorem cyc_path (f : P2 → P2 → Int) (x : P2) (t : List P2) : cycS f (x :: t) = pathS f (x :: t ++ [x]) := by
  have key : ∀ (t : List P2) (a z : P2), (((a :: t).zip (t ++ [z])).map fun e => f e.1 e.2).sum = pathS f (a :: t ++ [z]) := by
    intro t
    induction t with
    | nil => intro a z; simp [pathS]
    | cons b t ih =>
      intro a z
      have := ih b z
      simp only [List.cons_append, List.zip_cons_cons, List.map_cons, List.sum_cons, pathS] at this ⊢
      rw [this]
  exact key t x x
theorem path_reverse (f : P2 → P2 → Int) (l : List P2) : pathS f l.reverse = pathS (fun a b => f b a) l := by
  induction l with
  | nil => rfl
  | cons a l ih =>
    cases l with
    | nil => rfl
    | cons b l =>
      have e : (a :: b :: l).reverse = l.reverse ++ [b, a] := by simp
      rw [e, pathS_snoc]
      have e2 : l.reverse ++ [b] = (b :: l).reverse := by simp
      rw [e2, ih]
      simp only [pathS]
      omega
theorem cyc_one (f : P2 → P2 → Int) (x : P2) (t : List P2) : cycS f (t ++ [x]) = cycS f (x :: t) := by
  cases t with
  | nil => rfl
  | cons y t =>
    rw [cyc_path f x (y :: t), List.cons_append, cyc_path f y (t ++ [x])]
    have : y :: (t ++ [x]) ++ [y] = (y :: t) ++ [x, y] := by simp
    rw [this, pathS_snoc]
    simp only [List.cons_append, pathS]
    omega
theorem cyc_rot (f : P2 → P2 → Int) (r : List P2) (k : Nat) (hk : k ≤ r.length) : cycS f (r.drop k ++ r.take k) = cycS f r := by
  induction k with
  | zero => simp
  | succ k ih =>
    have hlt : k < r.length := by omega
    rw [← ih (by omega)]
    have e1 : r.drop k = r[k] :: r.drop (k + 1) := List.drop_eq_getElem_cons hlt
    have e2 : r.take (k + 1) = r.take k ++ [r[k]] := by rw [List.take_succ_eq_append_getElem hlt]
    rw [e1, e2, ← List.append_assoc, cyc_one]
    rfl
theorem cyc_reverse (f : P2 → P2 → Int) (r : List P2) : cycS f r.reverse = cycS (fun a b => f b a) r := by
  cases r with
  | nil => rfl
  | cons x t =>
    rw [List.reverse_cons, cyc_one, cyc_path, cyc_path]
    have : x :: t.reverse ++ [x] = (x :: t ++ [x]).reverse := by simp
    rw [this, path_reverse]
theorem cyc_neg (f : P2 → P2 → Int) (r : List P2) : cycS (fun a b => - f a b) r = - cycS f r := by
  unfold cycS
  generalize edgesS r = l
  induction l with
  | nil => rfl
  | cons e l ih => simp only [List.map_cons, List.sum_cons, ih]; omega
theorem windR_cyc (p : P2) (r : List P2) : windR p r = cycS (turnS p) r := rfl
theorem area_cyc (r : List P2) : sumS (edgesS r) = cycS (fun a b => crossS (holdS a) (holdS b)) r := rfl
theorem turnS_swap (p a b : P2) : turnS p b a = - turnS p a b := by
  unfold turnS
  by_cases h1 : a.2 ≤ p.2 ∧ p.2 < b.2 ∧ 0 < orientS a b p
  · rw [if_pos h1, if_neg (by omega), if_pos h1]
  · rw [if_neg h1, if_neg h1]
    by_cases h2 : b.2 ≤ p.2 ∧ p.2 < a.2 ∧ 0 < orientS b a p
    · rw [if_pos h2, if_pos h2]; rfl
    · rw [if_neg h2, if_neg h2]; rfl
theorem crossS_swap (a b : P2) : crossS b a = - crossS a b := by
  unfold crossS
  rw [Int.mul_comm b.1 a.2, Int.mul_comm b.2 a.1]
  omega
theorem valid_rot (r : List P2) (k : Nat) : validL [r.drop k ++ r.take k] = validL [r] := by
  rw [validL_one, validL_one, List.length_append, List.length_drop, List.length_take, List.all_append, Bool.and_comm ((r.drop k).all _), ← List.all_append, List.take_append_drop]
  congr 2
  rw [eq_iff_iff]
  omega
theorem valid_reverse (r : List P2) : validL [r.reverse] = validL [r] := by
  rw [validL_one, validL_one, List.length_reverse, List.all_reverse]
theorem windL_one (r : List P2) (p : P2) : windL [r] p = if validL [r] && validS p then windR p r else 0 := by
  unfold windL windSum
  simp
theorem windL_rot (r : List P2) (k : Nat) (hk : k ≤ r.length) (p : P2) : windL [r.drop k ++ r.take k] p = windL [r] p := by
  rw [windL_one, windL_one, valid_rot, windR_cyc, windR_cyc, cyc_rot _ _ _ hk]
theorem areaS_rot (r : List P2) (k : Nat) (hk : k ≤ r.length) : areaS (r.drop k ++ r.take k) = areaS r := by
  unfold areaS
  rw [valid_rot, area_cyc, area_cyc, cyc_rot _ _ _ hk]
theorem windL_reverse (r : List P2) (p : P2) : windL [r.reverse] p = - windL [r] p := by
  rw [windL_one, windL_one, valid_reverse, windR_cyc, windR_cyc, cyc_reverse, show (fun a b => turnS p b a) = fun a b => - turnS p a b from funext fun a => funext fun b => turnS_swap p a b, cyc_neg]
  split <;> rfl
theorem areaS_reverse (r : List P2) : areaS r.reverse = - areaS r := by
  unfold areaS
  rw [valid_reverse, area_cyc, area_cyc, cyc_reverse, show (fun a b => crossS (holdS b) (holdS a)) = fun a b => - crossS (holdS a) (holdS b) from funext fun a => funext fun b => crossS_swap _ _, cyc_neg]
  split <;> rfl
theorem lenS_append (L M : List (List P2)) : lenS (L ++ M) = lenS L + lenS M := by simp [lenS]
theorem windL_append (L : List (List P2)) (r : List P2) (p : P2) (h : validL (L ++ [r]) = true) : validL L = true ∧ windL (L ++ [r]) p = windL L p + windL [r] p := by
  have hL : validL L = true := by
    simp only [validL, Bool.and_eq_true, decide_eq_true_eq, List.all_append, lenS_append] at h ⊢
    exact ⟨by omega, h.2.1⟩
  have hr : validL [r] = true := by
    simp only [validL, Bool.and_eq_true, decide_eq_true_eq, List.all_append, lenS_append] at h ⊢
    exact ⟨by omega, h.2.2⟩
  refine ⟨hL, ?_⟩
  unfold windL
  rw [h, hL, hr]
  unfold windSum
  simp only [Bool.true_and, List.map_append, List.sum_append]
  split <;> omega
theorem areaS_bd (r : List P2) : -20000000000000000 ≤ areaS r ∧ areaS r ≤ 20000000000000000 := by
  unfold areaS
  split
  · next h =>
    have h1 := validL_len h
    have h2 := sumS_bd (edgesS r)
    rw [edgesS_length] at h2
    simp only [lenS, List.map_cons, List.map_nil, List.sum_cons, List.sum_nil] at h1
    omega
  · omega
end Go.Proofs.Ythfeamlioiaebaa
