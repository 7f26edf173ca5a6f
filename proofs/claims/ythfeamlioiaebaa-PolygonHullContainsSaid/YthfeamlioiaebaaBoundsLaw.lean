/- Plain law: around a point outside the bounds the winding number is 0. No program stands here. -/
import Derived.Test.YthfeamlioiaebaaPix3
set_option linter.unusedVariables false
set_option linter.unusedSimpArgs false
namespace Go.Proofs.Ythfeamlioiaebaa
open Go.RowKit Go.Par

theorem minP_le (a p : P2) : (minP a p).1 ≤ a.1 ∧ (minP a p).2 ≤ a.2 ∧ (minP a p).1 ≤ p.1 ∧ (minP a p).2 ≤ p.2 := by
  unfold minP; simp only; repeat' split
  all_goals omega
theorem maxP_ge (a p : P2) : a.1 ≤ (maxP a p).1 ∧ a.2 ≤ (maxP a p).2 ∧ p.1 ≤ (maxP a p).1 ∧ p.2 ≤ (maxP a p).2 := by
  unfold maxP; simp only; repeat' split
  all_goals omega
theorem fold_min {l : List P2} {a : P2} : ((l.foldl minP a).1 ≤ a.1 ∧ (l.foldl minP a).2 ≤ a.2) ∧ ∀ p ∈ l, (l.foldl minP a).1 ≤ p.1 ∧ (l.foldl minP a).2 ≤ p.2 := by
  induction l generalizing a with
  | nil => simp
  | cons q l ih =>
    have h := ih (a := minP a q)
    have h2 := minP_le a q
    rw [List.foldl_cons]
    refine ⟨by omega, fun p hp => ?_⟩
    rcases List.mem_cons.1 hp with rfl | hp
    · omega
    · exact h.2 p hp
theorem fold_max {l : List P2} {a : P2} : (a.1 ≤ (l.foldl maxP a).1 ∧ a.2 ≤ (l.foldl maxP a).2) ∧ ∀ p ∈ l, p.1 ≤ (l.foldl maxP a).1 ∧ p.2 ≤ (l.foldl maxP a).2 := by
  induction l generalizing a with
  | nil => simp
  | cons q l ih =>
    have h := ih (a := maxP a q)
    have h2 := maxP_ge a q
    rw [List.foldl_cons]
    refine ⟨by omega, fun p hp => ?_⟩
    rcases List.mem_cons.1 hp with rfl | hp
    · omega
    · exact h.2 p hp
theorem orient_pos {a b p : P2} (ha : validS a = true) (hb : validS b = true) (hp : validS p = true) :
    (0 < orientS a b p) = (0 < (b.1 - a.1) * (p.2 - a.2) - (b.2 - a.2) * (p.1 - a.1)) := by
  have ha := (holdS_iff a).2 ha; have hb := (holdS_iff b).2 hb; have hp := (holdS_iff p).2 hp
  simp only [holdS, Prod.ext_iff] at ha hb hp
  rw [orientS_sgn]
  unfold sgnS crossS subS
  simp only
  rw [ha.1, ha.2, hb.1, hb.2, hp.1, hp.2]
  generalize (b.1 - a.1) * (p.2 - a.2) - (b.2 - a.2) * (p.1 - a.1) = t
  rw [eq_iff_iff]
  split
  · omega
  · split <;> omega
theorem cross_right {u v d e : Int} (h0 : 0 ≤ e) (h1 : e < d) (h2 : 0 ≤ v) (h3 : u ≤ v) : u * e - d * v ≤ 0 := by
  have k1 : 0 ≤ d * v := Int.mul_nonneg (by omega) h2
  rcases Int.le_total u 0 with hu | hu
  · have : u * e ≤ 0 := Int.mul_nonpos_of_nonpos_of_nonneg hu h0
    omega
  · have k2 : u * e ≤ u * d := Int.mul_le_mul_of_nonneg_left (by omega) hu
    have k3 : u * d ≤ v * d := Int.mul_le_mul_of_nonneg_right h3 (by omega)
    rw [Int.mul_comm v d] at k3
    omega
theorem cross_left {u v d e : Int} (h0 : 0 ≤ e) (h1 : e < d) (h2 : v < 0) (h3 : v < u) : 0 < u * e - d * v := by
  have k1 : d * v < 0 := Int.mul_neg_of_pos_of_neg (by omega) h2
  rcases Int.le_total 0 u with hu | hu
  · have : 0 ≤ u * e := Int.mul_nonneg hu h0
    omega
  · have k2 : u * d ≤ u * e := Int.mul_le_mul_of_nonpos_left hu (by omega)
    have k3 : v * d < u * d := Int.mul_lt_mul_of_pos_right h3 (by omega)
    rw [Int.mul_comm v d] at k3
    omega
/-- a point that lies above the height of p -/
def aboveS (p a : P2) : Int := if p.2 < a.2 then 1 else 0
theorem turn_right {p a b : P2} (ha : validS a = true) (hb : validS b = true) (hp : validS p = true) (h1 : a.1 ≤ p.1) (h2 : b.1 ≤ p.1) : turnS p a b = 0 := by
  unfold turnS
  simp only [orient_pos ha hb hp, orient_pos hb ha hp]
  rw [if_neg, if_neg]
  · rintro ⟨k1, k2, k3⟩
    have := cross_right (u := a.1 - b.1) (v := p.1 - b.1) (d := a.2 - b.2) (e := p.2 - b.2) (by omega) (by omega) (by omega) (by omega)
    omega
  · rintro ⟨k1, k2, k3⟩
    have := cross_right (u := b.1 - a.1) (v := p.1 - a.1) (d := b.2 - a.2) (e := p.2 - a.2) (by omega) (by omega) (by omega) (by omega)
    omega
theorem turn_left {p a b : P2} (ha : validS a = true) (hb : validS b = true) (hp : validS p = true) (h1 : p.1 < a.1) (h2 : p.1 < b.1) : turnS p a b = aboveS p b - aboveS p a := by
  unfold turnS aboveS
  simp only [orient_pos ha hb hp, orient_pos hb ha hp]
  by_cases k : a.2 ≤ p.2 ∧ p.2 < b.2
  · have := cross_left (u := b.1 - a.1) (v := p.1 - a.1) (d := b.2 - a.2) (e := p.2 - a.2) (by omega) (by omega) (by omega) (by omega)
    rw [if_pos ⟨k.1, k.2, this⟩, if_pos k.2, if_neg (by omega)]
    rfl
  · rw [if_neg (fun h => k ⟨h.1, h.2.1⟩)]
    by_cases k' : b.2 ≤ p.2 ∧ p.2 < a.2
    · have := cross_left (u := a.1 - b.1) (v := p.1 - b.1) (d := a.2 - b.2) (e := p.2 - b.2) (by omega) (by omega) (by omega) (by omega)
      rw [if_pos ⟨k'.1, k'.2, this⟩, if_neg (by omega), if_pos k'.2]
      rfl
    · rw [if_neg (fun h => k' ⟨h.1, h.2.1⟩)]
      split <;> split <;> omega
theorem turn_far {p a b : P2} (h : (p.2 < a.2 ∧ p.2 < b.2) ∨ (a.2 ≤ p.2 ∧ b.2 ≤ p.2)) : turnS p a b = 0 := by
  unfold turnS
  rw [if_neg (fun k => by omega), if_neg (fun k => by omega)]
theorem sum_zip (g : P2 → Int) : ∀ (l m : List P2), l.length = m.length → ((l.zip m).map fun e => g e.2 - g e.1).sum = (m.map g).sum - (l.map g).sum
  | [], [], _ => rfl
  | a :: l, b :: m, h => by
    have := sum_zip g l m (by simpa using h)
    simp only [List.zip_cons_cons, List.map_cons, List.sum_cons, this]
    omega
  | [], _ :: _, h => by simp at h
  | _ :: _, [], h => by simp at h
theorem sum_edges (g : P2 → Int) (r : List P2) : ((edgesS r).map fun e => g e.2 - g e.1).sum = 0 := by
  unfold edgesS
  rw [sum_zip g _ _ (by rw [List.length_append, List.length_drop, List.length_take]; omega)]
  have e : (r.map g).sum = ((r.take 1).map g).sum + ((r.drop 1).map g).sum := by
    rw [← List.sum_append, ← List.map_append, List.take_append_drop]
  rw [e, List.map_append, List.sum_append]
  omega
theorem edges_mem {r : List P2} {e : P2 × P2} (h : e ∈ edgesS r) : e.1 ∈ r ∧ e.2 ∈ r := by
  unfold edgesS at h
  have := List.of_mem_zip (a := e.1) (b := e.2) h
  refine ⟨this.1, ?_⟩
  rcases List.mem_append.1 this.2 with h | h
  · exact List.mem_of_mem_drop h
  · exact List.mem_of_mem_take h
theorem sum_congr {α : Type} {f g : α → Int} {l : List α} (h : ∀ e ∈ l, f e = g e) : (l.map f).sum = (l.map g).sum := by
  rw [List.map_congr_left h]
theorem sum_zero {α : Type} {f : α → Int} {l : List α} (h : ∀ e ∈ l, f e = 0) : (l.map f).sum = 0 := by
  induction l with
  | nil => rfl
  | cons a l ih =>
    rw [List.map_cons, List.sum_cons, h a (by simp), ih (fun e he => h e (by simp [he]))]
    rfl
theorem windR_out {p : P2} {r : List P2} (hv : ∀ q ∈ r, validS q = true) (hp : validS p = true)
    (h : (∀ q ∈ r, q.1 ≤ p.1) ∨ (∀ q ∈ r, p.1 < q.1) ∨ (∀ q ∈ r, q.2 ≤ p.2) ∨ (∀ q ∈ r, p.2 < q.2)) : windR p r = 0 := by
  unfold windR windE
  rcases h with h | h | h | h
  · exact sum_zero fun e he => turn_right (hv _ (edges_mem he).1) (hv _ (edges_mem he).2) hp (h _ (edges_mem he).1) (h _ (edges_mem he).2)
  · rw [sum_congr (g := fun e => aboveS p e.2 - aboveS p e.1) fun e he => turn_left (hv _ (edges_mem he).1) (hv _ (edges_mem he).2) hp (h _ (edges_mem he).1) (h _ (edges_mem he).2)]
    exact sum_edges _ r
  · exact sum_zero fun e he => turn_far (.inr ⟨h _ (edges_mem he).1, h _ (edges_mem he).2⟩)
  · exact sum_zero fun e he => turn_far (.inl ⟨h _ (edges_mem he).1, h _ (edges_mem he).2⟩)
theorem windSum_out {p : P2} {L : List (List P2)} (hv : ∀ q ∈ L.flatten, validS q = true) (hp : validS p = true)
    (h : (∀ q ∈ L.flatten, q.1 ≤ p.1) ∨ (∀ q ∈ L.flatten, p.1 < q.1) ∨ (∀ q ∈ L.flatten, q.2 ≤ p.2) ∨ (∀ q ∈ L.flatten, p.2 < q.2)) : windSum p L = 0 := by
  unfold windSum
  refine sum_zero fun r hr => ?_
  have hin : ∀ q ∈ r, q ∈ L.flatten := fun q hq => List.mem_flatten.2 ⟨r, hr, hq⟩
  refine windR_out (fun q hq => hv q (hin q hq)) hp ?_
  rcases h with h | h | h | h
  · exact .inl fun q hq => h q (hin q hq)
  · exact .inr (.inl fun q hq => h q (hin q hq))
  · exact .inr (.inr (.inl fun q hq => h q (hin q hq)))
  · exact .inr (.inr (.inr fun q hq => h q (hin q hq)))
theorem rectHas_in {a b c d x y : Int} (h1 : inR a = true) (h2 : inR b = true) (h3 : inR c = true) (h4 : inR d = true) (k1 : a ≤ x) (k2 : x < c) (k3 : b ≤ y) (k4 : y < d) :
    rectHasS (rectCanonS (a, b, c, d)) x y = true := by
  have e := rectCanon_in ⟨h1, h2, h3, h4⟩
  rw [if_neg (by omega)] at e
  unfold rectHasS
  rw [e, e]
  simp [k1, k2, k3, k4]
theorem wind_pix (L : List (List P2)) (x y : Int) : windL L (x, y) = 0 ∨ rectHasS (pixS L) (x / 256) (y / 256) = true := by
  by_cases hv : validL L = true ∧ validS (x, y) = true
  · obtain ⟨hv, hp⟩ := hv
    have e0 : windL L (x, y) = windSum (x, y) L := by unfold windL; rw [hv, hp]; rfl
    rw [e0]
    by_cases hw : windSum (x, y) L = 0
    · exact .inl hw
    · refine .inr ?_
      have hall : ∀ q ∈ L.flatten, validS q = true := by
        intro q hq
        simp only [validL, Bool.and_eq_true, List.all_eq_true] at hv
        obtain ⟨r, hr, hqr⟩ := List.mem_flatten.1 hq
        exact hv.2 r hr q hqr
      have hout := fun h => hw (windSum_out hall hp h)
      unfold pixS
      have hin := boundsS_inP L
      have hb : boundsS L = boundsF L.flatten := by unfold boundsS; rw [hv]; rfl
      rw [hb] at hin ⊢
      clear hw e0 hv hb
      generalize L.flatten = l at *
      cases l with
      | nil => exact absurd (.inl (by simp)) hout
      | cons p0 t =>
        simp only [boundsF] at hin ⊢
        have m1 := (fold_min (l := p0 :: t) (a := p0)).2
        have m2 := (fold_max (l := p0 :: t) (a := p0)).2
        generalize (p0 :: t).foldl minP p0 = lo at *
        generalize (p0 :: t).foldl maxP p0 = hi at *
        have g1 : lo.1 ≤ x := by
          refine Int.not_lt.1 fun h => hout (.inr (.inl fun q hq => ?_))
          have := (m1 q hq).1
          show x < q.1
          omega
        have g2 : x < hi.1 := by
          refine Int.not_le.1 fun h => hout (.inl fun q hq => ?_)
          have := (m2 q hq).1
          show q.1 ≤ x
          omega
        have g3 : lo.2 ≤ y := by
          refine Int.not_lt.1 fun h => hout (.inr (.inr (.inr fun q hq => ?_)))
          have := (m1 q hq).2
          show y < q.2
          omega
        have g4 : y < hi.2 := by
          refine Int.not_le.1 fun h => hout (.inr (.inr (.inl fun q hq => ?_)))
          have := (m2 q hq).2
          show q.2 ≤ y
          omega
        unfold inP at hin
        rw [if_pos trivial]
        exact rectHas_in (inR_div (by omega) (by omega)).1 (inR_div (by omega) (by omega)).1 (inR_div (by omega) (by omega)).2 (inR_div (by omega) (by omega)).2 (by omega) (by omega) (by omega) (by omega)
  · refine .inl ?_
    unfold windL
    rw [if_neg]
    rw [Bool.and_eq_true]
    exact hv
end Go.Proofs.Ythfeamlioiaebaa
