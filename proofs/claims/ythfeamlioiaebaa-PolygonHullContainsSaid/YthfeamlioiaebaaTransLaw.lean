/- Plain law: moving rings and a point together keeps winding numbers and areas. No program stands here. -/
import Derived.Test.YthfeamlioiaebaaRingLaw
import Derived.Test.YthfeamlioiaebaaTrans
set_option linter.unusedVariables false
set_option linter.unusedSimpArgs false
namespace Go.Proofs.Ythfeamlioiaebaa
open Go.RowKit Go.Par

theorem held_of_valid {p : P2} (h : validS p = true) : heldS p.1 = p.1 ∧ heldS p.2 = p.2 := by
  have := (holdS_iff p).2 h
  simp only [holdS, Prod.ext_iff] at this
  exact this
theorem addS_valid {p t : P2} (hp : validS p = true) (ht : validS t = true) : addS p t = (p.1 + t.1, p.2 + t.2) := by
  unfold addS
  rw [(held_of_valid hp).1, (held_of_valid hp).2, (held_of_valid ht).1, (held_of_valid ht).2]
theorem zip_map2 (f : P2 → P2) (r : List P2) : edgesS (r.map f) = (edgesS r).map fun e => (f e.1, f e.2) := by
  unfold edgesS
  rw [← List.map_drop, ← List.map_take, ← List.map_append, List.zip_map]
  rfl
theorem orient_move {a b p t : P2} (ha : validS a = true) (hb : validS b = true) (hp : validS p = true) (ht : validS t = true) (ha' : validS (addS a t) = true) (hb' : validS (addS b t) = true) (hp' : validS (addS p t) = true) :
    orientS (addS a t) (addS b t) (addS p t) = orientS a b p := by
  rw [orientS_sgn, orientS_sgn]
  unfold crossS subS
  simp only
  rw [(held_of_valid ha').1, (held_of_valid ha').2, (held_of_valid hb').1, (held_of_valid hb').2, (held_of_valid hp').1, (held_of_valid hp').2,
    (held_of_valid ha).1, (held_of_valid ha).2, (held_of_valid hb).1, (held_of_valid hb).2, (held_of_valid hp).1, (held_of_valid hp).2]
  rw [addS_valid ha ht, addS_valid hb ht, addS_valid hp ht]
  simp only
  rw [show b.1 + t.1 - (a.1 + t.1) = b.1 - a.1 by omega, show b.2 + t.2 - (a.2 + t.2) = b.2 - a.2 by omega, show p.1 + t.1 - (a.1 + t.1) = p.1 - a.1 by omega, show p.2 + t.2 - (a.2 + t.2) = p.2 - a.2 by omega]
theorem turn_move {a b p t : P2} (ha : validS a = true) (hb : validS b = true) (hp : validS p = true) (ht : validS t = true) (ha' : validS (addS a t) = true) (hb' : validS (addS b t) = true) (hp' : validS (addS p t) = true) :
    turnS (addS p t) (addS a t) (addS b t) = turnS p a b := by
  unfold turnS
  simp only [orient_move ha hb hp ht ha' hb' hp', orient_move hb ha hp ht hb' ha' hp']
  rw [addS_valid ha ht, addS_valid hb ht, addS_valid hp ht]
  simp only [Int.add_le_add_iff_right, Int.add_lt_add_iff_right]
theorem windR_move {r : List P2} {p t : P2} (hr : ∀ q ∈ r, validS q = true) (hp : validS p = true) (ht : validS t = true) (hr' : ∀ q ∈ r, validS (addS q t) = true) (hp' : validS (addS p t) = true) :
    windR (addS p t) (moveR t r) = windR p r := by
  unfold windR windE moveR
  rw [zip_map2, List.map_map]
  exact sum_congr fun e he => turn_move (hr _ (edges_mem he).1) (hr _ (edges_mem he).2) hp ht (hr' _ (edges_mem he).1) (hr' _ (edges_mem he).2) hp'
theorem cross_move {a b t : P2} (ha : validS a = true) (hb : validS b = true) (ht : validS t = true) (ha' : validS (addS a t) = true) (hb' : validS (addS b t) = true) :
    crossS (holdS (addS a t)) (holdS (addS b t)) = crossS (holdS a) (holdS b) + (crossS t b - crossS t a) := by
  rw [(holdS_iff _).2 ha', (holdS_iff _).2 hb', (holdS_iff _).2 ha, (holdS_iff _).2 hb, addS_valid ha ht, addS_valid hb ht]
  unfold crossS
  simp only [Int.add_mul, Int.mul_add]
  rw [Int.mul_comm a.1 t.2, Int.mul_comm a.2 t.1, Int.mul_comm t.1 t.2]
  omega
theorem sum_add {α : Type} (f g : α → Int) (l : List α) : (l.map fun e => f e + g e).sum = (l.map f).sum + (l.map g).sum := by
  induction l with
  | nil => rfl
  | cons a l ih => simp only [List.map_cons, List.sum_cons, ih]; omega
theorem area_move {r : List P2} {t : P2} (hr : ∀ q ∈ r, validS q = true) (ht : validS t = true) (hr' : ∀ q ∈ r, validS (addS q t) = true) : sumS (edgesS (moveR t r)) = sumS (edgesS r) := by
  unfold sumS moveR
  rw [zip_map2, List.map_map]
  have h := sum_congr (f := fun e : P2 × P2 => crossS (holdS (addS e.1 t)) (holdS (addS e.2 t))) (g := fun e => crossS (holdS e.1) (holdS e.2) + (crossS t e.2 - crossS t e.1)) (l := edgesS r)
    (fun e he => cross_move (hr _ (edges_mem he).1) (hr _ (edges_mem he).2) ht (hr' _ (edges_mem he).1) (hr' _ (edges_mem he).2))
  rw [sum_add, sum_edges, Int.add_zero] at h
  exact h
theorem valid_mem {L : List (List P2)} (h : validL L = true) {r : List P2} (hr : r ∈ L) : ∀ q ∈ r, validS q = true := by
  simp only [validL, Bool.and_eq_true, List.all_eq_true] at h
  exact h.2 r hr
theorem windL_move {L : List (List P2)} {p t : P2} (hv : validL L = true) (ht : validS t = true) (hp : validS p = true) (hv' : validL (transL L t) = true) (hp' : validS (addS p t) = true) : windL (transL L t) (addS p t) = windL L p := by
  have e : transL L t = L.map (moveR t) := by unfold transL; rw [hv]; rfl
  unfold windL
  rw [hv, hv', hp, hp', e]
  simp only [Bool.and_self, if_true]
  unfold windSum
  rw [List.map_map]
  refine sum_congr fun r hr => windR_move (valid_mem hv hr) hp ht (fun q hq => ?_) hp'
  rw [e] at hv'
  exact valid_mem hv' (List.mem_map.2 ⟨r, hr, rfl⟩) _ (List.mem_map.2 ⟨q, hq, rfl⟩)
theorem areaS_move {L : List (List P2)} {t : P2} (hv : validL L = true) (ht : validS t = true) (hv' : validL (transL L t) = true) {r : List P2} (hr : r ∈ L) : areaS (moveR t r) = areaS r := by
  have e : transL L t = L.map (moveR t) := by unfold transL; rw [hv]; rfl
  rw [e] at hv'
  have h1 := valid_mem hv hr
  have h2 : ∀ q ∈ moveR t r, validS q = true := valid_mem hv' (List.mem_map.2 ⟨r, hr, rfl⟩)
  have hlen : r.length ≤ 4096 := by
    obtain ⟨k, hk⟩ := List.mem_iff_getElem?.1 hr
    exact Nat.le_trans (mem_len hk) (validL_len hv)
  have k1 : validL [r] = true := by
    rw [validL_one, Bool.and_eq_true, decide_eq_true_eq, List.all_eq_true]
    exact ⟨hlen, h1⟩
  have k2 : validL [moveR t r] = true := by
    rw [validL_one, Bool.and_eq_true, decide_eq_true_eq, List.all_eq_true]
    exact ⟨by unfold moveR; rw [List.length_map]; exact hlen, h2⟩
  unfold areaS
  rw [k1, k2]
  exact area_move h1 ht fun q hq => h2 _ (List.mem_map.2 ⟨q, hq, rfl⟩)
end Go.Proofs.Ythfeamlioiaebaa
