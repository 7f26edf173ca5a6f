/- Plain laws of convex hulls: the hull is convex, has a positive area, is its own hull, holds all points, does not depend on their order. No program stands here. -/
import Derived.Test.YthfeamlioiaebaaGHull
import Derived.Test.YthfeamlioiaebaaConv
import Derived.Test.YthfeamlioiaebaaLOrient
set_option linter.unusedVariables false
set_option linter.unusedSimpArgs false
namespace Go.Proofs.Ythfeamlioiaebaa
open Go.RowKit Go.Par

/-! ## the set of a row, in order -/
def insS (p : P2) : List P2 → List P2
  | [] => [p]
  | q :: t => if ltS p q then p :: q :: t else if p = q then q :: t else q :: insS p t
def setS (l : List P2) : List P2 := l.foldr insS []
theorem ins_mem {p x : P2} : ∀ {l : List P2}, x ∈ insS p l ↔ x = p ∨ x ∈ l
  | [] => by simp [insS]
  | q :: t => by
    unfold insS
    split
    · simp
    · split
      · next h => subst h; simp
      · rw [List.mem_cons, ins_mem (l := t), List.mem_cons]
        constructor
        · rintro (h | h | h)
          · exact .inr (.inl h)
          · exact .inl h
          · exact .inr (.inr h)
        · rintro (h | h | h)
          · exact .inr (.inl h)
          · exact .inl h
          · exact .inr (.inr h)
theorem ins_sorted {p : P2} : ∀ {l : List P2}, l.Pairwise ltS → (insS p l).Pairwise ltS
  | [], _ => by simp [insS]
  | q :: t, h => by
    rw [List.pairwise_cons] at h
    unfold insS
    split
    · next hpq =>
      refine List.Pairwise.cons (fun x hx => ?_) (List.Pairwise.cons h.1 h.2)
      rcases List.mem_cons.1 hx with rfl | hx
      · exact hpq
      · exact lt_trans hpq (h.1 x hx)
    · next hpq =>
      split
      · exact List.Pairwise.cons h.1 h.2
      · next hne =>
        refine List.Pairwise.cons (fun x hx => ?_) (ins_sorted h.2)
        rcases ins_mem.1 hx with rfl | hx
        · rcases lt_tri q x with k | k | k
          · exact k
          · exact absurd k.symm hne
          · exact absurd k hpq
        · exact h.1 x hx
theorem set_mem (l : List P2) (x : P2) : x ∈ setS l ↔ x ∈ l := by
  unfold setS
  induction l with
  | nil => rfl
  | cons p l ih => rw [List.foldr_cons, ins_mem, ih, List.mem_cons]
theorem set_sorted (l : List P2) : (setS l).Pairwise ltS := by
  unfold setS
  induction l with
  | nil => exact List.Pairwise.nil
  | cons p l ih => rw [List.foldr_cons]; exact ins_sorted ih
theorem hullG_congr {L M : List P2} (hL : ∀ p ∈ L, validS p = true) (h : ∀ p, p ∈ M ↔ p ∈ L) : hullG M = hullG L := by
  rw [← hull_main hL (set_sorted L) (set_mem L), ← hull_main (fun p hp => hL p ((h p).1 hp)) (set_sorted L) (fun p => (set_mem L p).trans (h p).symm)]
theorem hullS_other (l : List P2) (k : Nat) : hullS (revS (l.drop k ++ l.take k)) = hullS l := by
  unfold hullS
  rw [valid_revS, valid_rot]
  cases hv : validL [l]
  · rfl
  · refine hullG_congr (valid_all hv) fun p => ?_
    have h1 : p ∈ revS (l.drop k ++ l.take k) ↔ p ∈ l.drop k ++ l.take k := by
      unfold revS
      generalize l.drop k ++ l.take k = m
      cases m with
      | nil => rfl
      | cons a t => simp
    rw [h1, List.mem_append, Or.comm, ← List.mem_append, List.take_append_drop]
/-! ## a ring of edges -/
theorem link_at {R : P2 → P2 → Prop} : ∀ {l : List P2} {i : Nat} {a b : P2}, Link R l → l[i]? = some a → l[i + 1]? = some b → R a b
  | [], i, _, _, _, h, _ => by simp at h
  | [_], i, _, _, _, _, h => by simp at h
  | x :: y :: t, 0, a, b, hl, h, k => by
    simp at h k
    subst h k
    exact hl.1
  | x :: y :: t, i + 1, a, b, hl, h, k => link_at (l := y :: t) hl.2 (by simpa using h) (by simpa using k)
def RingE (L h : List P2) : Prop := ∀ i, i < h.length → atS h i ≠ atS h ((i + 1) % h.length) ∧ ∀ p ∈ L, edgeS (atS h i) (atS h ((i + 1) % h.length)) p
theorem at_some {h : List P2} {i : Nat} (hi : i < h.length) : h[i]? = some (atS h i) := by
  rw [List.getElem?_eq_getElem hi]
  simp [atS, hi]
theorem at_mem {h : List P2} {i : Nat} (hi : i < h.length) : atS h i ∈ h := List.mem_of_getElem? (at_some hi)
theorem ring_of_link {L : List P2} {z : P2} {rem : List P2} (hl : Link (fun a b => a ≠ b ∧ ∀ p ∈ L, edgeS a b p) (z :: rem ++ [z])) : RingE L (z :: rem) := by
  intro i hi
  have h1 : (z :: rem ++ [z])[i]? = some (atS (z :: rem) i) := by rw [List.getElem?_append_left hi]; exact at_some hi
  refine link_at hl h1 ?_
  by_cases h : i + 1 < (z :: rem).length
  · rw [Nat.mod_eq_of_lt h, List.getElem?_append_left h]
    exact at_some h
  · have e : i + 1 = (z :: rem).length := by omega
    rw [e, Nat.mod_self, List.getElem?_append_right (Nat.le_refl _), Nat.sub_self]
    rfl
/-- on a line the point behind an inner point is that point -/
theorem mid_edge {a b p c : P2} (h0 : triS a b p = 0) (hD : 0 < dotS a b p) (hN : dotS a b p < dotS a b b) (ha : edgeS p c a) (hb : edgeS p c b) : p = c := by
  have hNp : 0 < dotS a b b := by omega
  have e1 : dotS a b b * triS p c a = - (dotS a b p * ((c.1 - p.1) * (b.2 - a.2) - (c.2 - p.2) * (b.1 - a.1))) := by unfold triS dotS at *; grind
  have e2 : dotS a b b * triS p c b = (dotS a b b - dotS a b p) * ((c.1 - p.1) * (b.2 - a.2) - (c.2 - p.2) * (b.1 - a.1)) := by unfold triS dotS at *; grind
  have e3 : dotS a b b * dotS p c a = - (dotS a b p * ((c.1 - p.1) * (b.1 - a.1) + (c.2 - p.2) * (b.2 - a.2))) := by unfold triS dotS at *; grind
  have e4 : dotS a b b * dotS p c b = (dotS a b b - dotS a b p) * ((c.1 - p.1) * (b.1 - a.1) + (c.2 - p.2) * (b.2 - a.2)) := by unfold triS dotS at *; grind
  have e5 : farS p c * dotS a b b = ((c.1 - p.1) * (b.2 - a.2) - (c.2 - p.2) * (b.1 - a.1)) * ((c.1 - p.1) * (b.2 - a.2) - (c.2 - p.2) * (b.1 - a.1)) + ((c.1 - p.1) * (b.1 - a.1) + (c.2 - p.2) * (b.2 - a.2)) * ((c.1 - p.1) * (b.1 - a.1) + (c.2 - p.2) * (b.2 - a.2)) := by unfold farS dotS; grind
  generalize (c.1 - p.1) * (b.2 - a.2) - (c.2 - p.2) * (b.1 - a.1) = X at *
  generalize (c.1 - p.1) * (b.1 - a.1) + (c.2 - p.2) * (b.2 - a.2) = Y at *
  have ta : 0 ≤ triS p c a := by rcases ha with h | h <;> omega
  have tb : 0 ≤ triS p c b := by rcases hb with h | h <;> omega
  have hND : 0 < dotS a b b - dotS a b p := by omega
  have X1 : 0 ≤ X := nonneg_of_mul hND (by rw [← e2]; exact Int.mul_nonneg (Int.le_of_lt hNp) tb)
  have X2 : 0 ≤ -X := nonneg_of_mul hD (by rw [Int.mul_neg, ← e1]; exact Int.mul_nonneg (Int.le_of_lt hNp) ta)
  have X0 : X = 0 := by omega
  subst X0
  have ta0 : triS p c a = 0 := by
    have : dotS a b b * triS p c a = 0 := by rw [e1]; simp
    rcases Int.mul_eq_zero.1 this with h | h <;> omega
  have tb0 : triS p c b = 0 := by
    have : dotS a b b * triS p c b = 0 := by rw [e2]; simp
    rcases Int.mul_eq_zero.1 this with h | h <;> omega
  have da : 0 ≤ dotS p c a := by rcases ha with h | h <;> omega
  have db : 0 ≤ dotS p c b := by rcases hb with h | h <;> omega
  have Y1 : 0 ≤ Y := nonneg_of_mul hND (by rw [← e4]; exact Int.mul_nonneg (Int.le_of_lt hNp) db)
  have Y2 : 0 ≤ -Y := nonneg_of_mul hD (by rw [Int.mul_neg, ← e3]; exact Int.mul_nonneg (Int.le_of_lt hNp) da)
  have Y0 : Y = 0 := by omega
  subst Y0
  have hf : farS p c * dotS a b b = 0 := by rw [e5]; simp
  rcases Int.mul_eq_zero.1 hf with h | h
  · exact Decidable.byContradiction fun hne => by have := far_pos hne; omega
  · omega
theorem dot_pos {a b p : P2} (hab : a ≠ b) (h0 : triS a b p = 0) (h1 : 0 ≤ dotS a b p) (hpa : p ≠ a) : 0 < dotS a b p := by
  rcases Int.lt_or_le 0 (dotS a b p) with h | h
  · exact h
  · exfalso
    have hd : dotS a b p = 0 := by omega
    have id : farS a b * farS a p = dotS a b p * dotS a b p + triS a b p * triS a b p := by unfold farS dotS triS; grind
    rw [h0, hd] at id
    have := Int.mul_pos (far_pos hab) (far_pos (Ne.symm hpa))
    simp at id
    omega
theorem dot_lt {a b p : P2} (hab : a ≠ b) (h0 : triS a b p = 0) (h1 : dotS a b p ≤ dotS a b b) (hpb : p ≠ b) : dotS a b p < dotS a b b := by
  rcases Int.lt_or_le (dotS a b p) (dotS a b b) with h | h
  · exact h
  · exfalso
    have hd : dotS a b p - dotS a b b = 0 := by omega
    have id : farS a b * farS b p = (dotS a b p - dotS a b b) * (dotS a b p - dotS a b b) + triS a b p * triS a b p := by unfold farS dotS triS; grind
    rw [h0, hd] at id
    have := Int.mul_pos (far_pos hab) (far_pos (Ne.symm hpb))
    simp at id
    omega
theorem nodup_at {h : List P2} (hn : h.Nodup) {i j : Nat} (hi : i < h.length) (hj : j < h.length) (hij : i ≠ j) : atS h i ≠ atS h j := by
  intro e
  have h1 := at_some hi
  have h2 := at_some hj
  rw [e] at h1
  rw [List.getElem?_eq_getElem hi] at h1
  rw [List.getElem?_eq_getElem hj] at h2
  have k0 : h[i] = h[j] := Option.some.inj (h1.trans h2.symm)
  have hn' := List.pairwise_iff_getElem.1 hn
  rcases Nat.lt_or_gt_of_ne hij with k | k
  · exact hn' i j hi hj k k0
  · exact hn' j i hj hi k k0.symm
/-- all others lie strictly to the left of an edge -/
theorem ring_strict {L h : List P2} (hR : RingE L h) (hn : h.Nodup) (hs : ∀ p ∈ h, p ∈ L) {i j : Nat} (hi : i < h.length) (hj : j < h.length) (h1 : j ≠ i) (h2 : j ≠ (i + 1) % h.length) : 0 < triS (atS h i) (atS h ((i + 1) % h.length)) (atS h j) := by
  have hk : (i + 1) % h.length < h.length := Nat.mod_lt _ (by omega)
  obtain ⟨hab, hE⟩ := hR i hi
  obtain ⟨hpc, hF⟩ := hR j hj
  rcases hE _ (hs _ (at_mem hj)) with k | ⟨k0, k1, k2⟩
  · exact k
  · exfalso
    have hpa := nodup_at hn hj hi h1
    have hpb := nodup_at hn hj hk h2
    exact hpc (mid_edge k0 (dot_pos hab k0 k1 hpa) (dot_lt hab k0 k2 hpb) (hF _ (hs _ (at_mem hi))) (hF _ (hs _ (at_mem hk))))
theorem sgn_one {n : Int} (h : 0 < n) : sgnS n = 1 := by
  unfold sgnS
  rw [if_neg (by omega), if_pos h]
theorem ring_convex {L h : List P2} (hR : RingE L h) (hn : h.Nodup) (hs : ∀ p ∈ h, p ∈ L) (hv : validL [h] = true) (h3 : 3 ≤ h.length) : convS h = true := by
  have hva := valid_all hv
  have ho : ∀ i j, i < h.length → j < h.length → j ≠ i → j ≠ (i + 1) % h.length → orientS (atS h i) (atS h ((i + 1) % h.length)) (atS h j) = 1 := fun i j hi hj k1 k2 => by
    rw [orient_tri (hva _ (at_mem hi)) (hva _ (at_mem (Nat.mod_lt _ (by omega)))) (hva _ (at_mem hj))]
    exact sgn_one (ring_strict hR hn hs hi hj k1 k2)
  have e1 : (0 + 1) % h.length = 1 := Nat.mod_eq_of_lt (by omega)
  have o0 := ho 0 2 (by omega) (by omega) (by omega) (by rw [e1]; omega)
  rw [e1] at o0
  unfold convS
  rw [o0, hv, decide_eq_true h3, decide_eq_true (by decide), Bool.true_and, Bool.true_and]
  refine range_all fun i hi => ?_
  unfold sidesS
  refine range_all fun j hj => ?_
  unfold okS
  by_cases k1 : j = i
  · simp [k1]
  · by_cases k2 : j = (i + 1) % h.length
    · rw [decide_eq_true k2]; simp
    · rw [ho i j hi hj k1 k2]; simp
theorem sum_pos {l : List Int} (h0 : ∀ x ∈ l, 0 ≤ x) {y : Int} (hy : y ∈ l) (hp : 0 < y) : 0 < l.sum := by
  induction l with
  | nil => cases hy
  | cons x l ih =>
    have hx := h0 x (List.mem_cons_self ..)
    have hl : 0 ≤ l.sum := by
      have : ∀ m : List Int, (∀ x ∈ m, 0 ≤ x) → 0 ≤ m.sum := by
        intro m
        induction m with
        | nil => intro _; exact Int.le_refl _
        | cons z m ihm =>
          intro hm
          rw [List.sum_cons]
          have := hm z (List.mem_cons_self ..)
          have := ihm fun q hq => hm q (List.mem_cons_of_mem _ hq)
          omega
      exact this l fun q hq => h0 q (List.mem_cons_of_mem _ hq)
    rw [List.sum_cons]
    rcases List.mem_cons.1 hy with rfl | hy
    · omega
    · have := ih (fun q hq => h0 q (List.mem_cons_of_mem _ hq)) hy
      omega
theorem edges_index {r : List P2} {e : P2 × P2} (h : e ∈ edgesS r) : ∃ i, i < r.length ∧ e = (atS r i, atS r ((i + 1) % r.length)) := by
  obtain ⟨i, hi⟩ := List.mem_iff_getElem?.1 h
  have hlt : i < r.length := by
    have := (List.getElem?_eq_some_iff.1 hi).1
    rwa [edgesS_length] at this
  have := edgesS_at (at_some hlt) (at_some (Nat.mod_lt (i + 1) (by omega)))
  rw [hi] at this
  injection this with this
  exact ⟨i, hlt, this⟩
theorem ring_area {L h : List P2} (hR : RingE L h) (hn : h.Nodup) (hs : ∀ p ∈ h, p ∈ L) (hv : validL [h] = true) (h3 : 3 ≤ h.length) : 0 < areaS h := by
  have hva := valid_all hv
  have h0 : atS h 0 ∈ L := hs _ (at_mem (by omega))
  unfold areaS
  rw [hv, if_pos rfl]
  have e : sumS (edgesS h) = ((edgesS h).map fun e => triS (atS h 0) e.1 e.2).sum := by
    unfold sumS
    have hc := sum_congr (f := fun e : P2 × P2 => crossS (holdS e.1) (holdS e.2)) (g := fun e => triS (atS h 0) e.1 e.2 + (crossS (atS h 0) e.2 - crossS (atS h 0) e.1)) (l := edgesS h) (fun e he => by
      obtain ⟨i, hi, rfl⟩ := edges_index he
      rw [(holdS_iff _).2 (hva _ (at_mem hi)), (holdS_iff _).2 (hva _ (at_mem (Nat.mod_lt _ (by omega))))]
      unfold triS crossS
      grind)
    rw [hc, sum_add, sum_edges, Int.add_zero]
  rw [e]
  have ht : ∀ i, i < h.length → triS (atS h 0) (atS h i) (atS h ((i + 1) % h.length)) = triS (atS h i) (atS h ((i + 1) % h.length)) (atS h 0) := fun i _ => by unfold triS; grind
  have e1 : (1 + 1) % h.length = 2 := Nat.mod_eq_of_lt (by omega)
  refine sum_pos (y := triS (atS h 0) (atS h 1) (atS h ((1 + 1) % h.length))) (fun x hx => ?_) ?_ ?_
  · obtain ⟨e, he, rfl⟩ := List.mem_map.1 hx
    obtain ⟨i, hi, rfl⟩ := edges_index he
    rw [ht i hi]
    rcases (hR i hi).2 _ h0 with k | k <;> omega
  · exact List.mem_map.2 ⟨_, List.mem_of_getElem? (edgesS_at (at_some (show 1 < h.length by omega)) (at_some (Nat.mod_lt _ (by omega)))), rfl⟩
  · rw [ht 1 (by omega)]
    exact ring_strict hR hn hs (by omega) (by omega) (by omega) (by rw [e1]; omega)
/-! ## the hull of a row -/
theorem gift_ring {L : List P2} (hL : ∀ p ∈ L, validS p = true) {z : P2} {rem : List P2} (hl : Link (fun a b => a ≠ b ∧ ∀ p ∈ L, edgeS a b p) (z :: rem ++ [z])) (hm : ∀ x ∈ z :: rem, x ∈ L) (hn : (z :: rem).Nodup) (hmin : ∀ p ∈ L, ¬ ltS p z) : giftS L = z :: rem := by
  have hz : z ∉ rem := (List.nodup_cons.1 hn).1
  have hzL : z ∈ L := hm z (by simp)
  have hW : Link (fun a b => wrapS L a = b) (z :: rem ++ [z]) := by
    have hin : ∀ l : List P2, (∀ x ∈ l, x ∈ L) → Link (fun a b => a ≠ b ∧ ∀ p ∈ L, edgeS a b p) l → Link (fun a b => wrapS L a = b) l := by
      intro l
      induction l with
      | nil => intro _ _; trivial
      | cons a t ih =>
        cases t with
        | nil => intro _ _; trivial
        | cons b t =>
          intro hx h
          exact ⟨wrap_edge hL (hL a (hx a (by simp))) (hx b (by simp)) h.1.1 h.1.2, ih (fun x h' => hx x (List.mem_cons_of_mem _ h')) h.2⟩
    refine hin _ (fun x hx => ?_) hl
    rcases List.mem_append.1 hx with h | h
    · exact hm x h
    · simp at h; rw [h]; exact hzL
  have hWr : Link (fun a b => wrapS L a = b) (rem ++ [z]) := link_tail [z] hW
  have hlen := nodup_len _ _ hn hm
  have hfirst : firstS L = z := by
    obtain ⟨h1, h2⟩ := first_min hL (fun e => by rw [e] at hzL; cases hzL)
    rcases lt_tri (firstS L) z with h | h | h
    · exact absurd h (hmin _ h1)
    · exact h
    · exact absurd h (h2 z hzL)
  unfold giftS
  rw [hfirst]
  obtain ⟨q, t, e2⟩ : ∃ q t, rem ++ [z] = q :: t := by
    cases rem with
    | nil => exact ⟨_, _, rfl⟩
    | cons x y => exact ⟨_, _, rfl⟩
  have hq : wrapS L z = q := by
    rw [List.cons_append, e2] at hW
    exact hW.1
  simp only [List.length_cons] at hlen
  rw [hq, gift_path _ rem [z] q t e2 hWr hz (by simp; omega) (by omega)]
  rfl
/-- what is asked of a hull -/
theorem hull_facts (L : List P2) (hne : hullS L ≠ []) : validL [L] = true ∧ RingE L (hullS L) ∧ (hullS L).Nodup ∧ (∀ p ∈ hullS L, p ∈ L) ∧ validL [hullS L] = true ∧ 3 ≤ (hullS L).length ∧ (hullS L).length ≤ L.length ∧ hullS (hullS L) = hullS L := by
  cases hv : validL [L] with
  | false =>
    exfalso
    apply hne
    unfold hullS
    rw [hv]
    rfl
  | true =>
    have hL := valid_all hv
    have hG : hullS L = hullG L := by unfold hullS; rw [hv]; rfl
    have hS := set_sorted L
    have hm := set_mem L
    have hmain := hull_main hL hS hm
    rw [hG, ← hmain] at hne
    rcases hs : setS L with _ | ⟨s0, S'⟩
    · rw [hs] at hne
      exact absurd rfl hne
    · rcases List.eq_nil_or_concat S' with rfl | ⟨S2, sm, e⟩
      · rw [hs] at hne
        exact absurd rfl hne
      · rw [List.concat_eq_append] at e
        subst e
        rw [hs] at hS hm hne hmain
        have hlt : s0 ≠ sm := lt_ne ((List.pairwise_cons.1 hS).1 sm (by simp))
        obtain ⟨rem, g1, g2, g3, g4, g5, g6⟩ := gift_facts hL hS hm (s0 := s0) (sm := sm) (S' := S2 ++ [sm]) (S'' := s0 :: S2) rfl (by simp) hlt
        have h3 : 3 ≤ rem.length + 1 := by
          rcases Nat.lt_or_ge (rem.length + 1) 3 with h | h
          · rw [g2, if_pos h] at hne
            exact absurd rfl hne
          · exact h
        have hE : hullS L = s0 :: rem := by rw [hG, ← hmain, g2, if_neg (by omega)]
        have hlen := nodup_len _ _ g5 g4
        have hvl : validL [s0 :: rem] = true := by
          rw [validL_one, Bool.and_eq_true, decide_eq_true_eq, List.all_eq_true] at hv ⊢
          exact ⟨by omega, fun p hp => hL p (g4 p hp)⟩
        have hmin : ∀ p ∈ L, ¬ ltS p s0 := fun p hp h => by
          have := (hm p).2 hp
          rcases List.mem_cons.1 this with k | k
          · exact lt_ne h k
          · exact lt_asymm h ((List.pairwise_cons.1 hS).1 p k)
        rw [hE]
        refine ⟨rfl, ring_of_link g3, g5, g4, hvl, by simpa using h3, hlen, ?_⟩
        have hgr := gift_ring (L := s0 :: rem) (valid_all hvl) (link_mono (fun a b h => ⟨h.1, fun p hp => h.2 p (g4 p hp)⟩) g3) (fun x hx => hx) g5 (fun p hp => hmin p (g4 p hp))
        unfold hullS hullG
        rw [hvl, hgr]
        simp only [if_true, List.length_cons]
        rw [if_neg (by simp), if_neg (by omega)]
theorem line_flat {a b p q r : P2} (hab : a ≠ b) (hp : triS a b p = 0) (hq : triS a b q = 0) (hr : triS a b r = 0) : triS p q r = 0 := by
  have e1 : (b.1 - a.1) * triS p q r = 0 := by unfold triS at *; grind
  have e2 : (b.2 - a.2) * triS p q r = 0 := by unfold triS at *; grind
  rcases Int.mul_eq_zero.1 e1 with h1 | h1
  · rcases Int.mul_eq_zero.1 e2 with h2 | h2
    · exact absurd (Prod.ext (by omega) (by omega)) hab
    · exact h2
  · exact h1
/-- without a hull a row is not convex -/
theorem hull_none (L : List P2) (h : hullS L = []) : convS L = false := by
  cases hv : validL [L] with
  | false => unfold convS; rw [hv]; simp
  | true =>
    rcases Nat.lt_or_ge L.length 3 with h3 | h3
    · unfold convS
      rw [decide_eq_false (by omega : ¬ 3 ≤ L.length)]
      rfl
    · have hL := valid_all hv
      have hG : hullS L = hullG L := by unfold hullS; rw [hv]; rfl
      have hS := set_sorted L
      have hm := set_mem L
      have hmain := hull_main hL hS hm
      have hflat : triS (atS L 0) (atS L 1) (atS L 2) = 0 := by
        have m0 := at_mem (h := L) (i := 0) (by omega)
        have m1 := at_mem (h := L) (i := 1) (by omega)
        have m2 := at_mem (h := L) (i := 2) (by omega)
        rcases hs : setS L with _ | ⟨s0, S'⟩
        · have := (hm _).2 m0
          rw [hs] at this
          cases this
        · rcases List.eq_nil_or_concat S' with rfl | ⟨S2, sm, e⟩
          · rw [hs] at hm
            have k0 : atS L 0 = s0 := by simpa using (hm _).2 m0
            have k1 : atS L 1 = s0 := by simpa using (hm _).2 m1
            have k2 : atS L 2 = s0 := by simpa using (hm _).2 m2
            rw [k0, k1, k2]
            unfold triS
            grind
          · rw [List.concat_eq_append] at e
            subst e
            rw [hs] at hS hm hmain
            have hlt : s0 ≠ sm := lt_ne ((List.pairwise_cons.1 hS).1 sm (by simp))
            obtain ⟨rem, g1, g2, g3, g4, g5, g6⟩ := gift_facts hL hS hm (s0 := s0) (sm := sm) (S' := S2 ++ [sm]) (S'' := s0 :: S2) rfl (by simp) hlt
            have hr : rem = [sm] := by
              have hl : rem.length + 1 < 3 := by
                rcases Nat.lt_or_ge (rem.length + 1) 3 with k | k
                · exact k
                · rw [g2, if_neg (by omega), ← hG, h] at hmain
                  cases hmain
              match rem, g6, hl with
              | [x], hx, _ => simp at hx; rw [hx]
              | _ :: _ :: _, _, hl => exact absurd hl (by simp only [List.length_cons]; omega)
            rw [hr] at g3
            have z : ∀ p ∈ L, triS s0 sm p = 0 := fun p hp => by
              have h1 := g3.1.2 p hp
              have h2 := g3.2.1.2 p hp
              have e : triS sm s0 p = - triS s0 sm p := by unfold triS; grind
              rcases h1 with h1 | h1 <;> rcases h2 with h2 | h2 <;> omega
            exact line_flat hlt (z _ m0) (z _ m1) (z _ m2)
      have ho : orientS (atS L 0) (atS L 1) (atS L 2) = 0 := by
        rw [orient_tri (hL _ (at_mem (by omega))) (hL _ (at_mem (by omega))) (hL _ (at_mem (by omega))), hflat]
        rfl
      unfold convS
      rw [ho]
      simp
theorem edge_orient {L : List P2} (hL : ∀ p ∈ L, validS p = true) {a b p : P2} (ha : a ∈ L) (hb : b ∈ L) (hp : p ∈ L) (h : edgeS a b p) : 0 ≤ orientS a b p := by
  rw [orient_tri (hL a ha) (hL b hb) (hL p hp)]
  have := sgn_neg (triS a b p)
  rcases h with h | h <;> omega
end Go.Proofs.Ythfeamlioiaebaa
