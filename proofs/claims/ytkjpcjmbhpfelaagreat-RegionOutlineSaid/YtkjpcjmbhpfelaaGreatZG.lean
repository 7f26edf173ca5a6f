/- Texts put together: RgWin, RgWin2. -/
import Derived.Test.YtkjpcjmbhpfelaaGreatZD
import Derived.Test.YtkjpcjmbhpfelaaGreatZC
/- Outlines: what is summed over the legs of all rings. Plain law: no program stands here. -/
set_option linter.unusedVariables false
set_option linter.unusedSimpArgs false
namespace Go.Reg
open Go.Proofs.YtkjpcjmbhpfelaaGreat

abbrev FSum := Int → Int → Int → Int → Int
def fE (f : FSum) (e : Edg) : Int := f e.1 e.2.1 e.2.2.1 e.2.2.2.1
theorem sumL_perm {l m : List Int} (h : l.Perm m) : sumL l = sumL m := by
  induction h with
  | nil => rfl
  | cons x _ ih => unfold sumL; rw [ih]
  | swap x y l => unfold sumL; unfold sumL; omega
  | trans _ _ h1 h2 => exact h1.trans h2
theorem sumL_flat {α : Type} (g : α → Int) : ∀ cs : List (List α), sumL (cs.flatten.map g) = sumL (cs.map fun q => sumL (q.map g)) := by
  intro cs
  induction cs with
  | nil => rfl
  | cons q cs ih => rw [List.flatten_cons, List.map_append, sumL_append, ih, List.map_cons]; rfl
theorem sumL_flatMap {α β : Type} (g : α → List β) (h : β → Int) : ∀ l : List α, sumL ((l.flatMap g).map h) = sumL (l.map fun a => sumL ((g a).map h)) := by
  intro l
  induction l with
  | nil => rfl
  | cons a l ih => rw [List.flatMap_cons, List.map_append, sumL_append, ih, List.map_cons]; rfl
theorem sumL_zero {l : List Int} (h : ∀ x ∈ l, x = 0) : sumL l = 0 := by
  induction l with
  | nil => rfl
  | cons a l ih => unfold sumL; rw [h a List.mem_cons_self, ih fun x hx => h x (List.mem_cons_of_mem _ hx)]; rfl
theorem sumL_le {α : Type} {g h : α → Int} : ∀ {l : List α}, (∀ a ∈ l, g a ≤ h a) → sumL (l.map g) ≤ sumL (l.map h) := by
  intro l
  induction l with
  | nil => intro _; exact Int.le_refl _
  | cons a l ih =>
    intro hl
    have := hl a List.mem_cons_self
    have := ih fun x hx => hl x (List.mem_cons_of_mem _ hx)
    rw [List.map_cons, List.map_cons]
    unfold sumL
    omega
theorem sumL_congr {α : Type} {g h : α → Int} {l : List α} (hl : ∀ a ∈ l, g a = h a) : sumL (l.map g) = sumL (l.map h) := by
  rw [List.map_congr_left hl]
theorem edges_map {E : List Edg} {q : List Nat} {c : List Edg} (h : EdgesAt E q c) (f : FSum) : c.map (fE f) = q.map fun i => fE f (E.getD i (0, 0, 0, 0, 0)) := by
  refine List.ext_getElem? fun k => ?_
  rw [List.getElem?_map, List.getElem?_map]
  rcases Nat.lt_or_ge k q.length with hk | hk
  · obtain ⟨e, h1, h2⟩ := h.2 k _ (List.getElem?_eq_getElem hk)
    rw [h2, List.getElem?_eq_getElem hk]
    simp only [Option.map_some]
    rw [List.getD_eq_getElem?_getD, h1]
    rfl
  · rw [List.getElem?_eq_none (by rw [h.1]; exact hk), List.getElem?_eq_none hk]
    rfl
theorem ring_sum {S : Pix} {E : List Edg} (h : EdgeSys S E) {q : List Nat} {R : List Crn} (hc : Cyc (NextE S E) q) (hr : RingAt E q R) : (∀ f, Adds f → cycTo f R R.length = sumL (q.map fun i => fE f (E.getD i (0, 0, 0, 0, 0)))) ∧ R.length ≤ q.length := by
  obtain ⟨c, t, h1, h2, rfl, _⟩ := hr
  obtain ⟨k0, K, e1, _, _, e4⟩ := closed_ring (cyc_closed h hc h1).1
  refine ⟨fun f hf => ?_, ?_⟩
  · have e5 := e4 f hf
    have hw : wsum f c = sumL (c.map (fE f)) := rfl
    rw [← edges_map h1 f, ← hw, e5]
    rw [e1] at h2 ⊢
    obtain ⟨m0, M, hm⟩ : ∃ m0 M, rot t (k0 :: K) = m0 :: M := by
      cases hq : rot t (k0 :: K) with
      | nil => have := rot_length (Nat.le_of_lt h2); rw [hq] at this; simp at this
      | cons m0 M => exact ⟨m0, M, rfl⟩
    rw [hm, cycTo_psum]
    exact psum_rot h2 hm
  · rw [rot_length (Nat.le_of_lt h2), ← h1.1]
    have := (corn_sub c (lastD c)).length_le
    rwa [List.length_map] at this
theorem range_perm {l : List Nat} {n : Nat} (h1 : l.Nodup) (h2 : ∀ j, j ∈ l ↔ j < n) : l.Perm (List.range n) :=
  (List.perm_ext_iff_of_nodup h1 List.nodup_range).2 fun j => by rw [h2, List.mem_range]
theorem range_map {E : List Edg} (f : FSum) : (List.range E.length).map (fun i => fE f (E.getD i (0, 0, 0, 0, 0))) = E.map (fE f) := by
  refine List.ext_getElem? fun k => ?_
  rw [List.getElem?_map, List.getElem?_map]
  rcases Nat.lt_or_ge k E.length with hk | hk
  · rw [List.getElem?_range hk, List.getElem?_eq_getElem hk]
    simp only [Option.map_some]
    rw [List.getD_eq_getElem?_getD, List.getElem?_eq_getElem hk]
    rfl
  · rw [List.getElem?_eq_none (by rw [List.length_range]; exact hk), List.getElem?_eq_none hk]
    rfl
theorem zip_sum {α β : Type} (g : α → Int) (h : β → Int) : ∀ (l : List α) (m : List β), l.length = m.length → (∀ (k : Nat) (a : α), l[k]? = some a → ∃ b, m[k]? = some b ∧ g a = h b) → sumL (l.map g) = sumL (m.map h) := by
  intro l
  induction l with
  | nil => intro m hl _; cases m with
    | nil => rfl
    | cons b m => simp at hl
  | cons a l ih =>
    intro m hl hk
    cases m with
    | nil => simp at hl
    | cons b m =>
      obtain ⟨b', h1, h2⟩ := hk 0 a rfl
      simp at h1
      subst h1
      rw [List.map_cons, List.map_cons]
      unfold sumL
      rw [h2, ih m (by simpa using hl) fun k a ha => by simpa using hk (k + 1) a (by simpa using ha)]
theorem zip_le {α β : Type} (g : α → Int) (h : β → Int) : ∀ (l : List α) (m : List β), l.length = m.length → (∀ (k : Nat) (a : α), l[k]? = some a → ∃ b, m[k]? = some b ∧ h b ≤ g a) → sumL (m.map h) ≤ sumL (l.map g) := by
  intro l
  induction l with
  | nil => intro m hl _; cases m with
    | nil => exact Int.le_refl _
    | cons b m => simp at hl
  | cons a l ih =>
    intro m hl hk
    cases m with
    | nil => simp at hl
    | cons b m =>
      obtain ⟨b', h1, h2⟩ := hk 0 a rfl
      simp at h1
      subst h1
      have := ih m (by simpa using hl) fun k a ha => by simpa using hk (k + 1) a (by simpa using ha)
      rw [List.map_cons, List.map_cons]
      unfold sumL
      omega
theorem sumL_len {α : Type} (cs : List (List α)) : sumL (cs.map fun q => (q.length : Int)) = (cs.flatten.length : Int) := by
  induction cs with
  | nil => rfl
  | cons q cs ih => rw [List.map_cons, List.flatten_cons, List.length_append]; unfold sumL; rw [ih]; omega
/-- what is summed over the rings is summed over the edges -/
theorem out_sum {S : Pix} {E : List Edg} (h : EdgeSys S E) {cs : List (List Nat)} {Rs : List (List Crn)} (hc : ∀ q ∈ cs, Cyc (NextE S E) q) (hn : cs.flatten.Nodup) (hall : ∀ j, j < E.length → j ∈ cs.flatten) (hlt : ∀ j ∈ cs.flatten, j < E.length)
    (hlen : Rs.length = cs.length) (hR : ∀ (k : Nat) (q : List Nat), cs[k]? = some q → ∃ R, Rs[k]? = some R ∧ RingAt E q R) :
    (∀ f, Adds f → sumL (Rs.map fun R => cycTo f R R.length) = sumL (E.map (fE f))) ∧ sumL (Rs.map fun R => (R.length : Int)) ≤ E.length := by
  refine ⟨fun f hf => ?_, ?_⟩
  · rw [← range_map f, ← sumL_perm ((range_perm hn fun j => ⟨hlt j, hall j⟩).map _), sumL_flat]
    exact (zip_sum _ _ cs Rs hlen.symm fun k q hq => by
      obtain ⟨R, h1, h2⟩ := hR k q hq
      exact ⟨R, h1, ((ring_sum h (hc q (List.mem_of_getElem? hq)) h2).1 f hf).symm⟩).symm
  · have h1 := zip_le (fun q : List Nat => (q.length : Int)) (fun R : List Crn => (R.length : Int)) cs Rs hlen.symm fun k q hq => by
      obtain ⟨R, h1, h2⟩ := hR k q hq
      exact ⟨R, h1, by have := (ring_sum h (hc q (List.mem_of_getElem? hq)) h2).2; omega⟩
    rw [sumL_len cs] at h1
    have := nodup_le hn hlt
    omega

/-! winding and area -/
def fW (X Y : Int) : FSum := fun x y x' y' => if x ≠ x' ∨ x ≤ X then 0 else (if y ≤ Y ∧ Y < y' then 1 else 0) - (if y' ≤ Y ∧ Y < y then 1 else 0)
theorem adds_fW (X Y : Int) : Adds (fW X Y) := by
  intro x y x' y' x'' y'' d h1 h2
  unfold shapeE at h1 h2
  dsimp only at h1 h2
  unfold fW
  split <;> split <;> split <;> omega
def f2 : FSum := fun x y x' y' => if x = x' then 2 * (x * (y' - y)) else 0
theorem adds_f2 : Adds f2 := by
  intro x y x' y' x'' y'' d h1 h2
  unfold shapeE at h1 h2
  dsimp only at h1 h2
  unfold f2
  by_cases e : x = x'
  · have e2 : x' = x'' := by omega
    rw [if_pos e, if_pos e2, if_pos (e.trans e2), ← e]
    have : x * (y' - y) + x * (y'' - y') = x * (y'' - y) := by rw [← Int.mul_add]; congr 1; omega
    omega
  · rw [if_neg e, if_neg (by omega), if_neg (by omega)]
    rfl
def fA : FSum := fun x y x' y' => x * y' - y * x'
theorem flat_zero {S : Pix} {L : List R4} (h : RegionOf S L) (hw : InWin S) {r : R4} (hr : r ∈ L) (f : FSum) (hf : ∀ x x' y, x ≠ x' → f x y x' y = 0) : sumL ((rectE4 L r).map (fE f)) = fE f (downE r) + fE f (upE r) := by
  obtain ⟨a1, a2⟩ := above_ok h hw r.2.1
  obtain ⟨b1, b2⟩ := below_ok h hw r.2.2.2
  unfold rectE4 topE botE
  rw [List.map_append, sumL_append, List.map_cons, List.map_append, List.map_map, List.map_map]
  have z1 : sumL ((unc r.2.2.1 r.1 (aboveL L r.2.1)).map (fE f ∘ fun p => (p.1, r.2.1, p.2, r.2.1, 0))) = 0 := sumL_zero fun x hx => by
    obtain ⟨p, hp, rfl⟩ := List.mem_map.1 hx
    have := unc_in _ _ a1 a2 p hp
    have hne : p.1 ≠ p.2 := by omega
    exact hf p.1 p.2 r.2.1 hne
  have z2 : sumL ((unc r.2.2.1 r.1 (belowL L r.2.2.2)).map (fE f ∘ fun p => (p.2, r.2.2.2, p.1, r.2.2.2, 2))) = 0 := sumL_zero fun x hx => by
    obtain ⟨p, hp, rfl⟩ := List.mem_map.1 hx
    have := unc_in _ _ b1 b2 p hp
    have hne : p.2 ≠ p.1 := by omega
    exact hf p.2 p.1 r.2.2.2 hne
  rw [z1]
  conv => lhs; unfold sumL
  rw [sumL_append, z2]
  simp [sumL]
theorem sum_has {L : List R4} (h : L.Pairwise fun r s => ∀ x y, hasR r x y = true → hasR s x y = true → False) (X Y : Int) : sumL (L.map fun r => one (hasR r X Y)) = one (inL L X Y) := by
  induction L with
  | nil => rfl
  | cons r L ih =>
    obtain ⟨h1, h2⟩ := List.pairwise_cons.1 h
    rw [List.map_cons]
    unfold sumL
    rw [ih h2]
    have e : inL (r :: L) X Y = (hasR r X Y || inL L X Y) := rfl
    rw [e]
    cases hr : hasR r X Y with
    | false => simp [one]
    | true =>
      have : inL L X Y = false := by
        rw [Bool.eq_false_iff]
        intro hi
        obtain ⟨s, hs, hh⟩ := inL_iff.1 hi
        exact h1 s hs X Y hr hh
      rw [this]
      simp [one]
theorem edges_win {S : Pix} {L : List R4} (h : RegionOf S L) (hw : InWin S) (X Y : Int) : sumL ((edgesOf L).map (fE (fW X Y))) = one (S X Y) := by
  have hg := h.geo hw
  unfold edgesOf
  rw [sumL_flatMap, ← hg.has, ← sum_has hg.apart]
  refine sumL_congr fun r hr => ?_
  rw [flat_zero h hw hr (fW X Y) fun x x' y hne => by unfold fW; rw [if_pos (.inl hne)]]
  have hf := hg.full r hr
  have hb := empty_false hf
  unfold fE fW downE upE
  dsimp only
  by_cases hh : hasR r X Y = true
  · rw [hh]
    obtain ⟨_, h1, h2, h3, h4⟩ := hasR_iff.1 hh
    rw [if_neg (by omega), if_pos (by omega), if_neg (by omega), if_pos (by omega)]
    rfl
  · have hn : ¬ (r.1 ≤ X ∧ X < r.2.2.1 ∧ r.2.1 ≤ Y ∧ Y < r.2.2.2) := fun q => hh (hasR_iff.2 ⟨hf, q⟩)
    rw [Bool.not_eq_true] at hh
    rw [hh]
    show _ = (0 : Int)
    split <;> split <;> (try split) <;> (try split) <;> (try split) <;> (try split) <;> omega
theorem edges_area {S : Pix} {L : List R4} (h : RegionOf S L) (hw : InWin S) : sumL ((edgesOf L).map (fE f2)) = 2 * pixCount S := by
  have hg := h.geo hw
  rw [← h.area hw]
  unfold edgesOf sumArea
  rw [sumL_flatMap, Int.mul_comm, ← sumL_map_mul, List.map_map]
  refine sumL_congr fun r hr => ?_
  rw [flat_zero h hw hr f2 fun x x' y hne => by unfold f2; rw [if_neg hne]]
  have hf := hg.full r hr
  show f2 _ _ _ _ + f2 _ _ _ _ = areaR r * 2
  unfold f2 downE upE areaR
  rw [canon_self hf]
  dsimp only
  rw [if_pos rfl, if_pos rfl]
  have e1 : r.1 * (r.2.1 - r.2.2.2) = - (r.1 * (r.2.2.2 - r.2.1)) := by rw [← Int.mul_neg]; congr 1; omega
  have e2 : (r.2.2.1 - r.1) * (r.2.2.2 - r.2.1) = r.2.2.1 * (r.2.2.2 - r.2.1) - r.1 * (r.2.2.2 - r.2.1) := Int.sub_mul _ _ _
  rw [e1]
  omega
end Go.Reg

/- Outlines: one ring: its turns, its length, its area. Plain law: no program stands here. -/
set_option linter.unusedVariables false
set_option linter.unusedSimpArgs false
namespace Go.Reg
open Go.Proofs.YtkjpcjmbhpfelaaGreat

def OutSum (L : List R4) (O : List (List Crn)) : Prop := (∀ f, Adds f → sumL (O.map fun R => cycTo f R R.length) = sumL ((edgesOf L).map (fE f))) ∧ sumL (O.map fun R => (R.length : Int)) ≤ 2101248
theorem OutSum.perm {L : List R4} {O O' : List (List Crn)} (h : OutSum L O) (hp : O'.Perm O) : OutSum L O' :=
  ⟨fun f hf => by rw [sumL_perm (hp.map _)]; exact h.1 f hf, by rw [sumL_perm (hp.map _)]; exact h.2⟩
abbrev nx (R : List Crn) (k : Nat) : Crn := R.getD (k % R.length) (0, 0, 0)
theorem nx_get {R : List Crn} (h : R ≠ []) (k : Nat) : R[k % R.length]? = some (nx R k) := by
  have hpos : 0 < R.length := List.length_pos_iff.2 h
  have hlt := Nat.mod_lt k hpos
  rw [List.getElem?_eq_getElem hlt]
  unfold nx
  rw [List.getD_eq_getElem?_getD, List.getElem?_eq_getElem hlt]
  rfl
theorem nx_leg {S : Pix} {R : List Crn} (h : CycR S R) (hne : R ≠ []) (k : Nat) : Leg S (nx R k) (nx R (k + 1)) := by
  have hpos : 0 < R.length := List.length_pos_iff.2 hne
  refine h (k % R.length) _ _ (nx_get hne k) ?_
  rw [Nat.mod_add_mod]
  exact nx_get hne (k + 1)
/-- a leg turns into one across -/
theorem leg_par {S : Pix} {p r : Crn} (h : Leg S p r) : p.2.2 < 4 ∧ r.2.2 < 4 ∧ r.2.2 % 2 = (p.2.2 + 1) % 2 := by
  obtain ⟨⟨s1, u1⟩, t, n⟩ := h
  have hd := shape_dir s1
  obtain ⟨_, h2, h3⟩ := turnQ_out _ _ _ _ _ hd (in_to s1 u1)
  dsimp only at hd h2 h3
  rw [show turnQ _ _ _ _ _ = turnS S p.2.2 r.1 r.2.1 from rfl, ← t] at h2 h3
  refine ⟨hd, h3, ?_⟩
  omega
theorem ring_par {S : Pix} {R : List Crn} (h : CycR S R) (hne : R ≠ []) : ∀ k, (nx R k).2.2 % 2 = ((nx R 0).2.2 + k) % 2 := by
  intro k
  induction k with
  | zero => rfl
  | succ k ih =>
    have := (leg_par (nx_leg h hne k)).2.2
    omega
theorem nx_full (R : List Crn) : nx R R.length = nx R 0 := by
  unfold nx
  rw [Nat.mod_self, Nat.zero_mod]
theorem ring_even {S : Pix} {R : List Crn} (h : CycR S R) (hne : R ≠ []) : R.length % 2 = 0 ∧ 4 ≤ R.length := by
  have hpos : 0 < R.length := List.length_pos_iff.2 hne
  have h1 := ring_par h hne R.length
  rw [nx_full] at h1
  have hev : R.length % 2 = 0 := by omega
  refine ⟨hev, ?_⟩
  rcases Nat.lt_or_ge R.length 4 with hlt | hge
  · exfalso
    have h2 : R.length = 2 := by omega
    have l1 := nx_leg h hne 0
    have l2 := nx_leg h hne 1
    have e : nx R 2 = nx R 0 := by rw [← h2]; exact nx_full R
    rw [show 1 + 1 = 2 from rfl, e] at l2
    rw [show 0 + 1 = 1 from rfl] at l1
    have p1 := (leg_par l1).2.2
    have s1 := l1.1.1
    have s2 := l2.1.1
    unfold shapeE at s1 s2
    dsimp only at s1 s2
    omega
  · exact hge
/-- level, then upright; or the other way about -/
theorem ring_turn {S : Pix} {R : List Crn} (h : CycR S R) (hne : R ≠ []) (k : Nat) :
    ((nx R k).2.1 = (nx R (k + 1)).2.1 ∧ (nx R k).1 ≠ (nx R (k + 1)).1 ∧ (nx R (k + 1)).1 = (nx R (k + 2)).1 ∧ (nx R (k + 1)).2.1 ≠ (nx R (k + 2)).2.1) ∨
    ((nx R k).1 = (nx R (k + 1)).1 ∧ (nx R k).2.1 ≠ (nx R (k + 1)).2.1 ∧ (nx R (k + 1)).2.1 = (nx R (k + 2)).2.1 ∧ (nx R (k + 1)).1 ≠ (nx R (k + 2)).1) := by
  have l1 := nx_leg h hne k
  have l2 := nx_leg h hne (k + 1)
  rw [show k + 1 + 1 = k + 2 from rfl] at l2
  have p1 := (leg_par l1).2.2
  have s1 := l1.1.1
  have s2 := l2.1.1
  unfold shapeE at s1 s2
  dsimp only at s1 s2
  omega
theorem cycTo_nx {f : FSum} {R : List Crn} (hne : R ≠ []) {k : Nat} (hk : k < R.length) : cycTo f R (k + 1) = cycTo f R k + f (nx R k).1 (nx R k).2.1 (nx R (k + 1)).1 (nx R (k + 1)).2.1 := by
  have h1 := nx_get hne k
  rw [Nat.mod_eq_of_lt hk] at h1
  exact cycTo_succ h1 (nx_get hne (k + 1))
theorem ring_area {S : Pix} {R : List Crn} (h : CycR S R) (hne : R ≠ []) : cycTo fA R R.length = cycTo f2 R R.length := by
  have key : ∀ k, k ≤ R.length → cycTo fA R k = cycTo f2 R k - ((nx R k).1 * (nx R k).2.1 - (nx R 0).1 * (nx R 0).2.1) := by
    intro k
    induction k with
    | zero => intro _; show (0 : Int) = 0 - _; omega
    | succ k ih =>
      intro hk
      have i1 := ih (by omega)
      rw [cycTo_nx hne (by omega), cycTo_nx hne (by omega), i1]
      have s1 := (nx_leg h hne k).1.1
      unfold shapeE at s1
      dsimp only at s1
      generalize nx R k = p at *
      generalize nx R (k + 1) = q at *
      unfold fA f2
      by_cases e : p.1 = q.1
      · rw [if_pos e, ← e, Int.mul_sub]
        have : p.2.1 * p.1 = p.1 * p.2.1 := Int.mul_comm _ _
        omega
      · rw [if_neg e]
        have e2 : q.2.1 = p.2.1 := by omega
        rw [e2]
        have : p.2.1 * q.1 = q.1 * p.2.1 := Int.mul_comm _ _
        omega
  have := key R.length (Nat.le_refl _)
  rw [nx_full] at this
  omega
theorem nx_mem {R : List Crn} (hne : R ≠ []) (k : Nat) : nx R k ∈ R := List.mem_of_getElem? (nx_get hne k)
theorem fA_bd {R : List Crn} (hne : R ≠ []) (hb : ∀ x ∈ R, (-4096 ≤ x.1 ∧ x.1 ≤ 4096) ∧ (-4096 ≤ x.2.1 ∧ x.2.1 ≤ 4096)) : ∀ k, k ≤ R.length → -(33554432 * (k : Int)) ≤ cycTo fA R k ∧ cycTo fA R k ≤ 33554432 * (k : Int) := by
  have key : ∀ a b : Int, -4096 ≤ a ∧ a ≤ 4096 → -4096 ≤ b ∧ b ≤ 4096 → -16777216 ≤ a * b ∧ a * b ≤ 16777216 := fun a b h1 h2 => by
    have hn := Int.natAbs_mul a b
    have hle : (a * b).natAbs ≤ 4096 * 4096 := by rw [hn]; exact Nat.mul_le_mul (by omega) (by omega)
    omega
  intro k
  induction k with
  | zero => intro _; exact ⟨by show _ ≤ (0 : Int); omega, by show (0 : Int) ≤ _; omega⟩
  | succ k ih =>
    intro hk
    have i1 := ih (by omega)
    rw [cycTo_nx hne (by omega)]
    have b1 := hb _ (nx_mem hne k)
    have b2 := hb _ (nx_mem hne (k + 1))
    have m1 := key _ _ b1.1 b2.2
    have m2 := key _ _ b1.2 b2.1
    rw [show fA (nx R k).1 (nx R k).2.1 (nx R (k + 1)).1 (nx R (k + 1)).2.1 = (nx R k).1 * (nx R (k + 1)).2.1 - (nx R k).2.1 * (nx R (k + 1)).1 from rfl]
    omega
theorem fW_bd {R : List Crn} (hne : R ≠ []) (X Y : Int) : ∀ k, k ≤ R.length → -(k : Int) ≤ cycTo (fW X Y) R k ∧ cycTo (fW X Y) R k ≤ (k : Int) := by
  intro k
  induction k with
  | zero => intro _; exact ⟨by show _ ≤ (0 : Int); omega, by show (0 : Int) ≤ _; omega⟩
  | succ k ih =>
    intro hk
    have i1 := ih (by omega)
    rw [cycTo_nx hne (by omega)]
    generalize nx R k = p
    generalize nx R (k + 1) = q
    have : -1 ≤ fW X Y p.1 p.2.1 q.1 q.2.1 ∧ fW X Y p.1 p.2.1 q.1 q.2.1 ≤ 1 := by
      unfold fW
      split <;> (try split) <;> (try split) <;> omega
    omega
/-- sums over the first rings -/
def upTo (g : List Crn → Int) (O : List (List Crn)) (k : Nat) : Int := sumL ((O.take k).map g)
theorem upTo_zero (g : List Crn → Int) (O : List (List Crn)) : upTo g O 0 = 0 := by unfold upTo; rw [List.take_zero]; rfl
theorem upTo_succ (g : List Crn → Int) {O : List (List Crn)} {k : Nat} {R : List Crn} (h : O[k]? = some R) : upTo g O (k + 1) = upTo g O k + g R := by
  unfold upTo
  rw [List.take_add_one, h, List.map_append, sumL_append]
  simp [sumL]
theorem upTo_full (g : List Crn → Int) {O : List (List Crn)} {k : Nat} (h : O.length ≤ k) : upTo g O k = sumL (O.map g) := by
  unfold upTo
  rw [List.take_of_length_le h]
theorem upTo_len (O : List (List Crn)) (k : Nat) : 0 ≤ upTo (fun R => (R.length : Int)) O k ∧ upTo (fun R => (R.length : Int)) O k ≤ sumL (O.map fun R => (R.length : Int)) := by
  have nn : ∀ l : List (List Crn), 0 ≤ sumL (l.map fun R => (R.length : Int)) := by
    intro l
    induction l with
    | nil => exact Int.le_refl _
    | cons a l ih => rw [List.map_cons]; unfold sumL; omega
  unfold upTo
  refine ⟨nn _, ?_⟩
  conv => rhs; rw [← List.take_append_drop k O, List.map_append, sumL_append]
  have := nn (O.drop k)
  omega
theorem upTo_bd (g : List Crn → Int) (c : Int) {O : List (List Crn)} (h : ∀ R ∈ O, -(c * R.length) ≤ g R ∧ g R ≤ c * R.length) : ∀ k, k ≤ O.length → -(c * upTo (fun R => (R.length : Int)) O k) ≤ upTo g O k ∧ upTo g O k ≤ c * upTo (fun R => (R.length : Int)) O k := by
  intro k
  induction k with
  | zero => intro _; rw [upTo_zero, upTo_zero]; omega
  | succ k ih =>
    intro hk
    have i1 := ih (by omega)
    obtain ⟨R, hR⟩ : ∃ R, O[k]? = some R := ⟨_, List.getElem?_eq_getElem (by omega)⟩
    have := h R (List.mem_of_getElem? hR)
    rw [upTo_succ _ hR, upTo_succ _ hR, Int.mul_add]
    omega
end Go.Reg
