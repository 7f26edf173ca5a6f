/- Outlines: the rings of a set of pixels are one list and no other. Plain law: no program stands here. -/
import Derived.Test.YtkjpcjmbhpfelaaRgOutR
set_option linter.unusedVariables false
set_option linter.unusedSimpArgs false
namespace Go.Reg
open Go.Proofs.Ytkjpcjmbhpfelaa

def aheadP (p q : Crn) : Prop := p.2.1 < q.2.1 ∨ p.2.1 = q.2.1 ∧ p.1 < q.1
theorem leg_stop {S : Pix} {d : Nat} {x y : Int} (hd : d < 4) (hin : inB' S d x y = true) (hout : outB S d x y = true) : turnS S d x y = d :=
  turnQ_str1 _ _ _ _ d hd _ (turnQ_out _ _ _ _ d hd hin).2.2 hin hout (turnQ_out _ _ _ _ d hd hin).1
theorem Leg.func {S : Pix} {q k k' : Crn} (h : Leg S q k) (h' : Leg S q k') : k = k' := by
  obtain ⟨⟨s1, u1⟩, t1, n1⟩ := h
  obtain ⟨⟨s2, u2⟩, t2, n2⟩ := h'
  have i1 := in_to s1 u1
  have i2 := in_to s2 u2
  have hd := shape_dir s1
  obtain ⟨x, y, d⟩ := q
  obtain ⟨a, b, e⟩ := k
  obtain ⟨a', b', e'⟩ := k'
  dsimp only [legE] at *
  by_cases hp : a = a' ∧ b = b'
  · obtain ⟨rfl, rfl⟩ := hp
    rw [t1, t2]
  · exfalso
    have : covE (x, y, a', b', d) d a b ∨ covE (x, y, a, b, d) d a' b' := by
      clear u1 u2 t1 t2 n1 n2 i1 i2
      unfold shapeE at s1 s2
      unfold covE
      dsimp only at *
      rcases (show d = 0 ∨ d = 1 ∨ d = 2 ∨ d = 3 by omega) with rfl | rfl | rfl | rfl
      all_goals (simp at s1 s2 ⊢; omega)
    rcases this with hc | hc
    · exact n1 (t1.trans (leg_stop hd i1 (u2 _ _ _ hc)))
    · exact n2 (t2.trans (leg_stop hd i2 (u1 _ _ _ hc)))
theorem CycR.prev {S : Pix} {R : List Crn} (h : CycR S R) {k : Nat} {c : Crn} (hk : R[k]? = some c) : ∃ p ∈ R, Leg S p c := by
  have hl := (List.getElem?_eq_some_iff.1 hk).1
  cases k with
  | zero =>
    obtain ⟨p, hp⟩ : ∃ p, R[R.length - 1]? = some p := ⟨_, List.getElem?_eq_getElem (by omega)⟩
    refine ⟨p, List.mem_of_getElem? hp, h _ p c hp ?_⟩
    rw [Nat.sub_add_cancel (by omega), Nat.mod_self]; exact hk
  | succ k =>
    obtain ⟨p, hp⟩ : ∃ p, R[k]? = some p := ⟨_, List.getElem?_eq_getElem (by omega)⟩
    refine ⟨p, List.mem_of_getElem? hp, h k p c hp ?_⟩
    rw [Nat.mod_eq_of_lt hl]; exact hk
theorem cyc_upto {S : Pix} {R R' : List Crn} (h : CycR S R) (h' : CycR S R') (h0 : R[0]? = R'[0]?) : ∀ k, k < R.length → k < R'.length → R[k]? = R'[k]? := by
  intro k
  induction k with
  | zero => intro _ _; exact h0
  | succ k ih =>
    intro h1 h2
    have e := ih (by omega) (by omega)
    obtain ⟨p, hp⟩ : ∃ p, R[k]? = some p := ⟨_, List.getElem?_eq_getElem (by omega)⟩
    obtain ⟨q, hq⟩ : ∃ q, R[k + 1]? = some q := ⟨_, List.getElem?_eq_getElem h1⟩
    obtain ⟨q', hq'⟩ : ∃ q, R'[k + 1]? = some q := ⟨_, List.getElem?_eq_getElem h2⟩
    have l1 := h k p q hp (by rw [Nat.mod_eq_of_lt h1]; exact hq)
    have l2 := h' k p q' (e ▸ hp) (by rw [Nat.mod_eq_of_lt h2]; exact hq')
    rw [hq, hq', l1.func l2]
theorem cyc_len {S : Pix} {R R' : List Crn} (h : CycR S R) (h' : CycR S R') (n' : R'.Nodup) (h0 : R[0]? = R'[0]?) (hne : R ≠ []) : R'.length ≤ R.length := by
  rcases Nat.lt_or_ge R.length R'.length with hlt | hge
  · exfalso
    have hpos : 0 < R.length := List.length_pos_iff.2 hne
    have e := cyc_upto h h' h0 (R.length - 1) (by omega) (by omega)
    obtain ⟨p, hp⟩ : ∃ p, R[R.length - 1]? = some p := ⟨_, List.getElem?_eq_getElem (by omega)⟩
    obtain ⟨q, hq⟩ : ∃ q, R[0]? = some q := ⟨_, List.getElem?_eq_getElem hpos⟩
    obtain ⟨q', hq'⟩ : ∃ q, R'[R.length]? = some q := ⟨_, List.getElem?_eq_getElem hlt⟩
    have l1 := h _ p q hp (by rw [Nat.sub_add_cancel hpos, Nat.mod_self]; exact hq)
    have l2 := h' _ p q' (e ▸ hp) (by rw [Nat.sub_add_cancel hpos, Nat.mod_eq_of_lt hlt]; exact hq')
    have e2 := l1.func l2
    subst e2
    rw [h0] at hq
    obtain ⟨m1, m2⟩ := List.getElem?_eq_some_iff.1 hq
    obtain ⟨m3, m4⟩ := List.getElem?_eq_some_iff.1 hq'
    have := (List.getElem_inj (h₀ := m1) (h₁ := m3) n').1 (m2.trans m4.symm)
    omega
  · exact hge
/-- a ring without repeats is given by its first corner -/
theorem cyc_same {S : Pix} {R R' : List Crn} (h : CycR S R) (h' : CycR S R') (n : R.Nodup) (n' : R'.Nodup) (hne : R ≠ []) (hne' : R' ≠ []) (h0 : R[0]? = R'[0]?) : R = R' := by
  have l1 := cyc_len h h' n' h0 hne
  have l2 := cyc_len h' h n h0.symm hne'
  refine List.ext_getElem? fun k => ?_
  rcases Nat.lt_or_ge k R.length with hk | hk
  · exact cyc_upto h h' h0 k hk (by omega)
  · rw [List.getElem?_eq_none hk, List.getElem?_eq_none (by omega)]
/-- the way into a corner that nothing lies ahead of -/
theorem top_in {S : Pix} {p c : Crn} (h : Leg S p c) (hp : ¬ aheadP p c) : (p.2.2 = 2 ∨ p.2.2 = 3) ∧ inB' S p.2.2 c.1 c.2.1 = true := by
  obtain ⟨⟨s1, u1⟩, _, _⟩ := h
  refine ⟨?_, in_to s1 u1⟩
  unfold aheadP at hp
  unfold shapeE at s1
  dsimp only [legE] at s1
  omega
theorem in23 : ∀ nw ne sw se, ∀ d e, d = 2 ∨ d = 3 → e = 2 ∨ e = 3 → inQ nw ne sw se d = true → inQ nw ne sw se e = true → d = e := by
  intro nw ne sw se d e hd he
  rcases hd with rfl | rfl <;> rcases he with rfl | rfl <;> revert nw ne sw se <;> decide
theorem top_eq {S : Pix} {p c p' c' : Crn} (h : Leg S p c) (h' : Leg S p' c') (hp : ¬ aheadP p c) (hp' : ¬ aheadP p' c') (h1 : c.1 = c'.1) (h2 : c.2.1 = c'.2.1) : c = c' := by
  obtain ⟨a1, a2⟩ := top_in h hp
  obtain ⟨b1, b2⟩ := top_in h' hp'
  rw [← h1, ← h2] at b2
  have e := in23 _ _ _ _ _ _ a1 b1 a2 b2
  have e1 := h.2.1
  have e2 := h'.2.1
  rw [← h1, ← h2, ← e, ← e1] at e2
  obtain ⟨x, y, d⟩ := c
  obtain ⟨x', y', d'⟩ := c'
  dsimp only at *
  rw [h1, h2, e2]
structure RingOf (S : Pix) (R : List Crn) : Prop where
  ne : R ≠ []
  cyc : CycR S R
  nodup : R.Nodup
  least : ∀ c ∈ R, ∀ f, R[0]? = some f → ¬ aheadP c f
theorem rot_mem {α : Type} {t : Nat} {R : List α} {x : α} : x ∈ rot t R ↔ x ∈ R := by
  unfold rot
  conv => rhs; rw [← List.take_append_drop t R]
  rw [List.mem_append, List.mem_append]
  exact or_comm
theorem rot_nodup {α : Type} {t : Nat} {R : List α} (h : R.Nodup) : (rot t R).Nodup := by
  unfold rot
  rw [← List.take_append_drop t R] at h
  have := List.nodup_append.1 h
  exact List.nodup_append.2 ⟨this.2.1, this.1, fun a ha b hb e => this.2.2 b hb a ha e.symm⟩
theorem rot_start {S : Pix} {R : List Crn} (h : CycR S R) (hn : R.Nodup) {c : Crn} (hc : c ∈ R) : ∃ t, t < R.length ∧ CycR S (rot t R) ∧ (rot t R).Nodup ∧ (rot t R)[0]? = some c := by
  obtain ⟨t, ht⟩ := List.mem_iff_getElem?.1 hc
  have hl := (List.getElem?_eq_some_iff.1 ht).1
  refine ⟨t, hl, h.rot hl, rot_nodup hn, ?_⟩
  rw [rot_get hl (by omega), Nat.zero_add, Nat.mod_eq_of_lt hl]
  exact ht
theorem RingOf.head {S : Pix} {R : List Crn} (h : RingOf S R) : ∃ f, R[0]? = some f ∧ f ∈ R := by
  have hpos : 0 < R.length := List.length_pos_iff.2 h.ne
  exact ⟨_, List.getElem?_eq_getElem hpos, List.getElem_mem hpos⟩
theorem RingOf.same {S : Pix} {R R' : List Crn} (h : RingOf S R) (h' : RingOf S R') {c : Crn} (hc : c ∈ R) (hc' : c ∈ R') : R = R' := by
  obtain ⟨t, t1, t2, t3, t4⟩ := rot_start h.cyc h.nodup hc
  obtain ⟨s, s1, s2, s3, s4⟩ := rot_start h'.cyc h'.nodup hc'
  have ne1 : rot t R ≠ [] := fun e => by rw [e] at t4; cases t4
  have ne2 : rot s R' ≠ [] := fun e => by rw [e] at s4; cases s4
  have e := cyc_same t2 s2 t3 s3 ne1 ne2 (t4.trans s4.symm)
  have hm : ∀ x, x ∈ R ↔ x ∈ R' := fun x => by rw [← rot_mem (t := t), e, rot_mem]
  obtain ⟨f, f1, f2⟩ := h.head
  obtain ⟨g, g1, g2⟩ := h'.head
  have a1 := h.least g ((hm g).2 g2) f f1
  have a2 := h'.least f ((hm f).1 f2) g g1
  obtain ⟨p, p1, p2⟩ := h.cyc.prev f1
  obtain ⟨q, q1, q2⟩ := h'.cyc.prev g1
  have b1 := h.least p p1 f f1
  have b2 := h'.least q q1 g g1
  have hxy : f.1 = g.1 ∧ f.2.1 = g.2.1 := by unfold aheadP at a1 a2; omega
  have e2 := top_eq p2 q2 b1 b2 hxy.1 hxy.2
  exact cyc_same h.cyc h'.cyc h.nodup h'.nodup h.ne h'.ne (by rw [f1, g1, e2])
def Corner (S : Pix) (c : Crn) : Prop := ∃ e, e < 4 ∧ inB' S e c.1 c.2.1 = true ∧ c.2.2 = turnS S e c.1 c.2.1 ∧ c.2.2 ≠ e
theorem Leg.corner {S : Pix} {p c : Crn} (h : Leg S p c) : Corner S c := by
  obtain ⟨⟨s1, u1⟩, t, n⟩ := h
  exact ⟨_, shape_dir s1, in_to s1 u1, t, n⟩
abbrev hd0 (R : List Crn) : Crn := R.headD (0, 0, 0)
structure OutOf (S : Pix) (O : List (List Crn)) : Prop where
  ring : ∀ R ∈ O, RingOf S R
  sorted : O.Pairwise fun R Q => aheadP (hd0 R) (hd0 Q)
  all : ∀ c, Corner S c → ∃ R ∈ O, c ∈ R
theorem eq_of_members {α : Type} {r : α → α → Prop} (irr : ∀ a, ¬ r a a) (asym : ∀ a b, r a b → ¬ r b a) : ∀ (l l' : List α), l.Pairwise r → l'.Pairwise r → (∀ x, x ∈ l ↔ x ∈ l') → l = l' := by
  intro l
  induction l with
  | nil =>
    intro l' _ _ h
    cases l' with
    | nil => rfl
    | cons b l' => exact absurd ((h b).2 List.mem_cons_self) List.not_mem_nil
  | cons a l ih =>
    intro l' h1 h2 h
    cases l' with
    | nil => exact absurd ((h a).1 List.mem_cons_self) List.not_mem_nil
    | cons b l' =>
      obtain ⟨a1, a2⟩ := List.pairwise_cons.1 h1
      obtain ⟨b1, b2⟩ := List.pairwise_cons.1 h2
      have hab : a = b := by
        rcases List.mem_cons.1 ((h a).1 List.mem_cons_self) with e | e
        · exact e
        · rcases List.mem_cons.1 ((h b).2 List.mem_cons_self) with e' | e'
          · exact e'.symm
          · exact absurd (a1 b e') (asym _ _ (b1 a e))
      subst hab
      congr 1
      refine ih l' a2 b2 fun x => ⟨fun hx => ?_, fun hx => ?_⟩
      · rcases List.mem_cons.1 ((h x).1 (List.mem_cons_of_mem _ hx)) with e | e
        · subst e; exact absurd (a1 x hx) (irr x)
        · exact e
      · rcases List.mem_cons.1 ((h x).2 (List.mem_cons_of_mem _ hx)) with e | e
        · subst e; exact absurd (b1 x hx) (irr x)
        · exact e
theorem OutOf.uniq {S : Pix} {O O' : List (List Crn)} (h : OutOf S O) (h' : OutOf S O') : O = O' := by
  have sub : ∀ {O O' : List (List Crn)}, OutOf S O → OutOf S O' → ∀ R ∈ O, R ∈ O' := by
    intro O O' h h' R hR
    have hr := h.ring R hR
    obtain ⟨f, f1, f2⟩ := hr.head
    obtain ⟨p, _, p2⟩ := hr.cyc.prev f1
    obtain ⟨R', r1, r2⟩ := h'.all f p2.corner
    have e := hr.same (h'.ring R' r1) f2 r2
    exact e ▸ r1
  exact eq_of_members (r := fun R Q => aheadP (hd0 R) (hd0 Q)) (fun a h => by unfold aheadP at h; omega) (fun a b h h' => by unfold aheadP at h h'; omega) O O' h.sorted h'.sorted fun R => ⟨sub h h' R, sub h' h R⟩
/-- two rings of one set that begin at the same point are one ring -/
theorem RingOf.first {S : Pix} {R R' : List Crn} (h : RingOf S R) (h' : RingOf S R') (h1 : (hd0 R).1 = (hd0 R').1) (h2 : (hd0 R).2.1 = (hd0 R').2.1) : R = R' := by
  obtain ⟨f, f1, f2⟩ := h.head
  obtain ⟨g, g1, g2⟩ := h'.head
  have ef : hd0 R = f := by cases R with | nil => cases f1 | cons a l => simpa using f1
  have eg : hd0 R' = g := by cases R' with | nil => cases g1 | cons a l => simpa using g1
  obtain ⟨p, p1, p2⟩ := h.cyc.prev f1
  obtain ⟨q, q1, q2⟩ := h'.cyc.prev g1
  rw [ef, eg] at h1 h2
  have e := top_eq p2 q2 (h.least p p1 f f1) (h'.least q q1 g g1) h1 h2
  exact h.same h' f2 (e ▸ g2)
end Go.Reg
