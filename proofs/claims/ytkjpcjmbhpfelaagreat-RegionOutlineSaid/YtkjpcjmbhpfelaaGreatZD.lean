/- Texts put together: RgOutU, RgOutC, RgRing. -/
import Derived.Test.YtkjpcjmbhpfelaaGreatZC
import Derived.Test.YtkjpcjmbhpfelaaGreatRgOutX
/- Outlines: the rings of a set of pixels are one list and no other. Plain law: no program stands here. -/
set_option linter.unusedVariables false
set_option linter.unusedSimpArgs false
namespace Go.Reg
open Go.Proofs.YtkjpcjmbhpfelaaGreat

def aheadP (p q : Crn) : Prop := p.2.1 < q.2.1 ∨ p.2.1 = q.2.1 ∧ p.1 < q.1
theorem leg_stop {S : Pix} {d : Nat} {x y : Int} (hd : d < 4) (hin : inB' S d x y = true) (hout : outB S d x y = true) : turnS S d x y = d :=
  turnQ_str1 _ _ _ _ d hd _ (turnQ_out _ _ _ _ d hd hin).2.2 hin hout (turnQ_out _ _ _ _ d hd hin).1
theorem Leg.func {S : Pix} {q k k' : Crn} (h : Leg S q k) (h' : Leg S q k') : k = k' := by
  obtain ⟨⟨s1, u1⟩, t1, n1⟩ := h
  obtain ⟨⟨s2, u2⟩, t2, n2⟩ := h'
  have i1 := in_to s1 u1
  have i2 := in_to s2 u2
  have hd := shape_dir s1
  obtain ⟨x, y, d⟩ := q
  obtain ⟨a, b, e⟩ := k
  obtain ⟨a', b', e'⟩ := k'
  dsimp only [legE] at *
  by_cases hp : a = a' ∧ b = b'
  · obtain ⟨rfl, rfl⟩ := hp
    rw [t1, t2]
  · exfalso
    have : covE (x, y, a', b', d) d a b ∨ covE (x, y, a, b, d) d a' b' := by
      clear u1 u2 t1 t2 n1 n2 i1 i2
      unfold shapeE at s1 s2
      unfold covE
      dsimp only at *
      rcases (show d = 0 ∨ d = 1 ∨ d = 2 ∨ d = 3 by omega) with rfl | rfl | rfl | rfl
      all_goals (simp at s1 s2 ⊢; omega)
    rcases this with hc | hc
    · exact n1 (t1.trans (leg_stop hd i1 (u2 _ _ _ hc)))
    · exact n2 (t2.trans (leg_stop hd i2 (u1 _ _ _ hc)))
theorem CycR.prev {S : Pix} {R : List Crn} (h : CycR S R) {k : Nat} {c : Crn} (hk : R[k]? = some c) : ∃ p ∈ R, Leg S p c := by
  have hl := (List.getElem?_eq_some_iff.1 hk).1
  cases k with
  | zero =>
    obtain ⟨p, hp⟩ : ∃ p, R[R.length - 1]? = some p := ⟨_, List.getElem?_eq_getElem (by omega)⟩
    refine ⟨p, List.mem_of_getElem? hp, h _ p c hp ?_⟩
    rw [Nat.sub_add_cancel (by omega), Nat.mod_self]; exact hk
  | succ k =>
    obtain ⟨p, hp⟩ : ∃ p, R[k]? = some p := ⟨_, List.getElem?_eq_getElem (by omega)⟩
    refine ⟨p, List.mem_of_getElem? hp, h k p c hp ?_⟩
    rw [Nat.mod_eq_of_lt hl]; exact hk
theorem cyc_upto {S : Pix} {R R' : List Crn} (h : CycR S R) (h' : CycR S R') (h0 : R[0]? = R'[0]?) : ∀ k, k < R.length → k < R'.length → R[k]? = R'[k]? := by
  intro k
  induction k with
  | zero => intro _ _; exact h0
  | succ k ih =>
    intro h1 h2
    have e := ih (by omega) (by omega)
    obtain ⟨p, hp⟩ : ∃ p, R[k]? = some p := ⟨_, List.getElem?_eq_getElem (by omega)⟩
    obtain ⟨q, hq⟩ : ∃ q, R[k + 1]? = some q := ⟨_, List.getElem?_eq_getElem h1⟩
    obtain ⟨q', hq'⟩ : ∃ q, R'[k + 1]? = some q := ⟨_, List.getElem?_eq_getElem h2⟩
    have l1 := h k p q hp (by rw [Nat.mod_eq_of_lt h1]; exact hq)
    have l2 := h' k p q' (e ▸ hp) (by rw [Nat.mod_eq_of_lt h2]; exact hq')
    rw [hq, hq', l1.func l2]
theorem cyc_len {S : Pix} {R R' : List Crn} (h : CycR S R) (h' : CycR S R') (n' : R'.Nodup) (h0 : R[0]? = R'[0]?) (hne : R ≠ []) : R'.length ≤ R.length := by
  rcases Nat.lt_or_ge R.length R'.length with hlt | hge
  · exfalso
    have hpos : 0 < R.length := List.length_pos_iff.2 hne
    have e := cyc_upto h h' h0 (R.length - 1) (by omega) (by omega)
    obtain ⟨p, hp⟩ : ∃ p, R[R.length - 1]? = some p := ⟨_, List.getElem?_eq_getElem (by omega)⟩
    obtain ⟨q, hq⟩ : ∃ q, R[0]? = some q := ⟨_, List.getElem?_eq_getElem hpos⟩
    obtain ⟨q', hq'⟩ : ∃ q, R'[R.length]? = some q := ⟨_, List.getElem?_eq_getElem hlt⟩
    have l1 := h _ p q hp (by rw [Nat.sub_add_cancel hpos, Nat.mod_self]; exact hq)
    have l2 := h' _ p q' (e ▸ hp) (by rw [Nat.sub_add_cancel hpos, Nat.mod_eq_of_lt hlt]; exact hq')
    have e2 := l1.func l2
    subst e2
    rw [h0] at hq
    obtain ⟨m1, m2⟩ := List.getElem?_eq_some_iff.1 hq
    obtain ⟨m3, m4⟩ := List.getElem?_eq_some_iff.1 hq'
    have := (List.getElem_inj (h₀ := m1) (h₁ := m3) n').1 (m2.trans m4.symm)
    omega
  · exact hge
/-- a ring without repeats is given by its first corner -/
theorem cyc_same {S : Pix} {R R' : List Crn} (h : CycR S R) (h' : CycR S R') (n : R.Nodup) (n' : R'.Nodup) (hne : R ≠ []) (hne' : R' ≠ []) (h0 : R[0]? = R'[0]?) : R = R' := by
  have l1 := cyc_len h h' n' h0 hne
  have l2 := cyc_len h' h n h0.symm hne'
  refine List.ext_getElem? fun k => ?_
  rcases Nat.lt_or_ge k R.length with hk | hk
  · exact cyc_upto h h' h0 k hk (by omega)
  · rw [List.getElem?_eq_none hk, List.getElem?_eq_none (by omega)]
/-- the way into a corner that nothing lies ahead of -/
theorem top_in {S : Pix} {p c : Crn} (h : Leg S p c) (hp : ¬ aheadP p c) : (p.2.2 = 2 ∨ p.2.2 = 3) ∧ inB' S p.2.2 c.1 c.2.1 = true := by
  obtain ⟨⟨s1, u1⟩, _, _⟩ := h
  refine ⟨?_, in_to s1 u1⟩
  unfold aheadP at hp
  unfold shapeE at s1
  dsimp only [legE] at s1
  omega
theorem in23 : ∀ nw ne sw se, ∀ d e, d = 2 ∨ d = 3 → e = 2 ∨ e = 3 → inQ nw ne sw se d = true → inQ nw ne sw se e = true → d = e := by
  intro nw ne sw se d e hd he
  rcases hd with rfl | rfl <;> rcases he with rfl | rfl <;> revert nw ne sw se <;> decide
theorem top_eq {S : Pix} {p c p' c' : Crn} (h : Leg S p c) (h' : Leg S p' c') (hp : ¬ aheadP p c) (hp' : ¬ aheadP p' c') (h1 : c.1 = c'.1) (h2 : c.2.1 = c'.2.1) : c = c' := by
  obtain ⟨a1, a2⟩ := top_in h hp
  obtain ⟨b1, b2⟩ := top_in h' hp'
  rw [← h1, ← h2] at b2
  have e := in23 _ _ _ _ _ _ a1 b1 a2 b2
  have e1 := h.2.1
  have e2 := h'.2.1
  rw [← h1, ← h2, ← e, ← e1] at e2
  obtain ⟨x, y, d⟩ := c
  obtain ⟨x', y', d'⟩ := c'
  dsimp only at *
  rw [h1, h2, e2]
structure RingOf (S : Pix) (R : List Crn) : Prop where
  ne : R ≠ []
  cyc : CycR S R
  nodup : R.Nodup
  least : ∀ c ∈ R, ∀ f, R[0]? = some f → ¬ aheadP c f
theorem rot_mem {α : Type} {t : Nat} {R : List α} {x : α} : x ∈ rot t R ↔ x ∈ R := by
  unfold rot
  conv => rhs; rw [← List.take_append_drop t R]
  rw [List.mem_append, List.mem_append]
  exact or_comm
theorem rot_nodup {α : Type} {t : Nat} {R : List α} (h : R.Nodup) : (rot t R).Nodup := by
  unfold rot
  rw [← List.take_append_drop t R] at h
  have := List.nodup_append.1 h
  exact List.nodup_append.2 ⟨this.2.1, this.1, fun a ha b hb e => this.2.2 b hb a ha e.symm⟩
theorem rot_start {S : Pix} {R : List Crn} (h : CycR S R) (hn : R.Nodup) {c : Crn} (hc : c ∈ R) : ∃ t, t < R.length ∧ CycR S (rot t R) ∧ (rot t R).Nodup ∧ (rot t R)[0]? = some c := by
  obtain ⟨t, ht⟩ := List.mem_iff_getElem?.1 hc
  have hl := (List.getElem?_eq_some_iff.1 ht).1
  refine ⟨t, hl, h.rot hl, rot_nodup hn, ?_⟩
  rw [rot_get hl (by omega), Nat.zero_add, Nat.mod_eq_of_lt hl]
  exact ht
theorem RingOf.head {S : Pix} {R : List Crn} (h : RingOf S R) : ∃ f, R[0]? = some f ∧ f ∈ R := by
  have hpos : 0 < R.length := List.length_pos_iff.2 h.ne
  exact ⟨_, List.getElem?_eq_getElem hpos, List.getElem_mem hpos⟩
theorem RingOf.same {S : Pix} {R R' : List Crn} (h : RingOf S R) (h' : RingOf S R') {c : Crn} (hc : c ∈ R) (hc' : c ∈ R') : R = R' := by
  obtain ⟨t, t1, t2, t3, t4⟩ := rot_start h.cyc h.nodup hc
  obtain ⟨s, s1, s2, s3, s4⟩ := rot_start h'.cyc h'.nodup hc'
  have ne1 : rot t R ≠ [] := fun e => by rw [e] at t4; cases t4
  have ne2 : rot s R' ≠ [] := fun e => by rw [e] at s4; cases s4
  have e := cyc_same t2 s2 t3 s3 ne1 ne2 (t4.trans s4.symm)
  have hm : ∀ x, x ∈ R ↔ x ∈ R' := fun x => by rw [← rot_mem (t := t), e, rot_mem]
  obtain ⟨f, f1, f2⟩ := h.head
  obtain ⟨g, g1, g2⟩ := h'.head
  have a1 := h.least g ((hm g).2 g2) f f1
  have a2 := h'.least f ((hm f).1 f2) g g1
  obtain ⟨p, p1, p2⟩ := h.cyc.prev f1
  obtain ⟨q, q1, q2⟩ := h'.cyc.prev g1
  have b1 := h.least p p1 f f1
  have b2 := h'.least q q1 g g1
  have hxy : f.1 = g.1 ∧ f.2.1 = g.2.1 := by unfold aheadP at a1 a2; omega
  have e2 := top_eq p2 q2 b1 b2 hxy.1 hxy.2
  exact cyc_same h.cyc h'.cyc h.nodup h'.nodup h.ne h'.ne (by rw [f1, g1, e2])
def Corner (S : Pix) (c : Crn) : Prop := ∃ e, e < 4 ∧ inB' S e c.1 c.2.1 = true ∧ c.2.2 = turnS S e c.1 c.2.1 ∧ c.2.2 ≠ e
theorem Leg.corner {S : Pix} {p c : Crn} (h : Leg S p c) : Corner S c := by
  obtain ⟨⟨s1, u1⟩, t, n⟩ := h
  exact ⟨_, shape_dir s1, in_to s1 u1, t, n⟩
abbrev hd0 (R : List Crn) : Crn := R.headD (0, 0, 0)
structure OutOf (S : Pix) (O : List (List Crn)) : Prop where
  ring : ∀ R ∈ O, RingOf S R
  sorted : O.Pairwise fun R Q => aheadP (hd0 R) (hd0 Q)
  all : ∀ c, Corner S c → ∃ R ∈ O, c ∈ R
theorem eq_of_members {α : Type} {r : α → α → Prop} (irr : ∀ a, ¬ r a a) (asym : ∀ a b, r a b → ¬ r b a) : ∀ (l l' : List α), l.Pairwise r → l'.Pairwise r → (∀ x, x ∈ l ↔ x ∈ l') → l = l' := by
  intro l
  induction l with
  | nil =>
    intro l' _ _ h
    cases l' with
    | nil => rfl
    | cons b l' => exact absurd ((h b).2 List.mem_cons_self) List.not_mem_nil
  | cons a l ih =>
    intro l' h1 h2 h
    cases l' with
    | nil => exact absurd ((h a).1 List.mem_cons_self) List.not_mem_nil
    | cons b l' =>
      obtain ⟨a1, a2⟩ := List.pairwise_cons.1 h1
      obtain ⟨b1, b2⟩ := List.pairwise_cons.1 h2
      have hab : a = b := by
        rcases List.mem_cons.1 ((h a).1 List.mem_cons_self) with e | e
        · exact e
        · rcases List.mem_cons.1 ((h b).2 List.mem_cons_self) with e' | e'
          · exact e'.symm
          · exact absurd (a1 b e') (asym _ _ (b1 a e))
      subst hab
      congr 1
      refine ih l' a2 b2 fun x => ⟨fun hx => ?_, fun hx => ?_⟩
      · rcases List.mem_cons.1 ((h x).1 (List.mem_cons_of_mem _ hx)) with e | e
        · subst e; exact absurd (a1 x hx) (irr x)
        · exact e
      · rcases List.mem_cons.1 ((h x).2 (List.mem_cons_of_mem _ hx)) with e | e
        · subst e; exact absurd (b1 x hx) (irr x)
        · exact e
theorem OutOf.uniq {S : Pix} {O O' : List (List Crn)} (h : OutOf S O) (h' : OutOf S O') : O = O' := by
  have sub : ∀ {O O' : List (List Crn)}, OutOf S O → OutOf S O' → ∀ R ∈ O, R ∈ O' := by
    intro O O' h h' R hR
    have hr := h.ring R hR
    obtain ⟨f, f1, f2⟩ := hr.head
    obtain ⟨p, _, p2⟩ := hr.cyc.prev f1
    obtain ⟨R', r1, r2⟩ := h'.all f p2.corner
    have e := hr.same (h'.ring R' r1) f2 r2
    exact e ▸ r1
  exact eq_of_members (r := fun R Q => aheadP (hd0 R) (hd0 Q)) (fun a h => by unfold aheadP at h; omega) (fun a b h h' => by unfold aheadP at h h'; omega) O O' h.sorted h'.sorted fun R => ⟨sub h h' R, sub h' h R⟩
/-- two rings of one set that begin at the same point are one ring -/
theorem RingOf.first {S : Pix} {R R' : List Crn} (h : RingOf S R) (h' : RingOf S R') (h1 : (hd0 R).1 = (hd0 R').1) (h2 : (hd0 R).2.1 = (hd0 R').2.1) : R = R' := by
  obtain ⟨f, f1, f2⟩ := h.head
  obtain ⟨g, g1, g2⟩ := h'.head
  have ef : hd0 R = f := by cases R with | nil => cases f1 | cons a l => simpa using f1
  have eg : hd0 R' = g := by cases R' with | nil => cases g1 | cons a l => simpa using g1
  obtain ⟨p, p1, p2⟩ := h.cyc.prev f1
  obtain ⟨q, q1, q2⟩ := h'.cyc.prev g1
  rw [ef, eg] at h1 h2
  have e := top_eq p2 q2 (h.least p p1 f f1) (h'.least q q1 g g1) h1 h2
  exact h.same h' f2 (e ▸ g2)
end Go.Reg

/- Outlines: the cycles of a set's boundary give its rings. Plain law: no program stands here. -/
set_option linter.unusedVariables false
set_option linter.unusedSimpArgs false
namespace Go.Reg
open Go.Proofs.YtkjpcjmbhpfelaaGreat

/-- c are the pieces with the numbers q -/
def EdgesAt (E : List Edg) (q : List Nat) (c : List Edg) : Prop := c.length = q.length ∧ ∀ (k i : Nat), q[k]? = some i → ∃ e, E[i]? = some e ∧ c[k]? = some e
theorem EdgesAt.nil (E : List Edg) : EdgesAt E [] [] := ⟨rfl, fun k i h => by simp at h⟩
theorem EdgesAt.snoc {E : List Edg} {q : List Nat} {c : List Edg} (h : EdgesAt E q c) {i : Nat} {e : Edg} (he : E[i]? = some e) : EdgesAt E (q ++ [i]) (c ++ [e]) := by
  refine ⟨by rw [List.length_append, List.length_append, h.1]; rfl, fun k j hk => ?_⟩
  rcases Nat.lt_or_ge k q.length with hlt | hge
  · rw [List.getElem?_append_left hlt] at hk
    obtain ⟨f, f1, f2⟩ := h.2 k j hk
    exact ⟨f, f1, by rw [List.getElem?_append_left (by rw [h.1]; exact hlt)]; exact f2⟩
  · rw [List.getElem?_append_right hge] at hk
    have hk1 : k - q.length = 0 := by have := (List.getElem?_eq_some_iff.1 hk).1; simp at this; omega
    rw [hk1] at hk
    simp at hk
    subst hk
    exact ⟨e, he, by rw [List.getElem?_append_right (by rw [h.1]; exact hge), h.1, hk1]; rfl⟩
theorem EdgesAt.back {E : List Edg} {q : List Nat} {c : List Edg} (h : EdgesAt E q c) {k : Nat} {e : Edg} (he : c[k]? = some e) : ∃ i, q[k]? = some i ∧ E[i]? = some e := by
  have hl := (List.getElem?_eq_some_iff.1 he).1
  rw [h.1] at hl
  have hi := List.getElem?_eq_getElem hl
  obtain ⟨f, f1, f2⟩ := h.2 k _ hi
  rw [he] at f2
  injection f2 with f2
  subst f2
  exact ⟨_, hi, f1⟩
def linkE (S : Pix) (e f : Edg) : Prop := f.1 = e.2.2.1 ∧ f.2.1 = e.2.2.2.1 ∧ f.2.2.2.2 = turnS S e.2.2.2.2 e.2.2.1 e.2.2.2.1
theorem path_of {S : Pix} : ∀ (c : List Edg) (x y : Int) (d : Nat), (∀ e, c[0]? = some e → e.1 = x ∧ e.2.1 = y ∧ e.2.2.2.2 = turnS S d x y) → (∀ e ∈ c, shapeE e ∧ unitE S e) →
    (∀ (k : Nat) (e f : Edg), c[k]? = some e → c[k + 1]? = some f → linkE S e f) → Path S x y d c := by
  intro c
  induction c with
  | nil => intros; trivial
  | cons e l ih =>
    intro x y d h0 h1 h2
    obtain ⟨a1, a2, a3⟩ := h0 e rfl
    obtain ⟨b1, b2⟩ := h1 e List.mem_cons_self
    refine ⟨a1, a2, a3, b1, b2, ih _ _ _ (fun f hf => h2 0 e f rfl (by simpa using hf)) (fun f hf => h1 f (List.mem_cons_of_mem _ hf)) fun k f g hf hg => h2 (k + 1) f g (by simpa using hf) (by simpa using hg)⟩
theorem pend_to : ∀ (l : List Edg) (x y : Int) (d : Nat) (e g : Edg), (e :: l).getLast? = some g → (pend x y d (e :: l)) = (g.2.2.1, g.2.2.2.1, g.2.2.2.2) := by
  intro l
  induction l with
  | nil => intro x y d e g h; simp at h; subst h; rfl
  | cons f l ih =>
    intro x y d e g h
    unfold pend
    exact ih _ _ _ f g (by rw [List.getLast?_cons_cons] at h; exact h)
theorem closed_of {S : Pix} {c : List Edg} (hne : c ≠ []) (h1 : ∀ e ∈ c, shapeE e ∧ unitE S e) (h2 : ∀ (k : Nat) (e f : Edg), c[k]? = some e → c[k + 1]? = some f → linkE S e f)
    (h3 : ∀ e f, c.getLast? = some e → c[0]? = some f → linkE S e f) : Closed S c := by
  cases c with
  | nil => exact absurd rfl hne
  | cons e l =>
    obtain ⟨g, hg⟩ : ∃ g, (e :: l).getLast? = some g := ⟨_, List.getLast?_eq_some_getLast (by simp)⟩
    obtain ⟨k1, k2, k3⟩ := h3 g e hg rfl
    have hp := pend_to l e.1 e.2.1 0 e g hg
    refine ⟨e, l, rfl, ?_, by rw [hp]; exact k1.symm, by rw [hp]; exact k2.symm⟩
    refine path_of _ _ _ _ (fun f hf => ?_) h1 h2
    simp at hf
    subst hf
    refine ⟨rfl, rfl, ?_⟩
    rw [hp]
    dsimp only
    rw [k3, ← k1, ← k2]
theorem cyc_closed {S : Pix} {E : List Edg} (h : EdgeSys S E) {q : List Nat} {c : List Edg} (hc : Cyc (NextE S E) q) (he : EdgesAt E q c) : Closed S c ∧ ∀ e f, c.getLast? = some e → c[0]? = some f → linkE S e f := by
  have hlink : ∀ {i j : Nat} {e f : Edg}, E[i]? = some e → E[j]? = some f → NextE S E i j → linkE S e f := by
    rintro i j e f hi hj ⟨e', f', a1, a2, a3, a4, a5⟩
    rw [hi] at a1; injection a1 with a1; subst a1
    rw [hj] at a2; injection a2 with a2; subst a2
    exact ⟨a3, a4, a5⟩
  have hpos : 0 < q.length := List.length_pos_iff.2 hc.1
  have last : ∀ e f, c.getLast? = some e → c[0]? = some f → linkE S e f := fun e f h1 h2 => by
    rw [List.getLast?_eq_getElem?] at h1
    obtain ⟨i, i1, i2⟩ := he.back h1
    obtain ⟨j, j1, j2⟩ := he.back h2
    refine hlink i2 j2 (hc.2.2 i j ?_ ?_)
    · rw [List.getLast?_eq_getElem?, ← he.1]; exact i1
    · rw [List.head?_eq_getElem?]; exact j1
  refine ⟨closed_of (fun e => ?_) (fun e hm => ?_) (fun k e f h1 h2 => ?_) last, last⟩
  · have := he.1; rw [e] at this; simp at this; omega
  · obtain ⟨k, hk⟩ := List.mem_iff_getElem?.1 hm
    obtain ⟨i, _, hi⟩ := he.back hk
    have := List.mem_of_getElem? hi
    exact ⟨h.shape e this, h.unit e this⟩
  · obtain ⟨i, i1, i2⟩ := he.back h1
    obtain ⟨j, j1, j2⟩ := he.back h2
    exact hlink i2 j2 (hc.2.1 k i j i1 j1)
def startC (e : Edg) : Crn := (e.1, e.2.1, e.2.2.2.2)
theorem corn_sub : ∀ (c : List Edg) (d : Nat), (corn d c).Sublist (c.map startC) := by
  intro c
  induction c with
  | nil => intro d; exact List.Sublist.refl _
  | cons e l ih =>
    intro d
    unfold corn
    split
    · exact (ih d).cons _
    · exact (ih _).cons_cons _
theorem corn_mem : ∀ (c : List Edg) (d k : Nat) (f : Edg), c[k]? = some f → (k = 0 → d ≠ f.2.2.2.2) → (∀ t e, k = t + 1 → c[t]? = some e → e.2.2.2.2 ≠ f.2.2.2.2) → startC f ∈ corn d c := by
  intro c
  induction c with
  | nil => intro d k f h; simp at h
  | cons e l ih =>
    intro d k f h h0 h1
    unfold corn
    cases k with
    | zero =>
      simp at h
      subst h
      rw [if_neg (h0 rfl)]
      exact List.mem_cons_self
    | succ k =>
      have hf : l[k]? = some f := by simpa using h
      have go : ∀ d', (k = 0 → d' = e.2.2.2.2) → startC f ∈ corn d' l := fun d' hd' => ih d' k f hf (fun hk => by rw [hd' hk]; exact h1 k e rfl (by rw [hk]; rfl)) fun t e' ht he' => h1 (t + 1) e' (by rw [ht]) (by simpa using he')
      split
      · rename_i hd; exact go d fun _ => hd
      · exact List.mem_cons_of_mem _ (go _ fun _ => rfl)
theorem corn_nodup {S : Pix} {E : List Edg} (h : EdgeSys S E) {q : List Nat} {c : List Edg} (he : EdgesAt E q c) (hn : q.Nodup) (d : Nat) : (corn d c).Nodup := by
  refine (corn_sub c d).nodup ?_
  rw [List.nodup_iff_pairwise_ne, List.pairwise_map, List.pairwise_iff_getElem]
  intro i j hi hj hlt e
  obtain ⟨a, a1, a2⟩ := he.back (List.getElem?_eq_getElem hi)
  obtain ⟨b, b1, b2⟩ := he.back (List.getElem?_eq_getElem hj)
  unfold startC at e
  simp only [Prod.mk.injEq] at e
  have := h.start a2 b2 e.1 e.2.1 e.2.2
  subst this
  obtain ⟨m1, m2⟩ := List.getElem?_eq_some_iff.1 a1
  obtain ⟨m3, m4⟩ := List.getElem?_eq_some_iff.1 b1
  have := (List.getElem_inj (h₀ := m1) (h₁ := m3) hn).1 (m2.trans m4.symm)
  omega
/-- R is the ring of the cycle q -/
def RingAt (E : List Edg) (q : List Nat) (R : List Crn) : Prop := ∃ c t, EdgesAt E q c ∧ t < (corn (lastD c) c).length ∧ R = rot t (corn (lastD c) c) ∧ ∀ x ∈ R, ∀ f, R[0]? = some f → ¬ aheadP x f
theorem RingAt.ring {S : Pix} {E : List Edg} (h : EdgeSys S E) {q : List Nat} {R : List Crn} (hc : Cyc (NextE S E) q) (hn : q.Nodup) (hr : RingAt E q R) : RingOf S R := by
  obtain ⟨c, t, h1, h2, rfl, h3⟩ := hr
  obtain ⟨k0, K, e1, e2, e3, _⟩ := closed_ring (cyc_closed h hc h1).1
  refine ⟨fun e => ?_, ?_, rot_nodup (corn_nodup h h1 hn _), h3⟩
  · have := rot_length (Nat.le_of_lt h2)
    rw [e] at this
    simp at this
    rw [← this] at h2
    simp at h2
  · exact CycR.rot (by rw [e1]; exact cycR_of e2 e3) h2
theorem RingAt.mem {E : List Edg} {q : List Nat} {R : List Crn} (hr : RingAt E q R) {x : Crn} (hx : x ∈ R) : ∃ (i : Nat) (e : Edg), i ∈ q ∧ E[i]? = some e ∧ x = startC e := by
  obtain ⟨c, t, h1, h2, rfl, h3⟩ := hr
  rw [rot_mem] at hx
  obtain ⟨e, e1, e2⟩ := List.mem_map.1 ((corn_sub c _).subset hx)
  obtain ⟨k, hk⟩ := List.mem_iff_getElem?.1 e1
  obtain ⟨i, i1, i2⟩ := h1.back hk
  exact ⟨i, e, List.mem_of_getElem? i1, i2, e2.symm⟩
theorem lastD_of {c : List Edg} {g : Edg} (h : c.getLast? = some g) : lastD c = g.2.2.2.2 := by unfold lastD; rw [h]
theorem RingAt.corner {S : Pix} {E : List Edg} (h : EdgeSys S E) {q : List Nat} {R : List Crn} (hc : Cyc (NextE S E) q) (hr : RingAt E q R) {x : Crn} (hx : Corner S x) {j : Nat} {f : Edg} (hj : j ∈ q) (hf : E[j]? = some f) (hs : startC f = x) : x ∈ R := by
  obtain ⟨c, t, h1, h2, rfl, h3⟩ := hr
  obtain ⟨hcl, hla⟩ := cyc_closed h hc h1
  rw [rot_mem, ← hs]
  obtain ⟨k, hk⟩ := List.mem_iff_getElem?.1 hj
  obtain ⟨f', k1, k2⟩ := h1.2 k j hk
  rw [hf] at k1; injection k1 with k1; subst k1
  obtain ⟨d, x1, x2, x3, x4⟩ := hx
  rw [← hs] at x2 x3 x4
  dsimp only [startC] at x2 x3 x4
  have key : ∀ {e : Edg}, shapeE e → unitE S e → linkE S e f → e.2.2.2.2 ≠ f.2.2.2.2 := by
    intro e s1 u1 ⟨l1, l2, l3⟩ hd
    have i1 := in_to s1 u1
    rw [← l1, ← l2] at i1 l3
    have := turnQ_inj _ _ _ _ _ x1 _ (shape_dir s1) x2 i1 (x3.symm.trans l3)
    exact x4 (hd.symm.trans this.symm)
  have sh : ∀ {k : Nat} {e : Edg}, c[k]? = some e → shapeE e ∧ unitE S e := fun hk => by
    obtain ⟨i, _, hi⟩ := h1.back hk
    have := List.mem_of_getElem? hi
    exact ⟨h.shape _ this, h.unit _ this⟩
  have lk : ∀ (k : Nat) (e f : Edg), c[k]? = some e → c[k + 1]? = some f → linkE S e f := fun k e f h1' h2' => by
    obtain ⟨i, i1, i2⟩ := h1.back h1'
    obtain ⟨j, j1, j2⟩ := h1.back h2'
    obtain ⟨e', f', a1, a2, a3, a4, a5⟩ := hc.2.1 k i j i1 j1
    rw [i2] at a1; injection a1 with a1; subst a1
    rw [j2] at a2; injection a2 with a2; subst a2
    exact ⟨a3, a4, a5⟩
  refine corn_mem c _ k f k2 (fun e0 => ?_) fun t e ht he => ?_
  · subst e0
    have hne : c ≠ [] := fun e => by rw [e] at k2; simp at k2
    obtain ⟨g, hg⟩ : ∃ g, c.getLast? = some g := ⟨_, List.getLast?_eq_some_getLast hne⟩
    rw [lastD_of hg]
    have hg' := hg
    rw [List.getLast?_eq_getElem?] at hg'
    obtain ⟨s1, u1⟩ := sh hg'
    exact key s1 u1 (hla g f hg k2)
  · subst ht
    obtain ⟨s1, u1⟩ := sh he
    exact key s1 u1 (lk t e f he k2)
theorem corner_edge {S : Pix} {E : List Edg} (h : EdgeSys S E) {x : Crn} (hx : Corner S x) : ∃ (j : Nat) (f : Edg), E[j]? = some f ∧ startC f = x := by
  obtain ⟨d, x1, x2, x3, x4⟩ := hx
  obtain ⟨t1, t2, t3⟩ := turnQ_out _ _ _ _ _ x1 x2
  have ho : outB S x.2.2 x.1 x.2.1 = true := by rw [x3]; exact t1
  have h4 : x.2.2 < 4 := by rw [x3]; exact t3
  obtain ⟨j, f, hj, hc⟩ := h.cover _ x.1 x.2.1 h4 ho
  refine ⟨j, f, hj, ?_⟩
  by_cases hf : x.1 = f.1 ∧ x.2.1 = f.2.1
  · obtain ⟨a, b, e⟩ := x
    have hd := hc.1
    dsimp only at hf hd
    unfold startC
    rw [← hf.1, ← hf.2, hd]
  · exfalso
    have hin := inCov_in (h.unit f (List.mem_of_getElem? hj)) (inCov_of hc hf)
    exact x4 (turnQ_str2 _ _ _ _ _ h4 _ x1 hin ho x2).symm
/-- what the rings of all cycles are, put in order -/
theorem out_of {S : Pix} {E : List Edg} (h : EdgeSys S E) {cs : List (List Nat)} {Rs O : List (List Crn)} (hc : ∀ q ∈ cs, Cyc (NextE S E) q) (hn : cs.flatten.Nodup) (hall : ∀ j, j < E.length → j ∈ cs.flatten)
    (hlen : Rs.length = cs.length) (hR : ∀ (k : Nat) (q : List Nat), cs[k]? = some q → ∃ R, Rs[k]? = some R ∧ RingAt E q R) (hp : O.Perm Rs) (hs : O.Pairwise fun R Q => ¬ aheadP (hd0 Q) (hd0 R)) : OutOf S O := by
  have hnd : ∀ q ∈ cs, q.Nodup := fun q hq => (List.pairwise_flatten.1 hn).1 q hq
  have back : ∀ {k : Nat} {R : List Crn}, Rs[k]? = some R → ∃ q, cs[k]? = some q ∧ RingAt E q R := fun {k R} hk => by
    have hl := (List.getElem?_eq_some_iff.1 hk).1
    rw [hlen] at hl
    obtain ⟨R', r1, r2⟩ := hR k _ (List.getElem?_eq_getElem hl)
    rw [hk] at r1; injection r1 with r1; subst r1
    exact ⟨_, List.getElem?_eq_getElem hl, r2⟩
  have ring : ∀ R ∈ Rs, RingOf S R := fun R hR' => by
    obtain ⟨k, hk⟩ := List.mem_iff_getElem?.1 hR'
    obtain ⟨q, q1, q2⟩ := back hk
    exact q2.ring h (hc q (List.mem_of_getElem? q1)) (hnd q (List.mem_of_getElem? q1))
  have hnod : Rs.Nodup := by
    rw [List.nodup_iff_pairwise_ne, List.pairwise_iff_getElem]
    intro i j hi hj hlt e
    obtain ⟨q, q1, q2⟩ := back (List.getElem?_eq_getElem hi)
    obtain ⟨q', q1', q2'⟩ := back (List.getElem?_eq_getElem hj)
    rw [← e] at q2'
    obtain ⟨f, f1, f2⟩ := (ring _ (List.getElem_mem hi)).head
    obtain ⟨a, ea, a1, a2, a3⟩ := q2.mem f2
    obtain ⟨b, eb, b1, b2, b3⟩ := q2'.mem f2
    rw [a3] at b3
    unfold startC at b3
    simp only [Prod.mk.injEq] at b3
    have := h.start a2 b2 b3.1 b3.2.1 b3.2.2
    subst this
    have hd := (List.pairwise_flatten.1 hn).2
    obtain ⟨m1, m2⟩ := List.getElem?_eq_some_iff.1 q1
    obtain ⟨m3, m4⟩ := List.getElem?_eq_some_iff.1 q1'
    have := List.pairwise_iff_getElem.1 hd i j m1 m3 hlt
    rw [m2, m4] at this
    exact this _ a1 _ b1 rfl
  have ringO : ∀ R ∈ O, RingOf S R := fun R hR' => ring R (hp.subset hR')
  refine ⟨ringO, ?_, fun x hx => ?_⟩
  · have hno := hp.nodup_iff.2 hnod
    rw [List.nodup_iff_pairwise_ne] at hno
    refine List.Pairwise.imp_of_mem (fun {R Q} hR' hQ hRQ => ?_) (List.Pairwise.and hs hno)
    obtain ⟨k1, k2⟩ := hRQ
    by_cases hk : aheadP (hd0 R) (hd0 Q)
    · exact hk
    · refine absurd ((ringO R hR').first (ringO Q hQ) ?_ ?_) k2
      · unfold aheadP at k1 hk; omega
      · unfold aheadP at k1 hk; omega
  · obtain ⟨j, f, hj, hs'⟩ := corner_edge h hx
    obtain ⟨q, q1, q2⟩ := List.mem_flatten.1 (hall j (List.getElem?_eq_some_iff.1 hj).1)
    obtain ⟨k, hk⟩ := List.mem_iff_getElem?.1 q1
    obtain ⟨R, r1, r2⟩ := hR k q hk
    exact ⟨R, hp.symm.subset (List.mem_of_getElem? r1), r2.corner h (hc q q1) hx q2 hj hs'⟩
end Go.Reg

/- Outlines of the program: the edge that follows. -/
set_option linter.unusedVariables false
set_option linter.unusedSimpArgs false
namespace Go.Proofs.YtkjpcjmbhpfelaaGreat
open Go.RowKit Go.Par Go.Reg Go.Maps

theorem edg_cell {w : World} {b o : Nat} {l : List Edg} (h : edgE.At w (some ⟨b, o, none⟩) l) {k : Nat} {e : Edg} (hk : l[k]? = some e) :
    w.cell? ⟨b, o + k * 5, none⟩ = some (.int .i64 e.1) ∧ w.cell? ⟨b, o + k * 5 + 1, none⟩ = some (.int .i64 e.2.1) ∧ w.cell? ⟨b, o + k * 5 + 2, none⟩ = some (.int .i64 e.2.2.1) ∧
    w.cell? ⟨b, o + k * 5 + 3, none⟩ = some (.int .i64 e.2.2.2.1) ∧ w.cell? ⟨b, o + k * 5 + 4, none⟩ = some (.int .i64 (e.2.2.2.2 : Int)) :=
  ⟨h.cellAt (j := 0) hk rfl, h.cellAt (j := 1) hk rfl, h.cellAt (j := 2) hk rfl, h.cellAt (j := 3) hk rfl, h.cellAt (j := 4) hk rfl⟩
/-- the numbers of the edges that begin at (x, y) -/
def StartsAt (E : List Edg) (x y : Int) (ns : List Int) : Prop := ∀ v, v ∈ ns ↔ ∃ (j : Nat) (f : Edg), v = (j : Int) ∧ E[j]? = some f ∧ f.1 = x ∧ f.2.1 = y
set_option maxRecDepth 100000 in
set_option maxHeartbeats 3200000 in
theorem successor_any (S : Pix) (E : List Edg) (A : Option Addr) (n c b i : Nat) (x y x' y' : Int) (d : Nat) (ns : List Int) (A2 : Option Addr) (m c2 : Nat) (w : World) (hS : EdgeSys S E) (hn : E.length = n) (hb : n ≤ 10000000) (hA : edgE.At w A E)
    (hi : E[i]? = some (x, y, x', y', d)) (hns : StartsAt E x' y' ns) (hm : ns.length = m) (hmb : m ≤ 10000000) (hA2 : intE.At w A2 ns)
    (hlk : ∀ W, Ext w W → (Instr.lookup 40 (.map (some b)) (.agg #[.int .i64 x', .int .i64 y']) false).run Tryz.prog W = .ok (.slice A2 m c2) W) :
    Calls Tryz.prog 15 #[.agg #[.int .i64 x, .int .i64 y, .int .i64 x', .int .i64 y', .int .i64 (d : Int)], .slice A n c, .map (some b)] w fun e w' => ∃ j : Nat, e = .returned (.int .i64 (j : Int)) ∧ Ext w w' ∧ NextE S E i j := by
  have hd := shape_dir (hS.shape _ (List.mem_of_getElem? hi))
  dsimp only at hd
  obtain ⟨D, hD⟩ : ∃ D, (d + 1) % 4 = D := ⟨_, rfl⟩
  have hDb : D < 4 := by rw [← hD]; exact Nat.mod_lt _ (by omega)
  have q1 : IntKind.i64.wrap ((d : Int) + 1) = (d : Int) + 1 := IntWalk.i64_in _ (by omega)
  have q2 : ((d : Int) + 1).tmod 4 = (D : Int) := by rw [← hD]; exact tmod_cast d 4
  have q3 : ((d : Int) + 1) % 4 = (D : Int) := by rw [← hD]; exact emod_cast d 4
  have HD := Lib.hid hD
  have HN := Lib.hid hn
  have HM := Lib.hid hm
  have HNS := Lib.hid hns
  have HS := Lib.hid hS
  have HI := Lib.hid hi
  have HLK := Lib.hid hlk
  have hE0 := Ext.alloc w (.cells #[.int .i64 x, .int .i64 y, .int .i64 x', .int .i64 y', .int .i64 (d : Int)] 44)
  have b3 := Box.new w 44 #[.int .i64 x, .int .i64 y, .int .i64 x', .int .i64 y', .int .i64 (d : Int)]
  have c3 := b3.cell
  have hl := HLK.out _ hE0
  obtain ⟨B3, hB3⟩ : ∃ B3, w.heap.size = B3 := ⟨_, rfl⟩
  rw [hB3] at b3 c3
  clear hD hd hn hm hns hS hi hlk
  go_enter Tryz.func15, Tryz.ntmps15
  go_wp2_with fail
  clear hl c3
  generalize hw1 : World.alloc _ _ = w1 at *
  clear hw1 hB3
  go_loopw [16] (fun i wr => ∃ k : Nat, k ≤ m ∧ i = .int .i64 k ∧ Ext w wr ∧ Box wr B3 44 #[.int .i64 x, .int .i64 y, .int .i64 x', .int .i64 y', .int .i64 (d : Int)] ∧ Hid (∀ (t j : Nat) (f : Edg), t < k → ns[t]? = some (j : Int) → E[j]? = some f → f.2.2.2.2 ≠ D)) (fun i _ => m - (intOf i).toNat)
  case atStart => exact ⟨0, Nat.zero_le _, rfl, hE0, b3, Lib.hid (fun t j f h => by omega)⟩
  case round =>
    clear hE0 b3
    obtain ⟨k, hk, rfl, hE, b3, HK⟩ := hrel
    by_cases hlt : k < m
    · have dk : ((k : Int) < (m : Int)) = True := eq_true (by omega)
      obtain ⟨v, hv⟩ : ∃ v, ns[k]? = some v := ⟨_, List.getElem?_eq_getElem (by rw [HM.out]; exact hlt)⟩
      obtain ⟨j, ⟨a, b', a', b'', g⟩, rfl, hj, hf1, hf2⟩ := (HNS.out v).1 (List.mem_of_getElem? hv)
      have hjn : j < n := by rw [← HN.out]; exact (List.getElem?_eq_some_iff.1 hj).1
      obtain ⟨bA, oA, rfl⟩ := hA.addr hj
      obtain ⟨b2, o2, rfl⟩ := hA2.addr hv
      have e0 := hE.cell (int_cell hA2 hv)
      have e4 := hE.cell (edg_cell hA hj).2.2.2.2
      dsimp only at e4 hf1 hf2
      have c3 := b3.cell
      have HV := Lib.hid hv
      have HJ := Lib.hid hj
      have HF := Lib.hid (And.intro hf1 hf2)
      have g1 : (0 : Int) ≤ (j : Int) := by omega
      have g2 : (j : Int) < (n : Int) := by omega
      clear hv hj hf1 hf2
      by_cases hg : g = D
      · subst hg
        have HX := Lib.hid (HS.out.choice HI.out HJ.out HF.out.1 HF.out.2 (.inl HD.out.symm))
        have d1 : ((g : Int) == (g : Int)) = true := by simp
        go_wp2_with fail
        go_quiet (fail)
        go_wp2
        go_ret
        exact ⟨j, rfl, hE.drewN _, HX.out⟩
      · have d1 : ((g : Int) == (D : Int)) = false := by simp; omega
        have d2 : ((g : Int) = (D : Int)) = False := eq_false (by omega)
        have d3 : (g = D) = False := eq_false hg
        have HG := Lib.hid hg
        clear hg
        go_wp2_with fail
        go_quiet (fail)
        go_wp2
        go_roundw
        case rel => exact ⟨k + 1, by omega, by go_num, hE.drewN _, b3.ext ((Ext.refl _).drewN _), Lib.hid (fun t j' f h1 h2 h3 => by
          by_cases e : t = k
          · subst e
            rw [HV.out] at h2
            injection h2 with h2
            have : j = j' := by omega
            subst this
            rw [HJ.out] at h3
            injection h3 with h3
            subst h3
            exact HG.out
          · exact HK.out t j' f (by omega) h2 h3)⟩
        case measure => simp [intOf]; omega
    · have dk : ((k : Int) < (m : Int)) = False := eq_false (by omega)
      have hne : ns ≠ [] := fun e => by
        obtain ⟨j, ej, f, h1, h2, h3, h4, _⟩ := HS.out.next HI.out
        rw [HI.out] at h1
        injection h1 with h1
        subst h1
        have := (HNS.out _).2 ⟨j, f, rfl, h2, h3, h4⟩
        rw [e] at this
        cases this
      have hm0 : 0 < m := by rw [← HM.out]; exact List.length_pos_iff.2 hne
      obtain ⟨v, hv⟩ : ∃ v, ns[0]? = some v := ⟨_, List.getElem?_eq_getElem (by rw [HM.out]; exact hm0)⟩
      obtain ⟨j, f, rfl, hj, hf1, hf2⟩ := (HNS.out v).1 (List.mem_of_getElem? hv)
      have HX := Lib.hid (HS.out.choice HI.out hj hf1 hf2 (.inr (fun k' g' h1 h2 h3 h4 => by
        dsimp only at h2 h3 h4
        obtain ⟨t, ht⟩ := List.mem_iff_getElem?.1 ((HNS.out (k' : Int)).2 ⟨k', g', rfl, h1, h2, h3⟩)
        have hl := (List.getElem?_eq_some_iff.1 ht).1
        rw [HM.out] at hl
        exact HK.out t k' g' (by omega) ht h1 (h4.trans HD.out))))
      obtain ⟨b2, o2, rfl⟩ := hA2.addr hv
      have e0 := hE.cell (int_cell hA2 hv)
      rw [Nat.add_zero] at e0
      have p0 : ((0 : Int) < (m : Int)) = True := eq_true (by omega)
      clear hne hv hj hf1 hf2
      go_wp2
      go_ret
      exact ⟨j, rfl, hE, HX.out⟩
end Go.Proofs.YtkjpcjmbhpfelaaGreat
