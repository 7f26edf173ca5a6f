/- Outlines: the cycles of a set's boundary give its rings. Plain law: no program stands here. -/
import Derived.Test.YtkjpcjmbhpfelaaRgOutU
set_option linter.unusedVariables false
set_option linter.unusedSimpArgs false
namespace Go.Reg
open Go.Proofs.Ytkjpcjmbhpfelaa

/-- c are the pieces with the numbers q -/
def EdgesAt (E : List Edg) (q : List Nat) (c : List Edg) : Prop := c.length = q.length ∧ ∀ (k i : Nat), q[k]? = some i → ∃ e, E[i]? = some e ∧ c[k]? = some e
theorem EdgesAt.nil (E : List Edg) : EdgesAt E [] [] := ⟨rfl, fun k i h => by simp at h⟩
theorem EdgesAt.snoc {E : List Edg} {q : List Nat} {c : List Edg} (h : EdgesAt E q c) {i : Nat} {e : Edg} (he : E[i]? = some e) : EdgesAt E (q ++ [i]) (c ++ [e]) := by
  refine ⟨by rw [List.length_append, List.length_append, h.1]; rfl, fun k j hk => ?_⟩
  rcases Nat.lt_or_ge k q.length with hlt | hge
  · rw [List.getElem?_append_left hlt] at hk
    obtain ⟨f, f1, f2⟩ := h.2 k j hk
    exact ⟨f, f1, by rw [List.getElem?_append_left (by rw [h.1]; exact hlt)]; exact f2⟩
  · rw [List.getElem?_append_right hge] at hk
    have hk1 : k - q.length = 0 := by have := (List.getElem?_eq_some_iff.1 hk).1; simp at this; omega
    rw [hk1] at hk
    simp at hk
    subst hk
    exact ⟨e, he, by rw [List.getElem?_append_right (by rw [h.1]; exact hge), h.1, hk1]; rfl⟩
theorem EdgesAt.back {E : List Edg} {q : List Nat} {c : List Edg} (h : EdgesAt E q c) {k : Nat} {e : Edg} (he : c[k]? = some e) : ∃ i, q[k]? = some i ∧ E[i]? = some e := by
  have hl := (List.getElem?_eq_some_iff.1 he).1
  rw [h.1] at hl
  have hi := List.getElem?_eq_getElem hl
  obtain ⟨f, f1, f2⟩ := h.2 k _ hi
  rw [he] at f2
  injection f2 with f2
  subst f2
  exact ⟨_, hi, f1⟩
def linkE (S : Pix) (e f : Edg) : Prop := f.1 = e.2.2.1 ∧ f.2.1 = e.2.2.2.1 ∧ f.2.2.2.2 = turnS S e.2.2.2.2 e.2.2.1 e.2.2.2.1
theorem path_of {S : Pix} : ∀ (c : List Edg) (x y : Int) (d : Nat), (∀ e, c[0]? = some e → e.1 = x ∧ e.2.1 = y ∧ e.2.2.2.2 = turnS S d x y) → (∀ e ∈ c, shapeE e ∧ unitE S e) →
    (∀ (k : Nat) (e f : Edg), c[k]? = some e → c[k + 1]? = some f → linkE S e f) → Path S x y d c := by
  intro c
  induction c with
  | nil => intros; trivial
  | cons e l ih =>
    intro x y d h0 h1 h2
    obtain ⟨a1, a2, a3⟩ := h0 e rfl
    obtain ⟨b1, b2⟩ := h1 e List.mem_cons_self
    refine ⟨a1, a2, a3, b1, b2, ih _ _ _ (fun f hf => h2 0 e f rfl (by simpa using hf)) (fun f hf => h1 f (List.mem_cons_of_mem _ hf)) fun k f g hf hg => h2 (k + 1) f g (by simpa using hf) (by simpa using hg)⟩
theorem pend_to : ∀ (l : List Edg) (x y : Int) (d : Nat) (e g : Edg), (e :: l).getLast? = some g → (pend x y d (e :: l)) = (g.2.2.1, g.2.2.2.1, g.2.2.2.2) := by
  intro l
  induction l with
  | nil => intro x y d e g h; simp at h; subst h; rfl
  | cons f l ih =>
    intro x y d e g h
    unfold pend
    exact ih _ _ _ f g (by rw [List.getLast?_cons_cons] at h; exact h)
theorem closed_of {S : Pix} {c : List Edg} (hne : c ≠ []) (h1 : ∀ e ∈ c, shapeE e ∧ unitE S e) (h2 : ∀ (k : Nat) (e f : Edg), c[k]? = some e → c[k + 1]? = some f → linkE S e f)
    (h3 : ∀ e f, c.getLast? = some e → c[0]? = some f → linkE S e f) : Closed S c := by
  cases c with
  | nil => exact absurd rfl hne
  | cons e l =>
    obtain ⟨g, hg⟩ : ∃ g, (e :: l).getLast? = some g := ⟨_, List.getLast?_eq_some_getLast (by simp)⟩
    obtain ⟨k1, k2, k3⟩ := h3 g e hg rfl
    have hp := pend_to l e.1 e.2.1 0 e g hg
    refine ⟨e, l, rfl, ?_, by rw [hp]; exact k1.symm, by rw [hp]; exact k2.symm⟩
    refine path_of _ _ _ _ (fun f hf => ?_) h1 h2
    simp at hf
    subst hf
    refine ⟨rfl, rfl, ?_⟩
    rw [hp]
    dsimp only
    rw [k3, ← k1, ← k2]
theorem cyc_closed {S : Pix} {E : List Edg} (h : EdgeSys S E) {q : List Nat} {c : List Edg} (hc : Cyc (NextE S E) q) (he : EdgesAt E q c) : Closed S c ∧ ∀ e f, c.getLast? = some e → c[0]? = some f → linkE S e f := by
  have hlink : ∀ {i j : Nat} {e f : Edg}, E[i]? = some e → E[j]? = some f → NextE S E i j → linkE S e f := by
    rintro i j e f hi hj ⟨e', f', a1, a2, a3, a4, a5⟩
    rw [hi] at a1; injection a1 with a1; subst a1
    rw [hj] at a2; injection a2 with a2; subst a2
    exact ⟨a3, a4, a5⟩
  have hpos : 0 < q.length := List.length_pos_iff.2 hc.1
  have last : ∀ e f, c.getLast? = some e → c[0]? = some f → linkE S e f := fun e f h1 h2 => by
    rw [List.getLast?_eq_getElem?] at h1
    obtain ⟨i, i1, i2⟩ := he.back h1
    obtain ⟨j, j1, j2⟩ := he.back h2
    refine hlink i2 j2 (hc.2.2 i j ?_ ?_)
    · rw [List.getLast?_eq_getElem?, ← he.1]; exact i1
    · rw [List.head?_eq_getElem?]; exact j1
  refine ⟨closed_of (fun e => ?_) (fun e hm => ?_) (fun k e f h1 h2 => ?_) last, last⟩
  · have := he.1; rw [e] at this; simp at this; omega
  · obtain ⟨k, hk⟩ := List.mem_iff_getElem?.1 hm
    obtain ⟨i, _, hi⟩ := he.back hk
    have := List.mem_of_getElem? hi
    exact ⟨h.shape e this, h.unit e this⟩
  · obtain ⟨i, i1, i2⟩ := he.back h1
    obtain ⟨j, j1, j2⟩ := he.back h2
    exact hlink i2 j2 (hc.2.1 k i j i1 j1)
def startC (e : Edg) : Crn := (e.1, e.2.1, e.2.2.2.2)
theorem corn_sub : ∀ (c : List Edg) (d : Nat), (corn d c).Sublist (c.map startC) := by
  intro c
  induction c with
  | nil => intro d; exact List.Sublist.refl _
  | cons e l ih =>
    intro d
    unfold corn
    split
    · exact (ih d).cons _
    · exact (ih _).cons_cons _
theorem corn_mem : ∀ (c : List Edg) (d k : Nat) (f : Edg), c[k]? = some f → (k = 0 → d ≠ f.2.2.2.2) → (∀ t e, k = t + 1 → c[t]? = some e → e.2.2.2.2 ≠ f.2.2.2.2) → startC f ∈ corn d c := by
  intro c
  induction c with
  | nil => intro d k f h; simp at h
  | cons e l ih =>
    intro d k f h h0 h1
    unfold corn
    cases k with
    | zero =>
      simp at h
      subst h
      rw [if_neg (h0 rfl)]
      exact List.mem_cons_self
    | succ k =>
      have hf : l[k]? = some f := by simpa using h
      have go : ∀ d', (k = 0 → d' = e.2.2.2.2) → startC f ∈ corn d' l := fun d' hd' => ih d' k f hf (fun hk => by rw [hd' hk]; exact h1 k e rfl (by rw [hk]; rfl)) fun t e' ht he' => h1 (t + 1) e' (by rw [ht]) (by simpa using he')
      split
      · rename_i hd; exact go d fun _ => hd
      · exact List.mem_cons_of_mem _ (go _ fun _ => rfl)
theorem corn_nodup {S : Pix} {E : List Edg} (h : EdgeSys S E) {q : List Nat} {c : List Edg} (he : EdgesAt E q c) (hn : q.Nodup) (d : Nat) : (corn d c).Nodup := by
  refine (corn_sub c d).nodup ?_
  rw [List.nodup_iff_pairwise_ne, List.pairwise_map, List.pairwise_iff_getElem]
  intro i j hi hj hlt e
  obtain ⟨a, a1, a2⟩ := he.back (List.getElem?_eq_getElem hi)
  obtain ⟨b, b1, b2⟩ := he.back (List.getElem?_eq_getElem hj)
  unfold startC at e
  simp only [Prod.mk.injEq] at e
  have := h.start a2 b2 e.1 e.2.1 e.2.2
  subst this
  obtain ⟨m1, m2⟩ := List.getElem?_eq_some_iff.1 a1
  obtain ⟨m3, m4⟩ := List.getElem?_eq_some_iff.1 b1
  have := (List.getElem_inj (h₀ := m1) (h₁ := m3) hn).1 (m2.trans m4.symm)
  omega
/-- R is the ring of the cycle q -/
def RingAt (E : List Edg) (q : List Nat) (R : List Crn) : Prop := ∃ c t, EdgesAt E q c ∧ t < (corn (lastD c) c).length ∧ R = rot t (corn (lastD c) c) ∧ ∀ x ∈ R, ∀ f, R[0]? = some f → ¬ aheadP x f
theorem RingAt.ring {S : Pix} {E : List Edg} (h : EdgeSys S E) {q : List Nat} {R : List Crn} (hc : Cyc (NextE S E) q) (hn : q.Nodup) (hr : RingAt E q R) : RingOf S R := by
  obtain ⟨c, t, h1, h2, rfl, h3⟩ := hr
  obtain ⟨k0, K, e1, e2, e3, _⟩ := closed_ring (cyc_closed h hc h1).1
  refine ⟨fun e => ?_, ?_, rot_nodup (corn_nodup h h1 hn _), h3⟩
  · have := rot_length (Nat.le_of_lt h2)
    rw [e] at this
    simp at this
    rw [← this] at h2
    simp at h2
  · exact CycR.rot (by rw [e1]; exact cycR_of e2 e3) h2
theorem RingAt.mem {E : List Edg} {q : List Nat} {R : List Crn} (hr : RingAt E q R) {x : Crn} (hx : x ∈ R) : ∃ (i : Nat) (e : Edg), i ∈ q ∧ E[i]? = some e ∧ x = startC e := by
  obtain ⟨c, t, h1, h2, rfl, h3⟩ := hr
  rw [rot_mem] at hx
  obtain ⟨e, e1, e2⟩ := List.mem_map.1 ((corn_sub c _).subset hx)
  obtain ⟨k, hk⟩ := List.mem_iff_getElem?.1 e1
  obtain ⟨i, i1, i2⟩ := h1.back hk
  exact ⟨i, e, List.mem_of_getElem? i1, i2, e2.symm⟩
theorem lastD_of {c : List Edg} {g : Edg} (h : c.getLast? = some g) : lastD c = g.2.2.2.2 := by unfold lastD; rw [h]
theorem RingAt.corner {S : Pix} {E : List Edg} (h : EdgeSys S E) {q : List Nat} {R : List Crn} (hc : Cyc (NextE S E) q) (hr : RingAt E q R) {x : Crn} (hx : Corner S x) {j : Nat} {f : Edg} (hj : j ∈ q) (hf : E[j]? = some f) (hs : startC f = x) : x ∈ R := by
  obtain ⟨c, t, h1, h2, rfl, h3⟩ := hr
  obtain ⟨hcl, hla⟩ := cyc_closed h hc h1
  rw [rot_mem, ← hs]
  obtain ⟨k, hk⟩ := List.mem_iff_getElem?.1 hj
  obtain ⟨f', k1, k2⟩ := h1.2 k j hk
  rw [hf] at k1; injection k1 with k1; subst k1
  obtain ⟨d, x1, x2, x3, x4⟩ := hx
  rw [← hs] at x2 x3 x4
  dsimp only [startC] at x2 x3 x4
  have key : ∀ {e : Edg}, shapeE e → unitE S e → linkE S e f → e.2.2.2.2 ≠ f.2.2.2.2 := by
    intro e s1 u1 ⟨l1, l2, l3⟩ hd
    have i1 := in_to s1 u1
    rw [← l1, ← l2] at i1 l3
    have := turnQ_inj _ _ _ _ _ x1 _ (shape_dir s1) x2 i1 (x3.symm.trans l3)
    exact x4 (hd.symm.trans this.symm)
  have sh : ∀ {k : Nat} {e : Edg}, c[k]? = some e → shapeE e ∧ unitE S e := fun hk => by
    obtain ⟨i, _, hi⟩ := h1.back hk
    have := List.mem_of_getElem? hi
    exact ⟨h.shape _ this, h.unit _ this⟩
  have lk : ∀ (k : Nat) (e f : Edg), c[k]? = some e → c[k + 1]? = some f → linkE S e f := fun k e f h1' h2' => by
    obtain ⟨i, i1, i2⟩ := h1.back h1'
    obtain ⟨j, j1, j2⟩ := h1.back h2'
    obtain ⟨e', f', a1, a2, a3, a4, a5⟩ := hc.2.1 k i j i1 j1
    rw [i2] at a1; injection a1 with a1; subst a1
    rw [j2] at a2; injection a2 with a2; subst a2
    exact ⟨a3, a4, a5⟩
  refine corn_mem c _ k f k2 (fun e0 => ?_) fun t e ht he => ?_
  · subst e0
    have hne : c ≠ [] := fun e => by rw [e] at k2; simp at k2
    obtain ⟨g, hg⟩ : ∃ g, c.getLast? = some g := ⟨_, List.getLast?_eq_some_getLast hne⟩
    rw [lastD_of hg]
    have hg' := hg
    rw [List.getLast?_eq_getElem?] at hg'
    obtain ⟨s1, u1⟩ := sh hg'
    exact key s1 u1 (hla g f hg k2)
  · subst ht
    obtain ⟨s1, u1⟩ := sh he
    exact key s1 u1 (lk t e f he k2)
theorem corner_edge {S : Pix} {E : List Edg} (h : EdgeSys S E) {x : Crn} (hx : Corner S x) : ∃ (j : Nat) (f : Edg), E[j]? = some f ∧ startC f = x := by
  obtain ⟨d, x1, x2, x3, x4⟩ := hx
  obtain ⟨t1, t2, t3⟩ := turnQ_out _ _ _ _ _ x1 x2
  have ho : outB S x.2.2 x.1 x.2.1 = true := by rw [x3]; exact t1
  have h4 : x.2.2 < 4 := by rw [x3]; exact t3
  obtain ⟨j, f, hj, hc⟩ := h.cover _ x.1 x.2.1 h4 ho
  refine ⟨j, f, hj, ?_⟩
  by_cases hf : x.1 = f.1 ∧ x.2.1 = f.2.1
  · obtain ⟨a, b, e⟩ := x
    have hd := hc.1
    dsimp only at hf hd
    unfold startC
    rw [← hf.1, ← hf.2, hd]
  · exfalso
    have hin := inCov_in (h.unit f (List.mem_of_getElem? hj)) (inCov_of hc hf)
    exact x4 (turnQ_str2 _ _ _ _ _ h4 _ x1 hin ho x2).symm
/-- what the rings of all cycles are, put in order -/
theorem out_of {S : Pix} {E : List Edg} (h : EdgeSys S E) {cs : List (List Nat)} {Rs O : List (List Crn)} (hc : ∀ q ∈ cs, Cyc (NextE S E) q) (hn : cs.flatten.Nodup) (hall : ∀ j, j < E.length → j ∈ cs.flatten)
    (hlen : Rs.length = cs.length) (hR : ∀ (k : Nat) (q : List Nat), cs[k]? = some q → ∃ R, Rs[k]? = some R ∧ RingAt E q R) (hp : O.Perm Rs) (hs : O.Pairwise fun R Q => ¬ aheadP (hd0 Q) (hd0 R)) : OutOf S O := by
  have hnd : ∀ q ∈ cs, q.Nodup := fun q hq => (List.pairwise_flatten.1 hn).1 q hq
  have back : ∀ {k : Nat} {R : List Crn}, Rs[k]? = some R → ∃ q, cs[k]? = some q ∧ RingAt E q R := fun {k R} hk => by
    have hl := (List.getElem?_eq_some_iff.1 hk).1
    rw [hlen] at hl
    obtain ⟨R', r1, r2⟩ := hR k _ (List.getElem?_eq_getElem hl)
    rw [hk] at r1; injection r1 with r1; subst r1
    exact ⟨_, List.getElem?_eq_getElem hl, r2⟩
  have ring : ∀ R ∈ Rs, RingOf S R := fun R hR' => by
    obtain ⟨k, hk⟩ := List.mem_iff_getElem?.1 hR'
    obtain ⟨q, q1, q2⟩ := back hk
    exact q2.ring h (hc q (List.mem_of_getElem? q1)) (hnd q (List.mem_of_getElem? q1))
  have hnod : Rs.Nodup := by
    rw [List.nodup_iff_pairwise_ne, List.pairwise_iff_getElem]
    intro i j hi hj hlt e
    obtain ⟨q, q1, q2⟩ := back (List.getElem?_eq_getElem hi)
    obtain ⟨q', q1', q2'⟩ := back (List.getElem?_eq_getElem hj)
    rw [← e] at q2'
    obtain ⟨f, f1, f2⟩ := (ring _ (List.getElem_mem hi)).head
    obtain ⟨a, ea, a1, a2, a3⟩ := q2.mem f2
    obtain ⟨b, eb, b1, b2, b3⟩ := q2'.mem f2
    rw [a3] at b3
    unfold startC at b3
    simp only [Prod.mk.injEq] at b3
    have := h.start a2 b2 b3.1 b3.2.1 b3.2.2
    subst this
    have hd := (List.pairwise_flatten.1 hn).2
    obtain ⟨m1, m2⟩ := List.getElem?_eq_some_iff.1 q1
    obtain ⟨m3, m4⟩ := List.getElem?_eq_some_iff.1 q1'
    have := List.pairwise_iff_getElem.1 hd i j m1 m3 hlt
    rw [m2, m4] at this
    exact this _ a1 _ b1 rfl
  have ringO : ∀ R ∈ O, RingOf S R := fun R hR' => ring R (hp.subset hR')
  refine ⟨ringO, ?_, fun x hx => ?_⟩
  · have hno := hp.nodup_iff.2 hnod
    rw [List.nodup_iff_pairwise_ne] at hno
    refine List.Pairwise.imp_of_mem (fun {R Q} hR' hQ hRQ => ?_) (List.Pairwise.and hs hno)
    obtain ⟨k1, k2⟩ := hRQ
    by_cases hk : aheadP (hd0 R) (hd0 Q)
    · exact hk
    · refine absurd ((ringO R hR').first (ringO Q hQ) ?_ ?_) k2
      · unfold aheadP at k1 hk; omega
      · unfold aheadP at k1 hk; omega
  · obtain ⟨j, f, hj, hs'⟩ := corner_edge h hx
    obtain ⟨q, q1, q2⟩ := List.mem_flatten.1 (hall j (List.getElem?_eq_some_iff.1 hj).1)
    obtain ⟨k, hk⟩ := List.mem_iff_getElem?.1 q1
    obtain ⟨R, r1, r2⟩ := hR k q hk
    exact ⟨R, hp.symm.subset (List.mem_of_getElem? r1), r2.corner h (hc q q1) hx q2 hj hs'⟩
end Go.Reg
