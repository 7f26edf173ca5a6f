/- Outlines: the ring of a cycle of straight pieces. Plain law: no program stands here. -/
import Derived.Test.YtkjpcjmbhpfelaaRgOut
set_option linter.unusedVariables false
set_option linter.unusedSimpArgs false
namespace Go.Reg
open Go.Proofs.Ytkjpcjmbhpfelaa

abbrev Crn := Int × Int × Nat
/-- the corners met on a way that came in by direction d -/
def corn : Nat → List Edg → List Crn
  | _, [] => []
  | d, e :: l => if d = e.2.2.2.2 then corn d l else (e.1, e.2.1, e.2.2.2.2) :: corn e.2.2.2.2 l
def Path (S : Pix) : Int → Int → Nat → List Edg → Prop
  | _, _, _, [] => True
  | x, y, d, e :: l => e.1 = x ∧ e.2.1 = y ∧ e.2.2.2.2 = turnS S d x y ∧ shapeE e ∧ unitE S e ∧ Path S e.2.2.1 e.2.2.2.1 e.2.2.2.2 l
/-- where a way ends, and by which direction -/
def pend : Int → Int → Nat → List Edg → Crn
  | x, y, d, [] => (x, y, d)
  | _, _, _, e :: l => pend e.2.2.1 e.2.2.2.1 e.2.2.2.2 l
abbrev legE (q : Crn) (x y : Int) : Edg := (q.1, q.2.1, x, y, q.2.2)
def Trav (S : Pix) (q : Crn) (x y : Int) : Prop := shapeE (legE q x y) ∧ unitE S (legE q x y)
def Leg (S : Pix) (q k : Crn) : Prop := Trav S q k.1 k.2.1 ∧ k.2.2 = turnS S q.2.2 k.1 k.2.1 ∧ k.2.2 ≠ q.2.2
def legs (S : Pix) : Crn → List Crn → Prop
  | _, [] => True
  | q, k :: K => Leg S q k ∧ legs S k K
def lastC : Crn → List Crn → Crn
  | q, [] => q
  | _, k :: K => lastC k K
theorem Trav.more {S : Pix} {q : Crn} {x y : Int} {e : Edg} (h : Trav S q x y) (h1 : e.1 = x) (h2 : e.2.1 = y) (hd : e.2.2.2.2 = q.2.2) (hs : shapeE e) (hu : unitE S e) : Trav S q e.2.2.1 e.2.2.2.1 := by
  obtain ⟨a1, a2⟩ := h
  refine ⟨?_, fun d u v hc => ?_⟩
  · unfold shapeE at *; dsimp only at *; omega
  · by_cases hk : covE e d u v
    · exact hu d u v hk
    · refine a2 d u v ?_
      clear a2 hu
      obtain ⟨k0, hc⟩ := hc
      refine ⟨k0, ?_⟩
      have hk' : ¬ (d = 0 ∧ v = e.2.1 ∧ e.1 ≤ u ∧ u < e.2.2.1 ∨ d = 1 ∧ u = e.1 ∧ e.2.1 ≤ v ∧ v < e.2.2.2.1 ∨ d = 2 ∧ v = e.2.1 ∧ e.2.2.1 < u ∧ u ≤ e.1 ∨ d = 3 ∧ u = e.1 ∧ e.2.2.2.1 < v ∧ v ≤ e.2.1) := fun q => hk ⟨by rw [hd]; exact k0, q⟩
      clear hk
      unfold shapeE at a1 hs
      dsimp only at *
      subst h1; subst h2
      rw [k0] at a1 hd
      rw [hd] at hs
      rcases (show d = 0 ∨ d = 1 ∨ d = 2 ∨ d = 3 by omega) with rfl | rfl | rfl | rfl
      all_goals (simp at a1 hs hc hk' ⊢; omega)
theorem trav_of {S : Pix} {e : Edg} (hs : shapeE e) (hu : unitE S e) : Trav S (e.1, e.2.1, e.2.2.2.2) e.2.2.1 e.2.2.2.1 := ⟨hs, hu⟩
theorem path_legs {S : Pix} : ∀ (l : List Edg) (x y : Int) (q : Crn), Path S x y q.2.2 l → Trav S q x y →
    legs S q (corn q.2.2 l) ∧ Trav S (lastC q (corn q.2.2 l)) (pend x y q.2.2 l).1 (pend x y q.2.2 l).2.1 ∧ (lastC q (corn q.2.2 l)).2.2 = (pend x y q.2.2 l).2.2 := by
  intro l
  induction l with
  | nil => intro x y q _ ht; exact ⟨trivial, ht, rfl⟩
  | cons e l ih =>
    intro x y q hp ht
    obtain ⟨h1, h2, h3, hs, hu, hp⟩ := hp
    unfold corn pend
    by_cases hd : q.2.2 = e.2.2.2.2
    · rw [if_pos hd]
      rw [← hd] at hp ⊢
      exact ih _ _ q hp (ht.more h1 h2 hd.symm hs hu)
    · rw [if_neg hd]
      obtain ⟨i1, i2, i3⟩ := ih _ _ (e.1, e.2.1, e.2.2.2.2) hp (trav_of hs hu)
      refine ⟨⟨⟨?_, ?_, fun e => hd e.symm⟩, i1⟩, i2, i3⟩
      · dsimp only; rw [h1, h2]; exact ht
      · dsimp only; rw [h1, h2]; exact h3
/-- a closed way: its corners, ring of legs -/
def CycL (S : Pix) (R : List Crn) : Prop := ∃ k0 K, R = k0 :: K ∧ legs S k0 K ∧ Leg S (lastC k0 K) k0
def Closed (S : Pix) (c : List Edg) : Prop := ∃ e l, c = e :: l ∧ Path S e.1 e.2.1 (pend e.1 e.2.1 0 c).2.2 c ∧ (pend e.1 e.2.1 0 c).1 = e.1 ∧ (pend e.1 e.2.1 0 c).2.1 = e.2.1
theorem trav_self {S : Pix} {q : Crn} (h : Trav S q q.1 q.2.1) : False := by
  have := h.1
  unfold shapeE at this
  dsimp only at this
  omega
def lastD (c : List Edg) : Nat := match c.getLast? with | some e => e.2.2.2.2 | none => 0
theorem pend_dir : ∀ (l : List Edg) (x y : Int) (d : Nat) (e : Edg), (pend x y d (e :: l)).2.2 = lastD (e :: l) := by
  intro l
  induction l with
  | nil => intro x y d e; rfl
  | cons f l ih =>
    intro x y d e
    have := ih e.2.2.1 e.2.2.2.1 e.2.2.2.2 f
    unfold pend
    rw [this]
    unfold lastD
    rw [List.getLast?_cons_cons]
/-- what is summed over the pieces of a way adds up over its legs -/
def psum (f : Int → Int → Int → Int → Int) : Crn → List Crn → Int → Int → Int
  | q, [], x, y => f q.1 q.2.1 x y
  | q, k :: K, x, y => f q.1 q.2.1 k.1 k.2.1 + psum f k K x y
def wsum (f : Int → Int → Int → Int → Int) (l : List Edg) : Int := sumL (l.map fun e => f e.1 e.2.1 e.2.2.1 e.2.2.2.1)
def Adds (f : Int → Int → Int → Int → Int) : Prop := ∀ (x y x' y' x'' y'' : Int) (d : Nat), shapeE (x, y, x', y', d) → shapeE (x', y', x'', y'', d) → f x y x' y' + f x' y' x'' y'' = f x y x'' y''
theorem path_sum {S : Pix} {f : Int → Int → Int → Int → Int} (hf : Adds f) : ∀ (l : List Edg) (x y : Int) (q : Crn), Path S x y q.2.2 l → Trav S q x y →
    f q.1 q.2.1 x y + wsum f l = psum f q (corn q.2.2 l) (pend x y q.2.2 l).1 (pend x y q.2.2 l).2.1 := by
  intro l
  induction l with
  | nil => intro x y q _ ht; simp [wsum, sumL, corn, psum, pend]
  | cons e l ih =>
    intro x y q hp ht
    obtain ⟨h1, h2, h3, hs, hu, hp⟩ := hp
    unfold corn pend
    have hw : wsum f (e :: l) = f e.1 e.2.1 e.2.2.1 e.2.2.2.1 + wsum f l := rfl
    rw [hw]
    by_cases hd : q.2.2 = e.2.2.2.2
    · rw [if_pos hd]
      have hadd := hf q.1 q.2.1 x y e.2.2.1 e.2.2.2.1 q.2.2 ht.1 (by rw [← h1, ← h2, hd]; exact hs)
      rw [← hd] at hp ⊢
      have := ih _ _ q hp (ht.more h1 h2 hd.symm hs hu)
      rw [h1, h2]
      omega
    · rw [if_neg hd]
      have := ih _ _ (e.1, e.2.1, e.2.2.2.2) hp (trav_of hs hu)
      dsimp only at this
      unfold psum
      dsimp only
      rw [← this, h1, h2]
theorem psum_last {f : Int → Int → Int → Int → Int} : ∀ (K : List Crn) (q : Crn) (x y z w : Int), f (lastC q K).1 (lastC q K).2.1 x y + f x y z w = f (lastC q K).1 (lastC q K).2.1 z w → psum f q K x y + f x y z w = psum f q K z w := by
  intro K
  induction K with
  | nil => intro q x y z w h; exact h
  | cons k K ih =>
    intro q x y z w h
    have := ih k x y z w h
    unfold psum
    omega
theorem closed_ring {S : Pix} {c : List Edg} (h : Closed S c) : ∃ k0 K, corn (lastD c) c = k0 :: K ∧ legs S k0 K ∧ Leg S (lastC k0 K) k0 ∧ ∀ f, Adds f → wsum f c = psum f k0 K k0.1 k0.2.1 := by
  obtain ⟨e, l, rfl, hp, hx, hy⟩ := h
  rw [pend_dir] at hp
  obtain ⟨_, _, h3, hs, hu, hpl⟩ := hp
  have hpd := pend_dir l e.1 e.2.1 0 e
  unfold pend at hx hy hpd
  have hq := path_legs l e.2.2.1 e.2.2.2.1 (e.1, e.2.1, e.2.2.2.2) hpl (trav_of hs hu)
  have hsum := fun f (hf : Adds f) => path_sum hf l e.2.2.1 e.2.2.2.1 (e.1, e.2.1, e.2.2.2.2) hpl (trav_of hs hu)
  dsimp only at hq hsum
  rw [hx, hy, hpd] at hq
  rw [hx, hy] at hsum
  obtain ⟨g1, g2, g3⟩ := hq
  unfold corn
  by_cases hd : lastD (e :: l) = e.2.2.2.2
  · rw [if_pos hd]
    rw [hd]
    cases hK : corn e.2.2.2.2 l with
    | nil =>
      rw [hK] at g2
      exact (trav_self g2).elim
    | cons k0 K =>
      rw [hK] at g1 g2 g3 hsum
      obtain ⟨⟨m1, m2, m3⟩, m4⟩ := g1
      have g3' : (lastC k0 K).2.2 = e.2.2.2.2 := g3.trans hd
      have g2' : Trav S (lastC k0 K) e.1 e.2.1 := g2
      refine ⟨k0, K, rfl, m4, ⟨?_, ?_, ?_⟩, fun f hf => ?_⟩
      · exact g2'.more (e := (e.1, e.2.1, k0.1, k0.2.1, e.2.2.2.2)) rfl rfl g3'.symm m1.1 m1.2
      · rw [g3']; exact m2
      · rw [g3']; exact m3
      · have a1 := hsum f hf
        unfold psum at a1
        dsimp only at a1
        have a2 := psum_last (f := f) K k0 e.1 e.2.1 k0.1 k0.2.1 (hf _ _ _ _ _ _ _ (show shapeE ((lastC k0 K).1, (lastC k0 K).2.1, e.1, e.2.1, e.2.2.2.2) from by have := g2'.1; unfold legE at this; rw [g3'] at this; exact this) m1.1)
        have hw : wsum f (e :: l) = f e.1 e.2.1 e.2.2.1 e.2.2.2.1 + wsum f l := rfl
        omega
  · rw [if_neg hd]
    refine ⟨_, _, rfl, g1, ⟨?_, ?_, ?_⟩, fun f hf => ?_⟩
    · exact g2
    · rw [g3]; exact h3
    · rw [g3]; exact fun e => hd e.symm
    · exact hsum f hf
/-! by places -/
theorem legs_get {S : Pix} : ∀ (K : List Crn) (q : Crn), legs S q K → ∀ (k : Nat) (p r : Crn), (q :: K)[k]? = some p → (q :: K)[k + 1]? = some r → Leg S p r := by
  intro K
  induction K with
  | nil => intro q _ k p r _ h2; simp at h2
  | cons m K ih =>
    intro q h k p r h1 h2
    cases k with
    | zero =>
      simp at h1 h2
      subst h1; subst h2
      exact h.1
    | succ k => exact ih m h.2 k p r (by simpa using h1) (by simpa using h2)
theorem last_get : ∀ (K : List Crn) (q : Crn), (q :: K)[K.length]? = some (lastC q K) := by
  intro K
  induction K with
  | nil => intro q; rfl
  | cons m K ih => intro q; simpa [lastC] using ih m
def CycR (S : Pix) (R : List Crn) : Prop := ∀ (k : Nat) (p r : Crn), R[k]? = some p → R[(k + 1) % R.length]? = some r → Leg S p r
theorem cycR_of {S : Pix} {k0 : Crn} {K : List Crn} (h1 : legs S k0 K) (h2 : Leg S (lastC k0 K) k0) : CycR S (k0 :: K) := by
  intro k p r hp hr
  have hk := (List.getElem?_eq_some_iff.1 hp).1
  rw [List.length_cons] at hk hr
  rcases Nat.lt_or_ge k K.length with hlt | hge
  · rw [Nat.mod_eq_of_lt (by omega)] at hr
    exact legs_get K k0 h1 k p r hp hr
  · have e : k = K.length := by omega
    subst e
    rw [Nat.mod_self] at hr
    rw [last_get] at hp
    simp at hp hr
    subst hp; subst hr
    exact h2
def rot {α : Type} (t : Nat) (R : List α) : List α := R.drop t ++ R.take t
theorem rot_length {α : Type} {t : Nat} {R : List α} (h : t ≤ R.length) : (rot t R).length = R.length := by simp [rot]; omega
theorem rot_get {α : Type} {t k : Nat} {R : List α} (h : t < R.length) (hk : k < R.length) : (rot t R)[k]? = R[(k + t) % R.length]? := by
  unfold rot
  rcases Nat.lt_or_ge k (R.length - t) with hlt | hge
  · rw [List.getElem?_append_left (by simp; omega), List.getElem?_drop, Nat.mod_eq_of_lt (by omega), Nat.add_comm]
  · rw [List.getElem?_append_right (by simp; omega), List.length_drop, List.getElem?_take_of_lt (by omega)]
    congr 1
    rw [Nat.mod_eq_sub_mod (by omega), Nat.mod_eq_of_lt (by omega)]
    omega
theorem CycR.rot {S : Pix} {R : List Crn} (h : CycR S R) {t : Nat} (ht : t < R.length) : CycR S (rot t R) := by
  intro k p r hp hr
  have hk := (List.getElem?_eq_some_iff.1 hp).1
  rw [rot_length (by omega)] at hk hr
  have h1 : (k + 1) % R.length < R.length := Nat.mod_lt _ (by omega)
  rw [rot_get ht hk] at hp
  rw [rot_get ht h1] at hr
  refine h _ p r hp ?_
  rw [← hr]
  congr 1
  rw [Nat.mod_add_mod, Nat.mod_add_mod]
  congr 1
  omega
/-- the sum over the first k legs of a ring -/
def cycTo (f : Int → Int → Int → Int → Int) (R : List Crn) : Nat → Int
  | 0 => 0
  | k + 1 => cycTo f R k + f (R.getD k (0, 0, 0)).1 (R.getD k (0, 0, 0)).2.1 (R.getD ((k + 1) % R.length) (0, 0, 0)).1 (R.getD ((k + 1) % R.length) (0, 0, 0)).2.1
theorem cycTo_succ {f : Int → Int → Int → Int → Int} {R : List Crn} {k : Nat} {p r : Crn} (hp : R[k]? = some p) (hr : R[(k + 1) % R.length]? = some r) : cycTo f R (k + 1) = cycTo f R k + f p.1 p.2.1 r.1 r.2.1 := by
  rw [show cycTo f R (k + 1) = cycTo f R k + f (R.getD k (0, 0, 0)).1 (R.getD k (0, 0, 0)).2.1 (R.getD ((k + 1) % R.length) (0, 0, 0)).1 (R.getD ((k + 1) % R.length) (0, 0, 0)).2.1 from rfl]
  rw [List.getD_eq_getElem?_getD, List.getD_eq_getElem?_getD, hp, hr]
  rfl
theorem psum_append {f : Int → Int → Int → Int → Int} : ∀ (A : List Crn) (a b : Crn) (B : List Crn) (x y : Int), psum f a (A ++ b :: B) x y = psum f a A b.1 b.2.1 + psum f b B x y := by
  intro A
  induction A with
  | nil => intro a b B x y; rfl
  | cons k A ih =>
    intro a b B x y
    have := ih k b B x y
    show f _ _ _ _ + psum f k (A ++ b :: B) x y = (f _ _ _ _ + psum f k A b.1 b.2.1) + psum f b B x y
    omega
theorem psum_rot {f : Int → Int → Int → Int → Int} {k0 m0 : Crn} {K M : List Crn} {t : Nat} (ht : t < (k0 :: K).length) (h : rot t (k0 :: K) = m0 :: M) : psum f m0 M m0.1 m0.2.1 = psum f k0 K k0.1 k0.2.1 := by
  cases t with
  | zero =>
    simp [rot] at h
    obtain ⟨rfl, rfl⟩ := h
    rfl
  | succ t =>
    simp only [rot, List.drop_succ_cons, List.take_succ_cons] at h
    simp only [List.length_cons] at ht
    obtain ⟨b, B, hB⟩ : ∃ b B, K.drop t = b :: B := by
      cases hq : K.drop t with
      | nil => have := congrArg List.length hq; simp at this; omega
      | cons b B => exact ⟨b, B, rfl⟩
    rw [hB, List.cons_append] at h
    injection h with e1 e2
    subst e1; subst e2
    have eK : K = K.take t ++ b :: B := by rw [← hB, List.take_append_drop]
    rw [psum_append]
    conv => rhs; rw [eK, psum_append]
    omega
theorem cycTo_psum {f : Int → Int → Int → Int → Int} {k0 : Crn} {K : List Crn} : cycTo f (k0 :: K) (k0 :: K).length = psum f k0 K k0.1 k0.2.1 := by
  have key : ∀ (M K : List Crn) (q : Crn) (A : List Crn), k0 :: K = A ++ q :: M → cycTo f (k0 :: K) A.length + psum f q M k0.1 k0.2.1 = cycTo f (k0 :: K) (k0 :: K).length := by
    intro M
    induction M with
    | nil =>
      intro K q A h
      have hl : (k0 :: K).length = A.length + 1 := by rw [h]; simp
      rw [hl]
      rw [cycTo_succ (p := q) (r := k0) (by rw [h, List.getElem?_append_right (Nat.le_refl _), Nat.sub_self]; rfl) (by rw [hl, Nat.mod_self]; rfl)]
      rfl
    | cons m M ih =>
      intro K q A h
      have hl : (k0 :: K).length = A.length + M.length + 2 := by rw [h]; simp; omega
      have hs := cycTo_succ (f := f) (R := k0 :: K) (k := A.length) (p := q) (r := m) (by rw [h, List.getElem?_append_right (Nat.le_refl _), Nat.sub_self]; rfl)
        (by rw [Nat.mod_eq_of_lt (by omega), h, List.getElem?_append_right (by omega), Nat.add_sub_cancel_left]; rfl)
      have := ih K m (A ++ [q]) (by rw [h]; simp)
      rw [← this]
      have e : (A ++ [q]).length = A.length + 1 := by simp
      rw [e, hs]
      have e2 : psum f q (m :: M) k0.1 k0.2.1 = f q.1 q.2.1 m.1 m.2.1 + psum f m M k0.1 k0.2.1 := rfl
      omega
  have := key K K k0 [] rfl
  simp only [List.length_nil] at this
  have h0 : cycTo f (k0 :: K) 0 = 0 := rfl
  rw [← this, h0]
  omega
end Go.Reg
