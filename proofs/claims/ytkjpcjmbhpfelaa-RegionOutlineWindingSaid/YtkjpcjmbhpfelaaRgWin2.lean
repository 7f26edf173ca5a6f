/- Outlines: one ring: its turns, its length, its area. Plain law: no program stands here. -/
import Derived.Test.YtkjpcjmbhpfelaaRgWin
set_option linter.unusedVariables false
set_option linter.unusedSimpArgs false
namespace Go.Reg
open Go.Proofs.Ytkjpcjmbhpfelaa

def OutSum (L : List R4) (O : List (List Crn)) : Prop := (∀ f, Adds f → sumL (O.map fun R => cycTo f R R.length) = sumL ((edgesOf L).map (fE f))) ∧ sumL (O.map fun R => (R.length : Int)) ≤ 2101248
theorem OutSum.perm {L : List R4} {O O' : List (List Crn)} (h : OutSum L O) (hp : O'.Perm O) : OutSum L O' :=
  ⟨fun f hf => by rw [sumL_perm (hp.map _)]; exact h.1 f hf, by rw [sumL_perm (hp.map _)]; exact h.2⟩
abbrev nx (R : List Crn) (k : Nat) : Crn := R.getD (k % R.length) (0, 0, 0)
theorem nx_get {R : List Crn} (h : R ≠ []) (k : Nat) : R[k % R.length]? = some (nx R k) := by
  have hpos : 0 < R.length := List.length_pos_iff.2 h
  have hlt := Nat.mod_lt k hpos
  rw [List.getElem?_eq_getElem hlt]
  unfold nx
  rw [List.getD_eq_getElem?_getD, List.getElem?_eq_getElem hlt]
  rfl
theorem nx_leg {S : Pix} {R : List Crn} (h : CycR S R) (hne : R ≠ []) (k : Nat) : Leg S (nx R k) (nx R (k + 1)) := by
  have hpos : 0 < R.length := List.length_pos_iff.2 hne
  refine h (k % R.length) _ _ (nx_get hne k) ?_
  rw [Nat.mod_add_mod]
  exact nx_get hne (k + 1)
/-- a leg turns into one across -/
theorem leg_par {S : Pix} {p r : Crn} (h : Leg S p r) : p.2.2 < 4 ∧ r.2.2 < 4 ∧ r.2.2 % 2 = (p.2.2 + 1) % 2 := by
  obtain ⟨⟨s1, u1⟩, t, n⟩ := h
  have hd := shape_dir s1
  obtain ⟨_, h2, h3⟩ := turnQ_out _ _ _ _ _ hd (in_to s1 u1)
  dsimp only at hd h2 h3
  rw [show turnQ _ _ _ _ _ = turnS S p.2.2 r.1 r.2.1 from rfl, ← t] at h2 h3
  refine ⟨hd, h3, ?_⟩
  omega
theorem ring_par {S : Pix} {R : List Crn} (h : CycR S R) (hne : R ≠ []) : ∀ k, (nx R k).2.2 % 2 = ((nx R 0).2.2 + k) % 2 := by
  intro k
  induction k with
  | zero => rfl
  | succ k ih =>
    have := (leg_par (nx_leg h hne k)).2.2
    omega
theorem nx_full (R : List Crn) : nx R R.length = nx R 0 := by
  unfold nx
  rw [Nat.mod_self, Nat.zero_mod]
theorem ring_even {S : Pix} {R : List Crn} (h : CycR S R) (hne : R ≠ []) : R.length % 2 = 0 ∧ 4 ≤ R.length := by
  have hpos : 0 < R.length := List.length_pos_iff.2 hne
  have h1 := ring_par h hne R.length
  rw [nx_full] at h1
  have hev : R.length % 2 = 0 := by omega
  refine ⟨hev, ?_⟩
  rcases Nat.lt_or_ge R.length 4 with hlt | hge
  · exfalso
    have h2 : R.length = 2 := by omega
    have l1 := nx_leg h hne 0
    have l2 := nx_leg h hne 1
    have e : nx R 2 = nx R 0 := by rw [← h2]; exact nx_full R
    rw [show 1 + 1 = 2 from rfl, e] at l2
    rw [show 0 + 1 = 1 from rfl] at l1
    have p1 := (leg_par l1).2.2
    have s1 := l1.1.1
    have s2 := l2.1.1
    unfold shapeE at s1 s2
    dsimp only at s1 s2
    omega
  · exact hge
/-- level, then upright; or the other way about -/
theorem ring_turn {S : Pix} {R : List Crn} (h : CycR S R) (hne : R ≠ []) (k : Nat) :
    ((nx R k).2.1 = (nx R (k + 1)).2.1 ∧ (nx R k).1 ≠ (nx R (k + 1)).1 ∧ (nx R (k + 1)).1 = (nx R (k + 2)).1 ∧ (nx R (k + 1)).2.1 ≠ (nx R (k + 2)).2.1) ∨
    ((nx R k).1 = (nx R (k + 1)).1 ∧ (nx R k).2.1 ≠ (nx R (k + 1)).2.1 ∧ (nx R (k + 1)).2.1 = (nx R (k + 2)).2.1 ∧ (nx R (k + 1)).1 ≠ (nx R (k + 2)).1) := by
  have l1 := nx_leg h hne k
  have l2 := nx_leg h hne (k + 1)
  rw [show k + 1 + 1 = k + 2 from rfl] at l2
  have p1 := (leg_par l1).2.2
  have s1 := l1.1.1
  have s2 := l2.1.1
  unfold shapeE at s1 s2
  dsimp only at s1 s2
  omega
theorem cycTo_nx {f : FSum} {R : List Crn} (hne : R ≠ []) {k : Nat} (hk : k < R.length) : cycTo f R (k + 1) = cycTo f R k + f (nx R k).1 (nx R k).2.1 (nx R (k + 1)).1 (nx R (k + 1)).2.1 := by
  have h1 := nx_get hne k
  rw [Nat.mod_eq_of_lt hk] at h1
  exact cycTo_succ h1 (nx_get hne (k + 1))
theorem ring_area {S : Pix} {R : List Crn} (h : CycR S R) (hne : R ≠ []) : cycTo fA R R.length = cycTo f2 R R.length := by
  have key : ∀ k, k ≤ R.length → cycTo fA R k = cycTo f2 R k - ((nx R k).1 * (nx R k).2.1 - (nx R 0).1 * (nx R 0).2.1) := by
    intro k
    induction k with
    | zero => intro _; show (0 : Int) = 0 - _; omega
    | succ k ih =>
      intro hk
      have i1 := ih (by omega)
      rw [cycTo_nx hne (by omega), cycTo_nx hne (by omega), i1]
      have s1 := (nx_leg h hne k).1.1
      unfold shapeE at s1
      dsimp only at s1
      generalize nx R k = p at *
      generalize nx R (k + 1) = q at *
      unfold fA f2
      by_cases e : p.1 = q.1
      · rw [if_pos e, ← e, Int.mul_sub]
        have : p.2.1 * p.1 = p.1 * p.2.1 := Int.mul_comm _ _
        omega
      · rw [if_neg e]
        have e2 : q.2.1 = p.2.1 := by omega
        rw [e2]
        have : p.2.1 * q.1 = q.1 * p.2.1 := Int.mul_comm _ _
        omega
  have := key R.length (Nat.le_refl _)
  rw [nx_full] at this
  omega
theorem nx_mem {R : List Crn} (hne : R ≠ []) (k : Nat) : nx R k ∈ R := List.mem_of_getElem? (nx_get hne k)
theorem fA_bd {R : List Crn} (hne : R ≠ []) (hb : ∀ x ∈ R, (-4096 ≤ x.1 ∧ x.1 ≤ 4096) ∧ (-4096 ≤ x.2.1 ∧ x.2.1 ≤ 4096)) : ∀ k, k ≤ R.length → -(33554432 * (k : Int)) ≤ cycTo fA R k ∧ cycTo fA R k ≤ 33554432 * (k : Int) := by
  have key : ∀ a b : Int, -4096 ≤ a ∧ a ≤ 4096 → -4096 ≤ b ∧ b ≤ 4096 → -16777216 ≤ a * b ∧ a * b ≤ 16777216 := fun a b h1 h2 => by
    have hn := Int.natAbs_mul a b
    have hle : (a * b).natAbs ≤ 4096 * 4096 := by rw [hn]; exact Nat.mul_le_mul (by omega) (by omega)
    omega
  intro k
  induction k with
  | zero => intro _; exact ⟨by show _ ≤ (0 : Int); omega, by show (0 : Int) ≤ _; omega⟩
  | succ k ih =>
    intro hk
    have i1 := ih (by omega)
    rw [cycTo_nx hne (by omega)]
    have b1 := hb _ (nx_mem hne k)
    have b2 := hb _ (nx_mem hne (k + 1))
    have m1 := key _ _ b1.1 b2.2
    have m2 := key _ _ b1.2 b2.1
    rw [show fA (nx R k).1 (nx R k).2.1 (nx R (k + 1)).1 (nx R (k + 1)).2.1 = (nx R k).1 * (nx R (k + 1)).2.1 - (nx R k).2.1 * (nx R (k + 1)).1 from rfl]
    omega
theorem fW_bd {R : List Crn} (hne : R ≠ []) (X Y : Int) : ∀ k, k ≤ R.length → -(k : Int) ≤ cycTo (fW X Y) R k ∧ cycTo (fW X Y) R k ≤ (k : Int) := by
  intro k
  induction k with
  | zero => intro _; exact ⟨by show _ ≤ (0 : Int); omega, by show (0 : Int) ≤ _; omega⟩
  | succ k ih =>
    intro hk
    have i1 := ih (by omega)
    rw [cycTo_nx hne (by omega)]
    generalize nx R k = p
    generalize nx R (k + 1) = q
    have : -1 ≤ fW X Y p.1 p.2.1 q.1 q.2.1 ∧ fW X Y p.1 p.2.1 q.1 q.2.1 ≤ 1 := by
      unfold fW
      split <;> (try split) <;> (try split) <;> omega
    omega
/-- sums over the first rings -/
def upTo (g : List Crn → Int) (O : List (List Crn)) (k : Nat) : Int := sumL ((O.take k).map g)
theorem upTo_zero (g : List Crn → Int) (O : List (List Crn)) : upTo g O 0 = 0 := by unfold upTo; rw [List.take_zero]; rfl
theorem upTo_succ (g : List Crn → Int) {O : List (List Crn)} {k : Nat} {R : List Crn} (h : O[k]? = some R) : upTo g O (k + 1) = upTo g O k + g R := by
  unfold upTo
  rw [List.take_add_one, h, List.map_append, sumL_append]
  simp [sumL]
theorem upTo_full (g : List Crn → Int) {O : List (List Crn)} {k : Nat} (h : O.length ≤ k) : upTo g O k = sumL (O.map g) := by
  unfold upTo
  rw [List.take_of_length_le h]
theorem upTo_len (O : List (List Crn)) (k : Nat) : 0 ≤ upTo (fun R => (R.length : Int)) O k ∧ upTo (fun R => (R.length : Int)) O k ≤ sumL (O.map fun R => (R.length : Int)) := by
  have nn : ∀ l : List (List Crn), 0 ≤ sumL (l.map fun R => (R.length : Int)) := by
    intro l
    induction l with
    | nil => exact Int.le_refl _
    | cons a l ih => rw [List.map_cons]; unfold sumL; omega
  unfold upTo
  refine ⟨nn _, ?_⟩
  conv => rhs; rw [← List.take_append_drop k O, List.map_append, sumL_append]
  have := nn (O.drop k)
  omega
theorem upTo_bd (g : List Crn → Int) (c : Int) {O : List (List Crn)} (h : ∀ R ∈ O, -(c * R.length) ≤ g R ∧ g R ≤ c * R.length) : ∀ k, k ≤ O.length → -(c * upTo (fun R => (R.length : Int)) O k) ≤ upTo g O k ∧ upTo g O k ≤ c * upTo (fun R => (R.length : Int)) O k := by
  intro k
  induction k with
  | zero => intro _; rw [upTo_zero, upTo_zero]; omega
  | succ k ih =>
    intro hk
    have i1 := ih (by omega)
    obtain ⟨R, hR⟩ : ∃ R, O[k]? = some R := ⟨_, List.getElem?_eq_getElem (by omega)⟩
    have := h R (List.mem_of_getElem? hR)
    rw [upTo_succ _ hR, upTo_succ _ hR, Int.mul_add]
    omega
end Go.Reg
