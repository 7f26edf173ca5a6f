/- Points as pairs of numbers: the plain functions that the vector layer computes. No program stands here. -/
set_option linter.unusedVariables false
set_option linter.unusedSimpArgs false
namespace Go.Proofs.Ythfeamlioiaebaa
abbrev P2 := Int × Int
def clampS (n lo hi : Int) : Int := if n < lo then lo else if hi < n then hi else n
def heldS (n : Int) : Int := clampS n (-1048576) 1048576
def holdS (p : P2) : P2 := (heldS p.1, heldS p.2)
/-- a coordinate in bounds -/
def inB (n : Int) : Bool := decide (-1048576 ≤ n) && decide (n ≤ 1048576)
def validS (p : P2) : Bool := inB p.1 && inB p.2
def crossS (p q : P2) : Int := p.1 * q.2 - p.2 * q.1
def subS (p q : P2) : P2 := (heldS p.1 - heldS q.1, heldS p.2 - heldS q.2)
def addS (p q : P2) : P2 := (heldS p.1 + heldS q.1, heldS p.2 + heldS q.2)
def orientS (a b p : P2) : Int := clampS (crossS (subS b a) (subS p a)) (-1) 1
def lessS (p q : P2) : Bool := decide (heldS p.2 < heldS q.2) || (heldS p.2 == heldS q.2 && decide (heldS p.1 < heldS q.1))
theorem clampS_lo (n : Int) {lo hi : Int} (h : lo ≤ hi) : lo ≤ clampS n lo hi := by unfold clampS; split <;> (try split) <;> omega
theorem clampS_hi (n : Int) {lo hi : Int} (h : lo ≤ hi) : clampS n lo hi ≤ hi := by unfold clampS; split <;> (try split) <;> omega
theorem heldS_lo (n : Int) : -1048576 ≤ heldS n := clampS_lo n (by decide)
theorem heldS_hi (n : Int) : heldS n ≤ 1048576 := clampS_hi n (by decide)
theorem heldS_eq {n : Int} (h : inB n = true) : heldS n = n := by
  simp only [inB, Bool.and_eq_true, decide_eq_true_eq] at h
  unfold heldS clampS
  rw [if_neg (by omega), if_neg (by omega)]
theorem heldS_iff (n : Int) : heldS n = n ↔ inB n = true := by
  constructor
  · intro h
    have h1 := heldS_lo n
    have h2 := heldS_hi n
    simp only [inB, Bool.and_eq_true, decide_eq_true_eq]
    omega
  · exact heldS_eq
theorem holdS_iff (p : P2) : holdS p = p ↔ validS p = true := by
  obtain ⟨x, y⟩ := p
  simp only [holdS, Prod.mk.injEq, heldS_iff, validS, Bool.and_eq_true]
def sgnS (n : Int) : Int := if n < 0 then -1 else if 0 < n then 1 else 0
theorem clamp_sgn (n : Int) : clampS n (-1) 1 = sgnS n := by
  unfold clampS sgnS
  split <;> split <;> (try split) <;> (try split) <;> omega
theorem orientS_sgn (a b p : P2) : orientS a b p = sgnS (crossS (subS b a) (subS p a)) := clamp_sgn _
theorem mul_bd {x y a b : Int} (ha : 0 ≤ a) (hb : 0 ≤ b) (h1 : -a ≤ x) (h2 : x ≤ a) (h3 : -b ≤ y) (h4 : y ≤ b) : -(a * b) ≤ x * y ∧ x * y ≤ a * b := by
  have e1 := Int.mul_nonneg (show 0 ≤ a + x by omega) (show 0 ≤ b + y by omega)
  have e2 := Int.mul_nonneg (show 0 ≤ a - x by omega) (show 0 ≤ b - y by omega)
  have e3 := Int.mul_nonneg (show 0 ≤ a + x by omega) (show 0 ≤ b - y by omega)
  have e4 := Int.mul_nonneg (show 0 ≤ a - x by omega) (show 0 ≤ b + y by omega)
  simp only [Int.add_mul, Int.sub_mul, Int.mul_add, Int.mul_sub] at e1 e2 e3 e4
  omega
end Go.Proofs.Ythfeamlioiaebaa
