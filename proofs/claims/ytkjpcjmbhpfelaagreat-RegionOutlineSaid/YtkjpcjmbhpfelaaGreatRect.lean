/- Rectangles: the plain functions, and their contracts in the program and in the reference. -/
import Derived.Test.YtkjpcjmbhpfelaaGreatRowG
import Derived.Test.YtkjpcjmbhpfelaaGreatRgPc
import Derived.Test.YtkjpcjmbhpfelaaGreatRows
set_option linter.unusedVariables false
set_option linter.unusedSimpArgs false
namespace Go.Proofs.YtkjpcjmbhpfelaaGreat
open Go.RowKit Go.Par
open Go.Reg
def rectV (r : R4) : Value := .agg #[.int .i64 r.1, .int .i64 r.2.1, .int .i64 r.2.2.1, .int .i64 r.2.2.2]

theorem _root_.Go.Par.Ext.set4 {w w1 : World} (h : Ext w w1) {b : Nat} (hb : w.heap.size ≤ b) {i j k l : Nat} (u0 u1 u2 u3 : Value) : Ext w ((((w1.setCell ⟨b, i, none⟩ u0).setCell ⟨b, j, none⟩ u1).setCell ⟨b, k, none⟩ u2).setCell ⟨b, l, none⟩ u3) :=
  (((h.setNew hb i u0).setNew hb j u1).setNew hb k u2).setNew hb l u3
theorem _root_.Go.Par.Box.set4 {w : World} {b : Nat} {t : TypeId} {a0 a1 a2 a3 : Value} (h : Box w b t #[a0, a1, a2, a3]) (u0 u1 u2 u3 : Value) : Box ((((w.setCell ⟨b, 0, none⟩ u0).setCell ⟨b, 1, none⟩ u1).setCell ⟨b, 2, none⟩ u2).setCell ⟨b, 3, none⟩ u3) b t #[u0, u1, u2, u3] := by
  simpa using (((h.set 0 u0).set 1 u1).set 2 u2).set 3 u3
def inR (n : Int) : Bool := decide (-4096 ≤ n) && decide (n ≤ 4096)
def rectValidS (r : R4) : Bool := inR r.1 && inR r.2.1 && inR r.2.2.1 && inR r.2.2.2
def rectEmptyS (r : R4) : Bool := !rectValidS r || decide (r.2.2.1 ≤ r.1) || decide (r.2.2.2 ≤ r.2.1)
def rectCanonS (r : R4) : R4 := if rectEmptyS r then (0, 0, 0, 0) else r
def rectHasS (r : R4) (x y : Int) : Bool := decide ((rectCanonS r).1 ≤ x) && decide (x < (rectCanonS r).2.2.1) && decide ((rectCanonS r).2.1 ≤ y) && decide (y < (rectCanonS r).2.2.2)
theorem inR_any (n : Int) (w : World) :
    Calls Tryz.prog 80 #[.int .i64 n] w fun e w' => e = .returned (.bool (inR n)) ∧ w = w' := by
  unfold inR
  go_enter Tryz.func80, Tryz.ntmps80
  go_wp2
  all_goals (go_ret; exact ⟨ret_eq (by simp [*] <;> omega), rfl⟩)
set_option maxHeartbeats 800000 in
theorem rectValid_any (a b c d : Int) (w : World) :
    Calls Tryz.prog 63 #[.agg #[.int .i64 a, .int .i64 b, .int .i64 c, .int .i64 d]] w fun e w' => e = .returned (.bool (rectValidS (a, b, c, d))) ∧ Ext w w' := by
  have hv : rectValidS (a, b, c, d) = (inR a && inR b && inR c && inR d) := rfl
  rw [hv]
  clear hv
  go_enter Tryz.func63, Tryz.ntmps63
  go_wp2_with fail
  refine (inR_any _ _).mono ?_
  rintro e w1 ⟨rfl, rfl⟩
  cases h1 : inR a
  · go_wp2
    go_ret
    exact ⟨ret_eq (by simp [*]), Ext.alloc _ _⟩
  · go_wp2_with fail
    refine (inR_any _ _).mono ?_
    rintro e w1 ⟨rfl, rfl⟩
    cases h2 : inR b
    · go_wp2
      go_ret
      exact ⟨ret_eq (by simp [*]), Ext.alloc _ _⟩
    · go_wp2_with fail
      refine (inR_any _ _).mono ?_
      rintro e w1 ⟨rfl, rfl⟩
      cases h3 : inR c
      · go_wp2
        go_ret
        exact ⟨ret_eq (by simp [*]), Ext.alloc _ _⟩
      · go_wp2_with fail
        refine (inR_any _ _).mono ?_
        rintro e w1 ⟨rfl, rfl⟩
        cases h4 : inR d
        · go_wp2
          go_ret
          exact ⟨ret_eq (by simp [*]), Ext.alloc _ _⟩
        · go_wp2
          go_ret
          exact ⟨ret_eq (by simp [*]), Ext.alloc _ _⟩
set_option maxHeartbeats 800000 in
theorem rectEmpty_any (a b c d : Int) (w : World) :
    Calls Tryz.prog 41 #[.agg #[.int .i64 a, .int .i64 b, .int .i64 c, .int .i64 d]] w fun e w' => e = .returned (.bool (rectEmptyS (a, b, c, d))) ∧ Ext w w' := by
  have hv : rectEmptyS (a, b, c, d) = (!rectValidS (a, b, c, d) || decide (c ≤ a) || decide (d ≤ b)) := rfl
  rw [hv]
  clear hv
  go_enter Tryz.func41, Tryz.ntmps41
  go_wp2_with fail
  refine (rectValid_any _ _ _ _ _).mono ?_
  rintro e w1 ⟨rfl, hE⟩
  have B := (Box.new _ _ _).ext hE
  have k := B.cell
  have hE' := (Ext.alloc _ _).trans hE
  clear hE
  cases hv : rectValidS (a, b, c, d)
  · go_wp2
    go_ret
    exact ⟨ret_eq (by simp [*]), hE'⟩
  · go_wp2
    all_goals (go_ret; exact ⟨ret_eq (by simp [*] <;> omega), hE'⟩)
set_option maxHeartbeats 800000 in
theorem rectCanon_any (a b c d : Int) (w : World) :
    Calls Tryz.prog 92 #[.agg #[.int .i64 a, .int .i64 b, .int .i64 c, .int .i64 d]] w fun e w' => e = .returned (rectV (rectCanonS (a, b, c, d))) ∧ Ext w w' := by
  go_enter Tryz.func92, Tryz.ntmps92
  go_wp2_with fail
  refine (rectEmpty_any _ _ _ _ _).mono ?_
  rintro e w1 ⟨rfl, hE⟩
  have B := ((Box.new _ _ _).alloc _).ext hE
  have C := Box.at1.ext hE
  have k := B.cell; have k1 := C.cell; have f1 := C.frozen
  have hE' := ((Ext.alloc _ _).trans (Ext.alloc _ _)).trans hE
  clear hE
  cases hv : rectEmptyS (a, b, c, d)
  · have e0 : rectCanonS (a, b, c, d) = (a, b, c, d) := by unfold rectCanonS; rw [hv]; rfl
    have E := Lib.hid e0
    clear e0
    go_wp2
    exact bodyPost_ret (v := rectV (a, b, c, d)) (by simp [results, Tryz.results92, go_sem, rectV, k1, f1]) rfl ⟨by rw [E.out], hE'.set4 (Nat.le_succ _) _ _ _ _⟩
  · have e0 : rectCanonS (a, b, c, d) = (0, 0, 0, 0) := by unfold rectCanonS; rw [hv]; rfl
    have E := Lib.hid e0
    clear e0
    go_wp2
    exact bodyPost_ret (v := rectV (0, 0, 0, 0)) (by simp [results, Tryz.results92, go_sem, rectV, k1, f1]) rfl ⟨by rw [E.out], hE'.set4 (Nat.le_succ _) _ _ _ _⟩
set_option maxHeartbeats 800000 in
theorem rectHas_any (a b c d x y : Int) (w : World) :
    Calls Tryz.prog 81 #[.agg #[.int .i64 a, .int .i64 b, .int .i64 c, .int .i64 d], .int .i64 x, .int .i64 y] w fun e w' => e = .returned (.bool (rectHasS (a, b, c, d) x y)) ∧ Ext w w' := by
  have H := Lib.hid (rectCanon_any a b c d)
  unfold rectHasS
  generalize rectCanonS (a, b, c, d) = rr at *
  obtain ⟨p, q, r, s⟩ := rr
  unfold rectV at H
  go_enter Tryz.func81, Tryz.ntmps81
  go_wp2_with fail
  refine (H.out _).mono ?_
  rintro e w1 ⟨rfl, hE⟩
  have hE' := (Ext.alloc _ _).trans hE
  clear hE
  go_wp2
  all_goals (go_ret; exact ⟨ret_eq (by simp [*] <;> omega), hE'.trans (Ext.alloc _ _)⟩)
theorem pMay_any (n : Int) (w : World) :
    Calls Tryz.prog 88 #[.int .i64 n] w fun e w' => e = .returned (.bool (inR n)) ∧ w = w' := by
  unfold inR
  go_enter Tryz.func88, Tryz.ntmps88
  go_wp2
  all_goals (go_ret; exact ⟨ret_eq (by simp [*] <;> omega), rfl⟩)
set_option maxHeartbeats 800000 in
theorem pValid_any (a b c d : Int) (w : World) :
    Calls Tryz.prog 72 #[.agg #[.int .i64 a, .int .i64 b, .int .i64 c, .int .i64 d]] w fun e w' => e = .returned (.bool (rectValidS (a, b, c, d))) ∧ Ext w w' := by
  have hv : rectValidS (a, b, c, d) = (inR a && inR b && inR c && inR d) := rfl
  rw [hv]
  clear hv
  go_enter Tryz.func72, Tryz.ntmps72
  go_wp2_with fail
  refine (pMay_any _ _).mono ?_
  rintro e w1 ⟨rfl, rfl⟩
  cases h1 : inR a
  · go_wp2
    go_ret
    exact ⟨ret_eq (by simp [*]), Ext.alloc _ _⟩
  · go_wp2_with fail
    refine (pMay_any _ _).mono ?_
    rintro e w1 ⟨rfl, rfl⟩
    cases h2 : inR b
    · go_wp2
      go_ret
      exact ⟨ret_eq (by simp [*]), Ext.alloc _ _⟩
    · go_wp2_with fail
      refine (pMay_any _ _).mono ?_
      rintro e w1 ⟨rfl, rfl⟩
      cases h3 : inR c
      · go_wp2
        go_ret
        exact ⟨ret_eq (by simp [*]), Ext.alloc _ _⟩
      · go_wp2_with fail
        refine (pMay_any _ _).mono ?_
        rintro e w1 ⟨rfl, rfl⟩
        cases h4 : inR d
        · go_wp2
          go_ret
          exact ⟨ret_eq (by simp [*]), Ext.alloc _ _⟩
        · go_wp2
          go_ret
          exact ⟨ret_eq (by simp [*]), Ext.alloc _ _⟩
set_option maxHeartbeats 800000 in
theorem pEmpty_any (a b c d : Int) (w : World) :
    Calls Tryz.prog 51 #[.agg #[.int .i64 a, .int .i64 b, .int .i64 c, .int .i64 d]] w fun e w' => e = .returned (.bool (rectEmptyS (a, b, c, d))) ∧ Ext w w' := by
  have hv : rectEmptyS (a, b, c, d) = (!rectValidS (a, b, c, d) || decide (c ≤ a) || decide (d ≤ b)) := rfl
  rw [hv]
  clear hv
  go_enter Tryz.func51, Tryz.ntmps51
  go_wp2_with fail
  refine (pValid_any _ _ _ _ _).mono ?_
  rintro e w1 ⟨rfl, hE⟩
  have B := (Box.new _ _ _).ext hE
  have k := B.cell
  have hE' := (Ext.alloc _ _).trans hE
  clear hE
  cases hv : rectValidS (a, b, c, d)
  · go_wp2
    go_ret
    exact ⟨ret_eq (by simp [*]), hE'⟩
  · go_wp2
    all_goals (go_ret; exact ⟨ret_eq (by simp [*] <;> omega), hE'⟩)
set_option maxHeartbeats 800000 in
theorem pCanon_any (a b c d : Int) (w : World) :
    Calls Tryz.prog 49 #[.agg #[.int .i64 a, .int .i64 b, .int .i64 c, .int .i64 d]] w fun e w' => e = .returned (rectV (rectCanonS (a, b, c, d))) ∧ Ext w w' := by
  go_enter Tryz.func49, Tryz.ntmps49
  go_wp2_with fail
  refine (pEmpty_any _ _ _ _ _).mono ?_
  rintro e w1 ⟨rfl, hE⟩
  have B := ((Box.new _ _ _).alloc _).ext hE
  have C := Box.at1.ext hE
  have k := B.cell; have k1 := C.cell; have f1 := C.frozen
  have hE' := ((Ext.alloc _ _).trans (Ext.alloc _ _)).trans hE
  clear hE
  cases hv : rectEmptyS (a, b, c, d)
  · have e0 : rectCanonS (a, b, c, d) = (a, b, c, d) := by unfold rectCanonS; rw [hv]; rfl
    have E := Lib.hid e0
    clear e0
    go_wp2
    exact bodyPost_ret (v := rectV (a, b, c, d)) (by simp [results, Tryz.results49, go_sem, rectV, k1, f1]) rfl ⟨by rw [E.out], hE'.set4 (Nat.le_succ _) _ _ _ _⟩
  · have e0 : rectCanonS (a, b, c, d) = (0, 0, 0, 0) := by unfold rectCanonS; rw [hv]; rfl
    have E := Lib.hid e0
    clear e0
    go_wp2
    exact bodyPost_ret (v := rectV (0, 0, 0, 0)) (by simp [results, Tryz.results49, go_sem, rectV, k1, f1]) rfl ⟨by rw [E.out], hE'.set4 (Nat.le_succ _) _ _ _ _⟩

theorem canon_in (r : R4) : inR (rectCanonS r).1 = true ∧ inR (rectCanonS r).2.1 = true ∧ inR (rectCanonS r).2.2.1 = true ∧ inR (rectCanonS r).2.2.2 = true ∧ (rectCanonS r).1 ≤ (rectCanonS r).2.2.1 ∧ (rectCanonS r).2.1 ≤ (rectCanonS r).2.2.2 := by
  unfold rectCanonS
  split
  · exact ⟨rfl, rfl, rfl, rfl, Int.le_refl _, Int.le_refl _⟩
  · next h =>
    simp only [rectEmptyS, rectValidS, Bool.or_eq_true, Bool.not_eq_true', Bool.and_eq_true, decide_eq_true_eq, not_or, Bool.not_eq_false, Int.not_le] at h
    obtain ⟨⟨⟨⟨⟨h1, h2⟩, h3⟩, h4⟩, h5⟩, h6⟩ := h
    exact ⟨h1, h2, h3, h4, by omega, by omega⟩
theorem inR_bd {n : Int} (h : inR n = true) : -4096 ≤ n ∧ n ≤ 4096 := by
  simpa [inR] using h
def areaR (r : R4) : Int := ((rectCanonS r).2.2.1 - (rectCanonS r).1) * ((rectCanonS r).2.2.2 - (rectCanonS r).2.1)
theorem mul_le {a b x y : Int} (h1 : 0 ≤ x) (h2 : x ≤ a) (h3 : 0 ≤ y) (h4 : y ≤ b) : 0 ≤ x * y ∧ x * y ≤ a * b :=
  ⟨Int.mul_nonneg h1 h3, Int.mul_le_mul h2 h4 h3 (Int.le_trans h1 h2)⟩
theorem areaR_bd (r : R4) : 0 ≤ areaR r ∧ areaR r ≤ 67108864 := by
  obtain ⟨h1, h2, h3, h4, h5, h6⟩ := canon_in r
  have := inR_bd h1; have := inR_bd h2; have := inR_bd h3; have := inR_bd h4
  unfold areaR
  have b := mul_le (a := 8192) (b := 8192) (x := (rectCanonS r).2.2.1 - (rectCanonS r).1) (y := (rectCanonS r).2.2.2 - (rectCanonS r).2.1) (by omega) (by omega) (by omega) (by omega)
  omega
def hasR (r : R4) (x y : Int) : Bool := !rectEmptyS r && decide (r.1 ≤ x) && decide (x < r.2.2.1) && decide (r.2.1 ≤ y) && decide (y < r.2.2.2)
theorem has_eq (r : R4) (x y : Int) : hasR r x y = rectHasS r x y := by
  unfold hasR rectHasS rectCanonS
  cases h : rectEmptyS r
  · simp
  · simp <;> omega
set_option maxHeartbeats 800000 in
theorem pHas_any (a b c d x y : Int) (w : World) :
    Calls Tryz.prog 36 #[.agg #[.int .i64 a, .int .i64 b, .int .i64 c, .int .i64 d], .int .i64 x, .int .i64 y] w fun e w' => e = .returned (.bool (rectHasS (a, b, c, d) x y)) ∧ Ext w w' := by
  have hv : rectHasS (a, b, c, d) x y = (!rectEmptyS (a, b, c, d) && decide (a ≤ x) && decide (x < c) && decide (b ≤ y) && decide (y < d)) := (has_eq _ _ _).symm
  rw [hv]
  clear hv
  go_enter Tryz.func36, Tryz.ntmps36
  go_wp2_with fail
  refine (pEmpty_any _ _ _ _ _).mono ?_
  rintro e w1 ⟨rfl, hE⟩
  have B := (Box.new _ _ _).ext hE
  have k := B.cell
  have hE' := (Ext.alloc _ _).trans hE
  clear hE
  cases hv : rectEmptyS (a, b, c, d)
  · go_wp2
    all_goals (go_ret; exact ⟨ret_eq (by simp [*] <;> omega), hE'⟩)
  · go_wp2
    go_ret
    exact ⟨ret_eq (by simp [*]), hE'⟩
set_option maxHeartbeats 800000 in
theorem pArea_any (a b c d : Int) (w : World) :
    Calls Tryz.prog 33 #[.agg #[.int .i64 a, .int .i64 b, .int .i64 c, .int .i64 d]] w fun e w' => e = .returned (.int .i64 (areaR (a, b, c, d))) ∧ Ext w w' := by
  have H := Lib.hid (pCanon_any a b c d)
  have hbd := areaR_bd (a, b, c, d)
  obtain ⟨h1, h2, h3, h4, h5, h6⟩ := canon_in (a, b, c, d)
  unfold areaR at hbd ⊢
  generalize rectCanonS (a, b, c, d) = rr at *
  obtain ⟨p, q, r, s⟩ := rr
  unfold rectV at H
  simp only at h1 h2 h3 h4 h5 h6 hbd ⊢
  have := inR_bd h1; have := inR_bd h2; have := inR_bd h3; have := inR_bd h4
  have w1 : IntKind.i64.wrap (r - p) = r - p := IntWalk.i64_in _ (by omega)
  have w2 : IntKind.i64.wrap (s - q) = s - q := IntWalk.i64_in _ (by omega)
  have w3 : IntKind.i64.wrap ((r - p) * (s - q)) = (r - p) * (s - q) := IntWalk.i64_in _ (by omega)
  clear h1 h2 h3 h4 h5 h6 hbd
  go_enter Tryz.func33, Tryz.ntmps33
  go_wp2_with fail
  refine (H.out _).mono ?_
  rintro e w1 ⟨rfl, hE⟩
  have B := (Box.new _ _ _).ext hE
  have k := B.cell
  have f := B.frozen
  have hE' := (Ext.alloc _ _).trans hE
  clear hE
  go_wp2
  go_ret
  exact ⟨rfl, hE'.set4 (Nat.le_refl _) _ _ _ _⟩
end Go.Proofs.YtkjpcjmbhpfelaaGreat