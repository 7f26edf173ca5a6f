/- Rectangles of the reference; PixelBounds in the program and in the reference. -/
import Derived.Test.YthfeamlioiaebaaBounds2
set_option linter.unusedVariables false
set_option linter.unusedSimpArgs false
namespace Go.Proofs.Ythfeamlioiaebaa
open Go.RowKit Go.Par

theorem _root_.Go.Par.Ext.set4 {w w1 : World} (h : Ext w w1) {b : Nat} (hb : w.heap.size ≤ b) {i j k l : Nat} (u0 u1 u2 u3 : Value) : Ext w ((((w1.setCell ⟨b, i, none⟩ u0).setCell ⟨b, j, none⟩ u1).setCell ⟨b, k, none⟩ u2).setCell ⟨b, l, none⟩ u3) :=
  (((h.setNew hb i u0).setNew hb j u1).setNew hb k u2).setNew hb l u3
theorem _root_.Go.Par.Box.set4 {w : World} {b : Nat} {t : TypeId} {a0 a1 a2 a3 : Value} (h : Box w b t #[a0, a1, a2, a3]) (u0 u1 u2 u3 : Value) : Box ((((w.setCell ⟨b, 0, none⟩ u0).setCell ⟨b, 1, none⟩ u1).setCell ⟨b, 2, none⟩ u2).setCell ⟨b, 3, none⟩ u3) b t #[u0, u1, u2, u3] := by
  simpa using (((h.set 0 u0).set 1 u1).set 2 u2).set 3 u3
/-- a rectangle -/
abbrev R4 := Int × Int × Int × Int
def inR (n : Int) : Bool := decide (-4096 ≤ n) && decide (n ≤ 4096)
def rectValidS (r : R4) : Bool := inR r.1 && inR r.2.1 && inR r.2.2.1 && inR r.2.2.2
def rectEmptyS (r : R4) : Bool := !rectValidS r || decide (r.2.2.1 ≤ r.1) || decide (r.2.2.2 ≤ r.2.1)
def rectCanonS (r : R4) : R4 := if rectEmptyS r then (0, 0, 0, 0) else r
def rectHasS (r : R4) (x y : Int) : Bool := decide ((rectCanonS r).1 ≤ x) && decide (x < (rectCanonS r).2.2.1) && decide ((rectCanonS r).2.1 ≤ y) && decide (y < (rectCanonS r).2.2.2)
def rectV (r : R4) : Value := .agg #[.int .i64 r.1, .int .i64 r.2.1, .int .i64 r.2.2.1, .int .i64 r.2.2.2]
theorem inR_any (n : Int) (w : World) :
    Calls Try.prog 110 #[.int .i64 n] w fun e w' => e = .returned (.bool (inR n)) ∧ w = w' := by
  unfold inR
  go_enter Try.func110, Try.ntmps110
  go_wp2
  all_goals (go_ret; exact ⟨ret_eq (by simp [*] <;> omega), rfl⟩)
set_option maxHeartbeats 800000 in
theorem rectValid_any (a b c d : Int) (w : World) :
    Calls Try.prog 97 #[.agg #[.int .i64 a, .int .i64 b, .int .i64 c, .int .i64 d]] w fun e w' => e = .returned (.bool (rectValidS (a, b, c, d))) ∧ Ext w w' := by
  have hv : rectValidS (a, b, c, d) = (inR a && inR b && inR c && inR d) := rfl
  rw [hv]
  clear hv
  go_enter Try.func97, Try.ntmps97
  go_wp2_with fail
  refine (inR_any _ _).mono ?_
  rintro e w1 ⟨rfl, rfl⟩
  cases h1 : inR a
  · go_wp2
    go_ret
    exact ⟨ret_eq (by simp [*]), Ext.alloc _ _⟩
  · go_wp2_with fail
    refine (inR_any _ _).mono ?_
    rintro e w1 ⟨rfl, rfl⟩
    cases h2 : inR b
    · go_wp2
      go_ret
      exact ⟨ret_eq (by simp [*]), Ext.alloc _ _⟩
    · go_wp2_with fail
      refine (inR_any _ _).mono ?_
      rintro e w1 ⟨rfl, rfl⟩
      cases h3 : inR c
      · go_wp2
        go_ret
        exact ⟨ret_eq (by simp [*]), Ext.alloc _ _⟩
      · go_wp2_with fail
        refine (inR_any _ _).mono ?_
        rintro e w1 ⟨rfl, rfl⟩
        cases h4 : inR d
        · go_wp2
          go_ret
          exact ⟨ret_eq (by simp [*]), Ext.alloc _ _⟩
        · go_wp2
          go_ret
          exact ⟨ret_eq (by simp [*]), Ext.alloc _ _⟩
set_option maxHeartbeats 800000 in
theorem rectEmpty_any (a b c d : Int) (w : World) :
    Calls Try.prog 86 #[.agg #[.int .i64 a, .int .i64 b, .int .i64 c, .int .i64 d]] w fun e w' => e = .returned (.bool (rectEmptyS (a, b, c, d))) ∧ Ext w w' := by
  have hv : rectEmptyS (a, b, c, d) = (!rectValidS (a, b, c, d) || decide (c ≤ a) || decide (d ≤ b)) := rfl
  rw [hv]
  clear hv
  go_enter Try.func86, Try.ntmps86
  go_wp2_with fail
  refine (rectValid_any _ _ _ _ _).mono ?_
  rintro e w1 ⟨rfl, hE⟩
  have B := (Box.new _ _ _).ext hE
  have k := B.cell
  have hE' := (Ext.alloc _ _).trans hE
  clear hE
  cases hv : rectValidS (a, b, c, d)
  · go_wp2
    go_ret
    exact ⟨ret_eq (by simp [*]), hE'⟩
  · go_wp2
    all_goals (go_ret; exact ⟨ret_eq (by simp [*] <;> omega), hE'⟩)
set_option maxHeartbeats 800000 in
theorem rectCanon_any (a b c d : Int) (w : World) :
    Calls Try.prog 52 #[.agg #[.int .i64 a, .int .i64 b, .int .i64 c, .int .i64 d]] w fun e w' => e = .returned (rectV (rectCanonS (a, b, c, d))) ∧ Ext w w' := by
  go_enter Try.func52, Try.ntmps52
  go_wp2_with fail
  refine (rectEmpty_any _ _ _ _ _).mono ?_
  rintro e w1 ⟨rfl, hE⟩
  have B := ((Box.new _ _ _).alloc _).ext hE
  have C := Box.at1.ext hE
  have k := B.cell; have k1 := C.cell; have f1 := C.frozen
  have hE' := ((Ext.alloc _ _).trans (Ext.alloc _ _)).trans hE
  clear hE
  cases hv : rectEmptyS (a, b, c, d)
  · have e0 : rectCanonS (a, b, c, d) = (a, b, c, d) := by unfold rectCanonS; rw [hv]; rfl
    have E := Lib.hid e0
    clear e0
    go_wp2
    exact bodyPost_ret (v := rectV (a, b, c, d)) (by simp [results, Try.results52, go_sem, rectV, k1, f1]) rfl ⟨by rw [E.out], hE'.set4 (Nat.le_succ _) _ _ _ _⟩
  · have e0 : rectCanonS (a, b, c, d) = (0, 0, 0, 0) := by unfold rectCanonS; rw [hv]; rfl
    have E := Lib.hid e0
    clear e0
    go_wp2
    exact bodyPost_ret (v := rectV (0, 0, 0, 0)) (by simp [results, Try.results52, go_sem, rectV, k1, f1]) rfl ⟨by rw [E.out], hE'.set4 (Nat.le_succ _) _ _ _ _⟩
set_option maxHeartbeats 800000 in
theorem rectHas_any (a b c d x y : Int) (w : World) :
    Calls Try.prog 21 #[.agg #[.int .i64 a, .int .i64 b, .int .i64 c, .int .i64 d], .int .i64 x, .int .i64 y] w fun e w' => e = .returned (.bool (rectHasS (a, b, c, d) x y)) ∧ Ext w w' := by
  have H := Lib.hid (rectCanon_any a b c d)
  unfold rectHasS
  generalize rectCanonS (a, b, c, d) = rr at *
  obtain ⟨p, q, r, s⟩ := rr
  unfold rectV at H
  go_enter Try.func21, Try.ntmps21
  go_wp2_with fail
  refine (H.out _).mono ?_
  rintro e w1 ⟨rfl, hE⟩
  have hE' := (Ext.alloc _ _).trans hE
  clear hE
  go_wp2
  all_goals (go_ret; exact ⟨ret_eq (by simp [*] <;> omega), hE'.trans (Ext.alloc _ _)⟩)
/-! ## PixelBounds -/
/-- n / 256, rounded down -/
def pixS (L : List (List P2)) : R4 :=
  if (boundsS L).2.2 then rectCanonS ((boundsS L).1.1 / 256, (boundsS L).1.2 / 256, ((boundsS L).2.1.1 + 255) / 256, ((boundsS L).2.1.2 + 255) / 256) else (0, 0, 0, 0)
theorem down_any (n : Int) (w : World) (h1 : -10000000 ≤ n) (h2 : n ≤ 10000000) :
    Calls Try.prog 53 #[.int .i64 n] w fun e w' => e = .returned (.int .i64 (n / 256)) ∧ w = w' := by
  have e1 := Int.mul_tdiv_add_tmod n 256
  have e2 := Int.tmod_lt_of_pos n (show (0 : Int) < 256 by decide)
  have e3 := Int.lt_tmod_of_pos n (show (0 : Int) < 256 by decide)
  obtain ⟨q, hq⟩ : ∃ q, q = n.tdiv 256 := ⟨_, rfl⟩
  rw [← hq] at e1
  have b1 : q * 256 ≤ 100000000 := by omega
  have b2 : -100000000 ≤ q * 256 := by omega
  have hw : IntKind.i64.wrap (n.tdiv 256) = q := by rw [← hq]; exact IntWalk.i64_in _ (by omega)
  by_cases h : n < q * 256
  · have e : n / 256 = q - 1 := by omega
    rw [e]
    have d1 : decide (n < q * 256) = true := decide_eq_true h
    clear e1 e2 e3 hq
    go_enter Try.func53, Try.ntmps53
    go_wp2
    all_goals (go_ret; exact ⟨rfl, rfl⟩)
  · have e : n / 256 = q := by omega
    rw [e]
    have d1 : decide (n < q * 256) = false := decide_eq_false h
    clear e1 e2 e3 hq
    go_enter Try.func53, Try.ntmps53
    go_wp2
    all_goals (go_ret; exact ⟨rfl, rfl⟩)
theorem up_any (n : Int) (w : World) (h1 : -10000000 ≤ n) (h2 : n ≤ 10000000) :
    Calls Try.prog 51 #[.int .i64 n] w fun e w' => e = .returned (.int .i64 ((n + 255) / 256)) ∧ w = w' := by
  go_enter Try.func51, Try.ntmps51
  go_wp2
  go_ret
  exact ⟨ret_eq (by rw [show n + 255 = n + 256 - 1 by omega]; rfl), rfl⟩
theorem up_call (args : Array Value) (w : World) : (callFunc 51 args).run Try.prog w = .ok (.enter 51 args) w := by kernel_rfl

def inP (p : P2) : Prop := -1048576 ≤ p.1 ∧ p.1 ≤ 1048576 ∧ -1048576 ≤ p.2 ∧ p.2 ≤ 1048576
theorem validS_inP {p : P2} (h : validS p = true) : inP p := by
  simp only [validS, inB, Bool.and_eq_true, decide_eq_true_eq] at h
  unfold inP; omega
theorem inP_min {a p : P2} (ha : inP a) (hp : inP p) : inP (minP a p) := by
  unfold inP minP at *
  simp only
  repeat' split
  all_goals omega
theorem inP_max {a p : P2} (ha : inP a) (hp : inP p) : inP (maxP a p) := by
  unfold inP maxP at *
  simp only
  repeat' split
  all_goals omega
theorem inP_fold {f : P2 → P2 → P2} (hf : ∀ a p, inP a → inP p → inP (f a p)) {l : List P2} {a : P2} (ha : inP a) (hl : ∀ p ∈ l, inP p) : inP (l.foldl f a) := by
  induction l generalizing a with
  | nil => exact ha
  | cons p l ih => exact ih (hf _ _ ha (hl p (by simp))) (fun q hq => hl q (by simp [hq]))
theorem boundsS_inP (L : List (List P2)) : inP (boundsS L).1 ∧ inP (boundsS L).2.1 := by
  have h0 : inP (0, 0) := by unfold inP; simp
  unfold boundsS
  split
  · next hv =>
    have hall : ∀ p ∈ L.flatten, inP p := by
      intro p hp
      simp only [validL, Bool.and_eq_true, List.all_eq_true] at hv
      obtain ⟨r, hr, hpr⟩ := List.mem_flatten.1 hp
      exact validS_inP (hv.2 r hr p hpr)
    generalize L.flatten = l at *
    cases l with
    | nil => exact ⟨h0, h0⟩
    | cons p l => exact ⟨inP_fold (fun _ _ => inP_min) (hall p (by simp)) hall, inP_fold (fun _ _ => inP_max) (hall p (by simp)) hall⟩
  · exact ⟨h0, h0⟩
theorem boundsS_none {L : List (List P2)} (h : (boundsS L).2.2 = false) : boundsS L = ((0, 0), (0, 0), false) := by
  unfold boundsS at h ⊢
  split
  · next hv =>
    rw [if_pos hv] at h
    generalize L.flatten = l at *
    cases l with
    | nil => rfl
    | cons p l => cases h
  · rfl
end Go.Proofs.Ythfeamlioiaebaa
