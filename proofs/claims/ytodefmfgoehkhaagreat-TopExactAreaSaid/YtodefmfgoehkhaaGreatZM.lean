/- Texts put together: Rect, Pix, Pix2, Pix3, Example, Copy, Rows2, Trans. -/
import Derived.Test.YtodefmfgoehkhaaGreatZB
import Derived.Test.YtodefmfgoehkhaaGreatZK
import Derived.Test.YtodefmfgoehkhaaGreatZL
/- Rectangles: the plain functions, and their contracts in the program and in the reference. -/
set_option linter.unusedVariables false
set_option linter.unusedSimpArgs false
namespace Go.Proofs.YtodefmfgoehkhaaGreat
open Go.RowKit Go.Par
abbrev R4 := Int × Int × Int × Int
def rectV (r : R4) : Value := .agg #[.int .i64 r.1, .int .i64 r.2.1, .int .i64 r.2.2.1, .int .i64 r.2.2.2]

theorem _root_.Go.Par.Ext.set4 {w w1 : World} (h : Ext w w1) {b : Nat} (hb : w.heap.size ≤ b) {i j k l : Nat} (u0 u1 u2 u3 : Value) : Ext w ((((w1.setCell ⟨b, i, none⟩ u0).setCell ⟨b, j, none⟩ u1).setCell ⟨b, k, none⟩ u2).setCell ⟨b, l, none⟩ u3) :=
  (((h.setNew hb i u0).setNew hb j u1).setNew hb k u2).setNew hb l u3
theorem _root_.Go.Par.Box.set4 {w : World} {b : Nat} {t : TypeId} {a0 a1 a2 a3 : Value} (h : Box w b t #[a0, a1, a2, a3]) (u0 u1 u2 u3 : Value) : Box ((((w.setCell ⟨b, 0, none⟩ u0).setCell ⟨b, 1, none⟩ u1).setCell ⟨b, 2, none⟩ u2).setCell ⟨b, 3, none⟩ u3) b t #[u0, u1, u2, u3] := by
  simpa using (((h.set 0 u0).set 1 u1).set 2 u2).set 3 u3
def inR (n : Int) : Bool := decide (-4096 ≤ n) && decide (n ≤ 4096)
def rectValidS (r : R4) : Bool := inR r.1 && inR r.2.1 && inR r.2.2.1 && inR r.2.2.2
def rectEmptyS (r : R4) : Bool := !rectValidS r || decide (r.2.2.1 ≤ r.1) || decide (r.2.2.2 ≤ r.2.1)
def rectCanonS (r : R4) : R4 := if rectEmptyS r then (0, 0, 0, 0) else r
def rectHasS (r : R4) (x y : Int) : Bool := decide ((rectCanonS r).1 ≤ x) && decide (x < (rectCanonS r).2.2.1) && decide ((rectCanonS r).2.1 ≤ y) && decide (y < (rectCanonS r).2.2.2)
theorem pMay_any (n : Int) (w : World) :
    Calls Tryz.prog 49 #[.int .i64 n] w fun e w' => e = .returned (.bool (inR n)) ∧ w = w' := by
  unfold inR
  go_enter Tryz.func49, Tryz.ntmps49
  go_wp2
  all_goals (go_ret; exact ⟨ret_eq (by simp [*] <;> omega), rfl⟩)
set_option maxHeartbeats 800000 in
theorem pValid_any (a b c d : Int) (w : World) :
    Calls Tryz.prog 23 #[.agg #[.int .i64 a, .int .i64 b, .int .i64 c, .int .i64 d]] w fun e w' => e = .returned (.bool (rectValidS (a, b, c, d))) ∧ Ext w w' := by
  have hv : rectValidS (a, b, c, d) = (inR a && inR b && inR c && inR d) := rfl
  rw [hv]
  clear hv
  go_enter Tryz.func23, Tryz.ntmps23
  go_wp2_with fail
  refine (pMay_any _ _).mono ?_
  rintro e w1 ⟨rfl, rfl⟩
  cases h1 : inR a
  · go_wp2
    go_ret
    exact ⟨ret_eq (by simp [*]), Ext.alloc _ _⟩
  · go_wp2_with fail
    refine (pMay_any _ _).mono ?_
    rintro e w1 ⟨rfl, rfl⟩
    cases h2 : inR b
    · go_wp2
      go_ret
      exact ⟨ret_eq (by simp [*]), Ext.alloc _ _⟩
    · go_wp2_with fail
      refine (pMay_any _ _).mono ?_
      rintro e w1 ⟨rfl, rfl⟩
      cases h3 : inR c
      · go_wp2
        go_ret
        exact ⟨ret_eq (by simp [*]), Ext.alloc _ _⟩
      · go_wp2_with fail
        refine (pMay_any _ _).mono ?_
        rintro e w1 ⟨rfl, rfl⟩
        cases h4 : inR d
        · go_wp2
          go_ret
          exact ⟨ret_eq (by simp [*]), Ext.alloc _ _⟩
        · go_wp2
          go_ret
          exact ⟨ret_eq (by simp [*]), Ext.alloc _ _⟩
set_option maxHeartbeats 800000 in
theorem pEmpty_any (a b c d : Int) (w : World) :
    Calls Tryz.prog 50 #[.agg #[.int .i64 a, .int .i64 b, .int .i64 c, .int .i64 d]] w fun e w' => e = .returned (.bool (rectEmptyS (a, b, c, d))) ∧ Ext w w' := by
  have hv : rectEmptyS (a, b, c, d) = (!rectValidS (a, b, c, d) || decide (c ≤ a) || decide (d ≤ b)) := rfl
  rw [hv]
  clear hv
  go_enter Tryz.func50, Tryz.ntmps50
  go_wp2_with fail
  refine (pValid_any _ _ _ _ _).mono ?_
  rintro e w1 ⟨rfl, hE⟩
  have B := (Box.new _ _ _).ext hE
  have k := B.cell
  have hE' := (Ext.alloc _ _).trans hE
  clear hE
  cases hv : rectValidS (a, b, c, d)
  · go_wp2
    go_ret
    exact ⟨ret_eq (by simp [*]), hE'⟩
  · go_wp2
    all_goals (go_ret; exact ⟨ret_eq (by simp [*] <;> omega), hE'⟩)
set_option maxHeartbeats 800000 in
theorem pCanon_any (a b c d : Int) (w : World) :
    Calls Tryz.prog 25 #[.agg #[.int .i64 a, .int .i64 b, .int .i64 c, .int .i64 d]] w fun e w' => e = .returned (rectV (rectCanonS (a, b, c, d))) ∧ Ext w w' := by
  go_enter Tryz.func25, Tryz.ntmps25
  go_wp2_with fail
  refine (pEmpty_any _ _ _ _ _).mono ?_
  rintro e w1 ⟨rfl, hE⟩
  have B := ((Box.new _ _ _).alloc _).ext hE
  have C := Box.at1.ext hE
  have k := B.cell; have k1 := C.cell; have f1 := C.frozen
  have hE' := ((Ext.alloc _ _).trans (Ext.alloc _ _)).trans hE
  clear hE
  cases hv : rectEmptyS (a, b, c, d)
  · have e0 : rectCanonS (a, b, c, d) = (a, b, c, d) := by unfold rectCanonS; rw [hv]; rfl
    have E := Lib.hid e0
    clear e0
    go_wp2
    exact bodyPost_ret (v := rectV (a, b, c, d)) (by simp [results, Tryz.results25, go_sem, rectV, k1, f1]) rfl ⟨by rw [E.out], hE'.set4 (Nat.le_succ _) _ _ _ _⟩
  · have e0 : rectCanonS (a, b, c, d) = (0, 0, 0, 0) := by unfold rectCanonS; rw [hv]; rfl
    have E := Lib.hid e0
    clear e0
    go_wp2
    exact bodyPost_ret (v := rectV (0, 0, 0, 0)) (by simp [results, Tryz.results25, go_sem, rectV, k1, f1]) rfl ⟨by rw [E.out], hE'.set4 (Nat.le_succ _) _ _ _ _⟩

theorem canon_in (r : R4) : inR (rectCanonS r).1 = true ∧ inR (rectCanonS r).2.1 = true ∧ inR (rectCanonS r).2.2.1 = true ∧ inR (rectCanonS r).2.2.2 = true ∧ (rectCanonS r).1 ≤ (rectCanonS r).2.2.1 ∧ (rectCanonS r).2.1 ≤ (rectCanonS r).2.2.2 := by
  unfold rectCanonS
  split
  · exact ⟨rfl, rfl, rfl, rfl, Int.le_refl _, Int.le_refl _⟩
  · next h =>
    simp only [rectEmptyS, rectValidS, Bool.or_eq_true, Bool.not_eq_true', Bool.and_eq_true, decide_eq_true_eq, not_or, Bool.not_eq_false, Int.not_le] at h
    obtain ⟨⟨⟨⟨⟨h1, h2⟩, h3⟩, h4⟩, h5⟩, h6⟩ := h
    exact ⟨h1, h2, h3, h4, by omega, by omega⟩
theorem inR_bd {n : Int} (h : inR n = true) : -4096 ≤ n ∧ n ≤ 4096 := by
  simpa [inR] using h
def areaR (r : R4) : Int := ((rectCanonS r).2.2.1 - (rectCanonS r).1) * ((rectCanonS r).2.2.2 - (rectCanonS r).2.1)
theorem mul_le {a b x y : Int} (h1 : 0 ≤ x) (h2 : x ≤ a) (h3 : 0 ≤ y) (h4 : y ≤ b) : 0 ≤ x * y ∧ x * y ≤ a * b :=
  ⟨Int.mul_nonneg h1 h3, Int.mul_le_mul h2 h4 h3 (Int.le_trans h1 h2)⟩
theorem areaR_bd (r : R4) : 0 ≤ areaR r ∧ areaR r ≤ 67108864 := by
  obtain ⟨h1, h2, h3, h4, h5, h6⟩ := canon_in r
  have := inR_bd h1; have := inR_bd h2; have := inR_bd h3; have := inR_bd h4
  unfold areaR
  have b := mul_le (a := 8192) (b := 8192) (x := (rectCanonS r).2.2.1 - (rectCanonS r).1) (y := (rectCanonS r).2.2.2 - (rectCanonS r).2.1) (by omega) (by omega) (by omega) (by omega)
  omega
def hasR (r : R4) (x y : Int) : Bool := !rectEmptyS r && decide (r.1 ≤ x) && decide (x < r.2.2.1) && decide (r.2.1 ≤ y) && decide (y < r.2.2.2)
theorem has_eq (r : R4) (x y : Int) : hasR r x y = rectHasS r x y := by
  unfold hasR rectHasS rectCanonS
  cases h : rectEmptyS r
  · simp
  · simp <;> omega
set_option maxHeartbeats 800000 in
theorem pHas_any (a b c d x y : Int) (w : World) :
    Calls Tryz.prog 51 #[.agg #[.int .i64 a, .int .i64 b, .int .i64 c, .int .i64 d], .int .i64 x, .int .i64 y] w fun e w' => e = .returned (.bool (rectHasS (a, b, c, d) x y)) ∧ Ext w w' := by
  have hv : rectHasS (a, b, c, d) x y = (!rectEmptyS (a, b, c, d) && decide (a ≤ x) && decide (x < c) && decide (b ≤ y) && decide (y < d)) := (has_eq _ _ _).symm
  rw [hv]
  clear hv
  go_enter Tryz.func51, Tryz.ntmps51
  go_wp2_with fail
  refine (pEmpty_any _ _ _ _ _).mono ?_
  rintro e w1 ⟨rfl, hE⟩
  have B := (Box.new _ _ _).ext hE
  have k := B.cell
  have hE' := (Ext.alloc _ _).trans hE
  clear hE
  cases hv : rectEmptyS (a, b, c, d)
  · go_wp2
    all_goals (go_ret; exact ⟨ret_eq (by simp [*] <;> omega), hE'⟩)
  · go_wp2
    go_ret
    exact ⟨ret_eq (by simp [*]), hE'⟩
set_option maxHeartbeats 800000 in
theorem pArea_any (a b c d : Int) (w : World) :
    Calls Tryz.prog 24 #[.agg #[.int .i64 a, .int .i64 b, .int .i64 c, .int .i64 d]] w fun e w' => e = .returned (.int .i64 (areaR (a, b, c, d))) ∧ Ext w w' := by
  have H := Lib.hid (pCanon_any a b c d)
  have hbd := areaR_bd (a, b, c, d)
  obtain ⟨h1, h2, h3, h4, h5, h6⟩ := canon_in (a, b, c, d)
  unfold areaR at hbd ⊢
  generalize rectCanonS (a, b, c, d) = rr at *
  obtain ⟨p, q, r, s⟩ := rr
  unfold rectV at H
  simp only at h1 h2 h3 h4 h5 h6 hbd ⊢
  have := inR_bd h1; have := inR_bd h2; have := inR_bd h3; have := inR_bd h4
  have w1 : IntKind.i64.wrap (r - p) = r - p := IntWalk.i64_in _ (by omega)
  have w2 : IntKind.i64.wrap (s - q) = s - q := IntWalk.i64_in _ (by omega)
  have w3 : IntKind.i64.wrap ((r - p) * (s - q)) = (r - p) * (s - q) := IntWalk.i64_in _ (by omega)
  clear h1 h2 h3 h4 h5 h6 hbd
  go_enter Tryz.func24, Tryz.ntmps24
  go_wp2_with fail
  refine (H.out _).mono ?_
  rintro e w1 ⟨rfl, hE⟩
  have B := (Box.new _ _ _).ext hE
  have k := B.cell
  have f := B.frozen
  have hE' := (Ext.alloc _ _).trans hE
  clear hE
  go_wp2
  go_ret
  exact ⟨rfl, hE'.set4 (Nat.le_refl _) _ _ _ _⟩
end Go.Proofs.YtodefmfgoehkhaaGreat
/- Rectangles of the reference; PixelBounds in the program and in the reference. -/
set_option linter.unusedVariables false
set_option linter.unusedSimpArgs false
namespace Go.Proofs.YtodefmfgoehkhaaGreat
open Go.RowKit Go.Par

/-! ## PixelBounds -/
/-- n / 256, rounded down -/
def pixS (L : List (List P2)) : R4 :=
  if (boundsS L).2.2 then rectCanonS ((boundsS L).1.1 / 256, (boundsS L).1.2 / 256, ((boundsS L).2.1.1 + 255) / 256, ((boundsS L).2.1.2 + 255) / 256) else (0, 0, 0, 0)
theorem up_any (n : Int) (w : World) (h1 : -10000000 ≤ n) (h2 : n ≤ 10000000) :
    Calls Tryz.prog 20 #[.int .i64 n] w fun e w' => e = .returned (.int .i64 ((n + 255) / 256)) ∧ w = w' := by
  go_enter Tryz.func20, Tryz.ntmps20
  go_wp2
  go_ret
  exact ⟨ret_eq (by rw [show n + 255 = n + 256 - 1 by omega]; rfl), rfl⟩
theorem up_call (args : Array Value) (w : World) : (callFunc 20 args).run Tryz.prog w = .ok (.enter 20 args) w := by kernel_rfl

def inP (p : P2) : Prop := -1048576 ≤ p.1 ∧ p.1 ≤ 1048576 ∧ -1048576 ≤ p.2 ∧ p.2 ≤ 1048576
theorem validS_inP {p : P2} (h : validS p = true) : inP p := by
  simp only [validS, inB, Bool.and_eq_true, decide_eq_true_eq] at h
  unfold inP; omega
theorem inP_min {a p : P2} (ha : inP a) (hp : inP p) : inP (minP a p) := by
  unfold inP minP at *
  simp only
  repeat' split
  all_goals omega
theorem inP_max {a p : P2} (ha : inP a) (hp : inP p) : inP (maxP a p) := by
  unfold inP maxP at *
  simp only
  repeat' split
  all_goals omega
theorem inP_fold {f : P2 → P2 → P2} (hf : ∀ a p, inP a → inP p → inP (f a p)) {l : List P2} {a : P2} (ha : inP a) (hl : ∀ p ∈ l, inP p) : inP (l.foldl f a) := by
  induction l generalizing a with
  | nil => exact ha
  | cons p l ih => exact ih (hf _ _ ha (hl p (by simp))) (fun q hq => hl q (by simp [hq]))
theorem boundsS_inP (L : List (List P2)) : inP (boundsS L).1 ∧ inP (boundsS L).2.1 := by
  have h0 : inP (0, 0) := by unfold inP; simp
  unfold boundsS
  split
  · next hv =>
    have hall : ∀ p ∈ L.flatten, inP p := by
      intro p hp
      simp only [validL, Bool.and_eq_true, List.all_eq_true] at hv
      obtain ⟨r, hr, hpr⟩ := List.mem_flatten.1 hp
      exact validS_inP (hv.2 r hr p hpr)
    generalize L.flatten = l at *
    cases l with
    | nil => exact ⟨h0, h0⟩
    | cons p l => exact ⟨inP_fold (fun _ _ => inP_min) (hall p (by simp)) hall, inP_fold (fun _ _ => inP_max) (hall p (by simp)) hall⟩
  · exact ⟨h0, h0⟩
theorem boundsS_none {L : List (List P2)} (h : (boundsS L).2.2 = false) : boundsS L = ((0, 0), (0, 0), false) := by
  unfold boundsS at h ⊢
  split
  · next hv =>
    rw [if_pos hv] at h
    generalize L.flatten = l at *
    cases l with
    | nil => rfl
    | cons p l => cases h
  · rfl
end Go.Proofs.YtodefmfgoehkhaaGreat

/- PixelBounds in the reference and in the program. -/
set_option linter.unusedVariables false
set_option linter.unusedSimpArgs false
namespace Go.Proofs.YtodefmfgoehkhaaGreat
open Go.RowKit Go.Par

end Go.Proofs.YtodefmfgoehkhaaGreat
/- polygon.PixelBounds. -/
set_option linter.unusedVariables false
set_option linter.unusedSimpArgs false
namespace Go.Proofs.YtodefmfgoehkhaaGreat
open Go.RowKit Go.Par

theorem rectCanon_in {a b c d : Int} (h : inR a = true ∧ inR b = true ∧ inR c = true ∧ inR d = true) : rectCanonS (a, b, c, d) = if c ≤ a ∨ d ≤ b then (0, 0, 0, 0) else (a, b, c, d) := by
  obtain ⟨h1, h2, h3, h4⟩ := h
  unfold rectCanonS rectEmptyS rectValidS
  simp [h1, h2, h3, h4]
theorem inR_div {n : Int} (h1 : -1048576 ≤ n) (h2 : n ≤ 1048576) : inR (n / 256) = true ∧ inR ((n + 255) / 256) = true := by
  unfold inR
  simp only [Bool.and_eq_true, decide_eq_true_eq]
  omega
set_option maxRecDepth 100000 in
set_option maxHeartbeats 1600000 in
theorem Pix_any (L : List (List P2)) (A : Option Addr) (c : Nat) (w : World) (hc : L.length ≤ 17592186044416) (hL : RingsAt w A L) (hS : lenS L ≤ 1000000) :
    Calls Tryz.prog 7 #[.slice A L.length c] w fun e w' => e = .returned (rectV (pixS L)) ∧ Ext w w' := by
  have HB := Lib.hid (Bounds_any L A c (w.alloc (.cells #[.int .i64 0, .int .i64 0, .int .i64 0, .int .i64 0] 34)) hc (hL.ext (Ext.alloc _ _)) hS)
  have hI := boundsS_inP L
  generalize L.length = n at *
  obtain ⟨v, hv⟩ : ∃ v, v = boundsS L := ⟨_, rfl⟩
  rw [← hv] at HB hI
  have HP := Lib.hid (show pixS L = if v.2.2 then rectCanonS (v.1.1 / 256, v.1.2 / 256, (v.2.1.1 + 255) / 256, (v.2.1.2 + 255) / 256) else (0, 0, 0, 0) from by rw [hv]; rfl)
  obtain ⟨⟨a, b⟩, ⟨p, q⟩, ok⟩ := v
  unfold inP at hI
  simp only at hI
  obtain ⟨⟨i1, i2, i3, i4⟩, i5, i6, i7, i8⟩ := hI
  unfold bndV at HB
  clear hL hv hS
  go_enter Tryz.func7, Tryz.ntmps7
  go_wp2_with fail
  refine HB.out.mono ?_
  rintro e w1 ⟨rfl, hE⟩
  have B := (Box.new _ _ _).ext hE
  have hE' := (Ext.alloc _ _).trans hE
  have s2 := B.lt
  clear hE
  cases ok
  · have E := Lib.hid (show pixS L = (0, 0, 0, 0) from HP.out)
    have k := B.cell; have f := B.frozen
    have n1 : ¬ w.heap.size = w1.heap.size := by omega
    have n2 : ¬ w.heap.size = w1.heap.size + 1 := by omega
    clear i1 i2 i3 i4 i5 i6 i7 i8 HP HB
    go_wp2
    exact bodyPost_ret (v := rectV (0, 0, 0, 0)) (by simp [results, Tryz.results7, go_sem, rectV, k, f]) rfl ⟨by rw [E.out], ((hE'.set4 (Nat.le_refl _) _ _ _ _).trans (Ext.alloc _ _)).trans (Ext.alloc _ _)⟩
  · have E := Lib.hid (show pixS L = _ from by rw [HP.out, if_pos rfl, rectCanon_in ⟨(inR_div i1 i2).1, (inR_div i3 i4).1, (inR_div i5 i6).2, (inR_div i7 i8).2⟩])
    have U3 := Lib.hid (fun w => up_any p w (by omega) (by omega))
    have U4 := Lib.hid (fun w => up_any q w (by omega) (by omega))
    have hcc := up_call
    clear i1 i2 i3 i4 i5 i6 i7 i8 HP HB
    go_wp2_with fail
    apply wp_region_par' 16 (by kernel_rfl) (by kernel_rfl) rfl
    simp only [List.take_succ_cons, List.take_zero, List.drop_succ_cons, List.drop_zero]
    generalize hW : World.drew _ = W
    have hEW : Ext w W := by rw [← hW]; exact ((hE'.trans (Ext.alloc _ _)).trans (Ext.alloc _ _)).trans (Ext.drew _)
    have B2 : Box W w.heap.size 34 #[.int .i64 0, .int .i64 0, .int .i64 0, .int .i64 0] := by rw [← hW]; exact ((B.alloc _).alloc _).drew
    have B3 : Box W w1.heap.size 49 #[.int .i64 a, .int .i64 b] := by rw [← hW]; exact ((Box.new _ _ _).alloc _).drew
    have B4 : Box W (w1.heap.size + 1) 49 #[.int .i64 p, .int .i64 q] := by rw [← hW]; exact (Box.at1).drew
    have s5 := B4.lt
    clear hW
    have k3 := B3.lcell; have k4 := B4.lcell
    iterate 15
      refine parW_step rfl (fun K hK => ?_)
      apply Exists.intro
      refine ⟨fun z => ?_, ?_⟩
      focus
        go_simp
        first
          | rfl
          | with_reducible exact calls_same (U3.out _)
          | with_reducible exact calls_same (U4.out _)
      go_simp
      refine hK _ ?_
      clear hK K
    refine parW_new (t := 34) (cs := #[.int .i64 0, .int .i64 0, .int .i64 0, .int .i64 0]) rfl rfl rfl (by simp) (fun w1 => by kernel_rfl) ?_
    refine parW_fin (fun z => ?_)
    rintro v1 ⟨b7, rfl, h7, B7⟩ hp
    clear hp
    have k7 := B7.cell; have f7 := B7.frozen
    have k2 := (B2.later z).cell; have f2 := (B2.later z).frozen
    have hz := hEW.later z
    have n7 : ¬ b7 = w.heap.size := by omega
    have n7' : ¬ w.heap.size = b7 := by omega
    have h7' : w.heap.size ≤ b7 := by omega
    clear k3 k4
    simp only [Act.put, List.setIfInBounds_toArray, List.set_cons_succ, List.set_cons_zero]
    go_wp2
    · skip
      exact bodyPost_ret (v := rectV (0, 0, 0, 0)) (by simp [results, Tryz.results7, go_sem, rectV, k2, f2]) rfl ⟨by rw [E.out, if_pos (by omega)], (hz.set4 h7' _ _ _ _).set4 (Nat.le_refl _) _ _ _ _⟩
    · skip
      exact bodyPost_ret (v := rectV (0, 0, 0, 0)) (by simp [results, Tryz.results7, go_sem, rectV, k2, f2]) rfl ⟨by rw [E.out, if_pos (by omega)], (hz.set4 h7' _ _ _ _).set4 (Nat.le_refl _) _ _ _ _⟩
    · skip
      exact bodyPost_ret (v := rectV (a / 256, b / 256, (p + 255) / 256, (q + 255) / 256)) (by simp [results, Tryz.results7, go_sem, rectV, k2, f2]) rfl ⟨by rw [E.out, if_neg (by omega)], (hz.set4 h7' _ _ _ _).set4 (Nat.le_refl _) _ _ _ _⟩
end Go.Proofs.YtodefmfgoehkhaaGreat

/- Contains; the example of the chapter. -/
set_option linter.unusedVariables false
set_option linter.unusedSimpArgs false
namespace Go.Proofs.YtodefmfgoehkhaaGreat
open Go.RowKit Go.Par

theorem windL_bd (L : List (List P2)) (p : P2) : -4096 ≤ windL L p ∧ windL L p ≤ 4096 := by
  unfold windL
  split
  · next h =>
    rw [Bool.and_eq_true] at h
    have h1 := validL_len h.1
    have h2 := windSum_bd p L
    omega
  · omega
def hasS (L : List (List P2)) (rule : Int) (p : P2) : Bool := fillsS (windL L p) rule
def boxL : List P2 := [(0, 0), (256, 0), (256, 256), (0, 256)]
theorem ptsOfBox {w : World} {b : Nat} {t : TypeId} {cs : Array Value} {l : List P2} (h : Box w b t cs) (hc : cs = (ptCells l).toArray) : PtsAt w (some ⟨b, 0, none⟩) l := by
  intro _
  refine ⟨b, 0, rfl, fun i p hp => ?_⟩
  have := ptCells_at hp
  subst hc
  rw [h.cell, h.cell]
  simpa using this
end Go.Proofs.YtodefmfgoehkhaaGreat
/- Copies of rows of points; reversing. -/
set_option linter.unusedVariables false
set_option linter.unusedSimpArgs false
namespace Go.Proofs.YtodefmfgoehkhaaGreat
open Go.RowKit Go.Par

theorem Pts.one {w : World} {b : Nat} {t : TypeId} {x y : Int} (h : Box w b t #[.int .i64 x, .int .i64 y]) : Pts w (.slice (some ⟨b, 0, none⟩) 1 1) [(x, y)] :=
  ⟨_, _, rfl, Nat.le_refl _, (by simp), ptsOfBox h rfl⟩
theorem Own.made (w : World) : Own (w.alloc (.cells #[] 49)) w.heap.size (.slice (some ⟨w.heap.size, 0, none⟩) 0 0) [] :=
  World.ownsRow_made w #[] 0 (Nat.le_refl _) (by decide) rfl
theorem Own.block {w : World} {base : Nat} {v : Value} {l : List P2} (h : Own w base v l) : v.ownBlock = none ∨ ∃ g, v.ownBlock = some g ∧ base ≤ g := by
  cases hv : v.ownBlock with
  | none => exact .inl rfl
  | some g => exact .inr ⟨g, rfl, (World.ownsRow.lt h g hv).1⟩
theorem nil_eq (c : Nat) (w : World) : (binOp .eql 47 (.slice none 0 c) (.slice none 0 0)).run Tryz.prog w = .ok (.bool true) w := by kernel_rfl
theorem some_eq (a : Addr) (n c : Nat) (w : World) : (binOp .eql 47 (.slice (some a) n c) (.slice none 0 0)).run Tryz.prog w = .ok (.bool false) w := by kernel_rfl
end Go.Proofs.YtodefmfgoehkhaaGreat
/- Rows of rows that the call has made. -/
set_option linter.unusedVariables false
set_option linter.unusedSimpArgs false
namespace Go.Proofs.YtodefmfgoehkhaaGreat
open Go.RowKit Go.Par

/-- a row of the call's own, of slices -/
def OwnR (w : World) (base : Nat) (v : Value) (vs : List Value) : Prop := w.ownsRow base 47 1 v vs.length vs
theorem OwnR.made (w : World) : OwnR (w.alloc (.cells #[] 47)) w.heap.size (.slice (some ⟨w.heap.size, 0, none⟩) 0 0) [] :=
  World.ownsRow_made w #[] 0 (Nat.le_refl _) (by decide) rfl
theorem OwnR.nil (w : World) (base : Nat) : OwnR w base (.slice none 0 0) [] := World.ownsRow_nil w base _ 1
theorem OwnR.ext {w w' : World} {base : Nat} {v : Value} {vs : List Value} (h : OwnR w base v vs) (he : Ext w w') : OwnR w' base v vs :=
  World.ownsRow.kept (row := none) h ⟨Below.os he.1, Below.tape he.1, Below.output he.1, Below.size he.1, fun k hk _ => Below.block he.1 k hk⟩ (by cases v.ownBlock <;> simp)
theorem OwnR.at {w : World} {base : Nat} {v : Value} {vs : List Value} (h : OwnR w base v vs) : ∃ A c, v = .slice A vs.length c ∧ vs.length ≤ c ∧ (vs ≠ [] → ∃ b, A = some ⟨b, 0, none⟩ ∧ base ≤ b ∧ ∀ i u, vs[i]? = some u → w.cell? ⟨b, i, none⟩ = some u) := by
  have hcell := fun g hg => World.ownsRow.cells h (g := g) hg
  rcases h.2 with ⟨rfl, h0⟩ | ⟨g, cap, cur, rfl, hb, _, h1, h2, _⟩
  · rw [h0]
    exact ⟨_, _, rfl, Nat.le_refl _, fun hn => absurd (List.eq_nil_of_length_eq_zero h0) hn⟩
  · refine ⟨_, _, rfl, h1, fun _ => ⟨g, rfl, hb, fun i u hu => ?_⟩⟩
    have := hcell g rfl i u hu
    simpa [Addr.add_lit] using this
/-- the slices read as rows of points -/
def RowsOf (w : World) (vs : List Value) (L : List (List P2)) : Prop := vs.length = L.length ∧ ∀ (i : Nat) (r : List P2), L[i]? = some r → ∃ u, vs[i]? = some u ∧ Pts w u r
theorem RowsOf.nil (w : World) : RowsOf w [] [] := ⟨rfl, fun i r h => by simp at h⟩
theorem RowsOf.ext {w w' : World} {vs : List Value} {L : List (List P2)} (h : RowsOf w vs L) (he : Ext w w') : RowsOf w' vs L :=
  ⟨h.1, fun i r hr => by obtain ⟨u, h1, h2⟩ := h.2 i r hr; exact ⟨u, h1, h2.ext he⟩⟩
theorem RowsOf.snoc {w : World} {vs : List Value} {L : List (List P2)} {u : Value} {r : List P2} (h : RowsOf w vs L) (hu : Pts w u r) : RowsOf w (vs ++ [u]) (L ++ [r]) := by
  refine ⟨by simp [h.1], fun i q hq => ?_⟩
  by_cases hi : i < L.length
  · rw [List.getElem?_append_left hi] at hq
    obtain ⟨x, h1, h2⟩ := h.2 i q hq
    exact ⟨x, by rw [List.getElem?_append_left (by rw [h.1]; exact hi)]; exact h1, h2⟩
  · rw [List.getElem?_append_right (by omega)] at hq
    have h0 : i - L.length = 0 := by
      have := (List.getElem?_eq_some_iff.1 hq).1
      simp at this
      omega
    rw [h0] at hq
    simp only [List.getElem?_cons_zero, Option.some.injEq] at hq
    subst hq
    exact ⟨u, by rw [List.getElem?_append_right (by rw [h.1]; omega), h.1, h0]; rfl, hu⟩
theorem Rings.rows {w : World} {v : Value} {L : List (List P2)} (h : Rings w v L) : ∃ vs, RowsOf w vs L ∧ Src w 1 v vs.length vs := by
  obtain ⟨A, c, rfl, hlc, hlb, hA⟩ := h
  cases L with
  | nil =>
    refine ⟨[], RowsOf.nil w, rfl, by simp, ?_⟩
    cases A with
    | none => exact .inl ⟨⟨c, rfl⟩, rfl⟩
    | some a => exact .inr ⟨a, c, rfl, fun j u h => by simp at h⟩
  | cons r0 L =>
    obtain ⟨b, o, rfl, hc⟩ := hA (by simp)
    have each : ∀ i, i < (r0 :: L).length → ∃ u, w.cell? ⟨b, o + i, none⟩ = some u ∧ ∀ r, (r0 :: L)[i]? = some r → Pts w u r := fun i hi => by
      obtain ⟨u, h1, h2⟩ := hc i _ (List.getElem?_eq_getElem hi)
      exact ⟨u, h1, fun r hr => by rw [List.getElem?_eq_getElem hi] at hr; injection hr with hr; rw [← hr]; exact h2⟩
    have hex : ∀ n, n ≤ (r0 :: L).length → ∃ vs : List Value, vs.length = n ∧ ∀ i u, vs[i]? = some u → w.cell? ⟨b, o + i, none⟩ = some u ∧ ∀ r, (r0 :: L)[i]? = some r → Pts w u r := by
      intro n
      induction n with
      | zero => exact fun _ => ⟨[], rfl, fun i u h => by simp at h⟩
      | succ n ih =>
        intro hn
        obtain ⟨vs, h1, h2⟩ := ih (by omega)
        obtain ⟨u, h3, h4⟩ := each n (by omega)
        refine ⟨vs ++ [u], by simp [h1], fun i x hx => ?_⟩
        by_cases hi : i < n
        · rw [List.getElem?_append_left (by omega)] at hx
          exact h2 i x hx
        · rw [List.getElem?_append_right (by omega)] at hx
          have h0 : i - vs.length = 0 := by
            have := (List.getElem?_eq_some_iff.1 hx).1
            simp at this
            omega
          rw [h0] at hx
          simp only [List.getElem?_cons_zero, Option.some.injEq] at hx
          subst hx
          have : i = n := by omega
          subst this
          exact ⟨h3, h4⟩
    obtain ⟨vs, h1, h2⟩ := hex _ (Nat.le_refl _)
    have hget : ∀ i r, (r0 :: L)[i]? = some r → ∃ u, vs[i]? = some u ∧ Pts w u r := fun i r hr => by
      have hi := (List.getElem?_eq_some_iff.1 hr).1
      refine ⟨vs[i]'(by omega), List.getElem?_eq_getElem (by omega), ?_⟩
      exact (h2 i _ (List.getElem?_eq_getElem (by omega))).2 r hr
    refine ⟨vs, ⟨h1, hget⟩, by omega, fun u hu => ?_, .inr ⟨_, c, by rw [h1], fun j u hu => ?_⟩⟩
    · obtain ⟨j, hj⟩ := List.mem_iff_getElem?.1 hu
      have hjl := (List.getElem?_eq_some_iff.1 hj).1
      obtain ⟨A', c', rfl, _⟩ := (h2 j u hj).2 _ (List.getElem?_eq_getElem (by omega))
      rfl
    · rw [Addr.add_lit]
      exact (h2 j u hu).1
theorem OwnR.rings {w : World} {base : Nat} {v : Value} {vs : List Value} {L : List (List P2)} (h : OwnR w base v vs) (hr : RowsOf w vs L) (hb : L.length ≤ 17592186044416) : Rings w v L := by
  obtain ⟨A, c, rfl, hlc, hA⟩ := h.at
  refine ⟨A, c, by rw [hr.1], by rw [← hr.1]; exact hlc, hb, fun hne => ?_⟩
  obtain ⟨b, rfl, _, hc⟩ := hA (fun e => hne (List.eq_nil_of_length_eq_zero (by rw [← hr.1, e]; rfl)))
  refine ⟨b, 0, rfl, fun i r hir => ?_⟩
  obtain ⟨u, h1, h2⟩ := hr.2 i r hir
  exact ⟨u, by rw [Nat.zero_add]; exact hc i u h1, h2⟩
theorem Src.row {w : World} {b : Nat} {t : TypeId} {A : Option Addr} {n c : Nat} (h : Box w b t #[.slice A n c]) : Src w 1 (.slice (some ⟨b, 0, none⟩) 1 1) 1 [.slice A n c] := by
  refine ⟨rfl, fun u hu => by simp at hu; subst hu; rfl, .inr ⟨_, _, rfl, fun j u hu => ?_⟩⟩
  have hj := (List.getElem?_eq_some_iff.1 hu).1
  have h0 : j = 0 := by simp at hj; exact hj
  subst h0
  simp only [List.getElem?_cons_zero, Option.some.injEq] at hu
  subst hu
  rw [Addr.add_zero', h.cell]
  rfl
theorem wpList_appR {w : World} {ops : Array Oper} {rest : List Oper} {o : Oper} {a : Act} {Q : Exit → Act → World → Prop} (hgd : o.guard = none) (s x : Operand)
    (ho : o.op = .call { callee := .builtin .append, args := #[s, x], argTypes := #[22, 22] }) (base : Nat) (v sv : Value) (vs us : List Value)
    (hs : a.eval s = v) (hx : a.eval x = sv) (hown : OwnR w base v vs) (hm : Src w 1 sv us.length us) (hb : vs.length + us.length ≤ 1000000000) (hbase : base ≤ w.heap.size)
    (h : ∀ v' w', OwnR w' base v' (vs ++ us) → Grown w w' v.ownBlock → wpList Tryz.prog ops Q rest (a.put o.dst v') w') : wpList Tryz.prog ops Q (o :: rest) a w := by
  obtain ⟨i0, hi, hz0, hz1, hz2⟩ := info_parts info_row
  obtain ⟨v', w', hr, h2, h3⟩ := run_app base _ o.type _ i0 (.slice none 0 0) 1 24 Tryz.underlying22 hi hz0 hz1 hz2 rfl (by decide) v _ _ hown sv _ _ hm (by unfold maxLen; omega) (by omega) hbase
  refine Lib.wpList_append_run _ hgd _ _ _ _ ho _ _ hs hx _ _ hr (h v' w' ?_ h3)
  unfold OwnR
  rw [List.length_append]
  exact h2
theorem Src.ext {w w' : World} {size m : Nat} {sv : Value} {news : List Value} (h : Src w size sv m news) (he : Ext w w') : Src w' size sv m news := by
  obtain ⟨h1, h2, h3 | ⟨ad, c, e, h3⟩⟩ := h
  · exact ⟨h1, h2, .inl h3⟩
  · exact ⟨h1, h2, .inr ⟨ad, c, e, fun j u hu => he.cell (h3 j u hu)⟩⟩
theorem Own.at {w : World} {base : Nat} {v : Value} {l : List P2} {n : Nat} (h : Own w base v l) (hn : l.length = n) (hb : n ≤ 17592186044416) : ∃ A c, v = .slice A n c ∧ n ≤ c ∧ PtsAt w A l := by
  subst hn
  obtain ⟨A, c, e, h1, h2, h3⟩ := h.pts hb
  exact ⟨A, c, e, h1, h3⟩
/-! ## an append in a region that draws its order -/
/-- the first append to a row without room: nothing that was there changes -/
theorem run_app0 {w : World} {B b : Nat} {l : List P2} {sv : Value} (ty : TypeId) (hm : Pts w sv l) (hb : l.length ≤ 1000000000) (hB : B ≤ w.heap.size) (hbb : B ≤ b) (hbx : Box w b 49 #[]) :
    ∃ v' w', (Builtin.append_ #[47, 47] ty #[.slice (some ⟨b, 0, none⟩) 0 0, sv]).run Tryz.prog w = .ok v' w' ∧ Own w' B v' l ∧ Ext w w' := by
  obtain ⟨i0, hi, hz0, hz1, hz2⟩ := info_parts info_pt
  have hown : Own w B (.slice (some ⟨b, 0, none⟩) 0 0) [] := ⟨rfl, .inr ⟨b, 0, #[], rfl, hbb, hbx, Nat.le_refl _, by decide, rfl, rfl⟩⟩
  by_cases h0 : l.length = 0
  · have e : l = [] := List.eq_nil_of_length_eq_zero h0
    subst e
    obtain ⟨A, c, rfl, _⟩ := hm
    refine ⟨.slice (some ⟨b, 0, none⟩) 0 0, w, ?_, hown, Ext.refl w⟩
    cases A <;> simp [Builtin.append_, run_underlying Tryz.underlying47, sizeOf, typeInfo, hi, Builtin.lenOf, Builtin.firstCells, storeCells, loadCells, loadCellsFrom]
  · obtain ⟨h1, h2, ⟨_, h3⟩ | ⟨ad, c, rfl, h3⟩⟩ := hm.src
    · exact absurd h3 h0
    · have hr := run_append_grow (P := Tryz.prog) (w := w) 47 ty 49 i0 _ Tryz.underlying47 hi hz0 ⟨b, 0, none⟩ 0 0 [] (by simp) (fun j v h => by simp at h) ad l.length c (ptCells l) (by rw [hz1]; exact h1) h3 (by omega) (by omega) (growslice_fits (by omega) (by rw [hz2]; omega))
      refine ⟨_, _, hr, ?_, (Ext.drew w).trans (Ext.alloc _ _)⟩
      have hge := grownCap_ge w (0 + l.length) 0 49
      have hcm := grownCap_le_maxLen w (0 + l.length) 0 49 (by unfold maxLen; omega)
      generalize grownCap w (0 + l.length) 0 49 = G at *
      refine ⟨ptCells_length l, .inr ⟨w.heap.size, G, _, by rw [Nat.zero_add], hB, heap_alloc_new w.drew _, by omega, hcm, ?_, ?_⟩⟩
      · simp only [Array.size_append, List.size_toArray, size_zeroCells, ptCells_length, List.length_nil]
        show 0 + l.length * 2 + (G - (0 + l.length)) * 2 = G * 2
        omega
      · rw [← ptCells_length l]
        simp only [Array.toList_append, List.nil_append, List.append_assoc]
        exact List.take_left
def ROwn (B : Nat) (l : List P2) : VP := fun v w => Own w B v l ∧ B ≤ w.heap.size
theorem ROwn.stable (B : Nat) (l : List P2) : Stable (ROwn B l) := fun _ _ _ ⟨h, hb⟩ he => ⟨h.ext he, Nat.le_trans hb he.size⟩
theorem relStep_app {P : Program} {ops : Array Oper} {o : Oper} {a : Act} {w1 : World} {R : VP} (hw : Region.wanted o (yielded ops a.tmps) = true) (s x : Operand) (t : TypeId)
    (ho : o.op = .call { callee := .builtin .append, args := #[s, x], argTypes := #[t, t] }) {v sv : Value} (hs : a.eval s = v) (hx : a.eval x = sv) {v' : Value} {w' : World}
    (hr : (Builtin.append_ #[t, t] o.type #[v, sv]).run P w1 = .ok v' w') (hE : Ext w1 w') (hR : R v' w') : relStep P ops o (.rel R false) w1 a := by
  rw [relStep_def, if_pos hw]
  unfold execOp
  simp only [ho, resolve, invoke, builtin, Sem.run_bind, Sem.run_pure, Result.andThen_ok, List.map_toArray, List.map_cons, List.map_nil, hs, hx, hr]
  exact ⟨hE, hR, fun h => by cases h⟩
theorem PtsAt.drop {w : World} {b o : Nat} {l : List P2} (h : PtsAt w (some ⟨b, o, none⟩) l) (k : Nat) : PtsAt w (some ⟨b, o + k * 2, none⟩) (l.drop k) := fun hne => by
  obtain ⟨b', o', e, hc⟩ := h (fun e => hne (by rw [e, List.drop_nil]))
  injection e with e; injection e with e1 e2; subst e1 e2
  refine ⟨b, o + k * 2, rfl, fun i p hp => ?_⟩
  rw [List.getElem?_drop] at hp
  have := hc _ p hp
  rw [show o + k * 2 + i * 2 = o + (k + i) * 2 by omega]
  exact this
theorem PtsAt.take {w : World} {A : Option Addr} {l : List P2} (h : PtsAt w A l) (k : Nat) : PtsAt w A (l.take k) := fun hne => by
  obtain ⟨b, o, e, hc⟩ := h (fun e => hne (by rw [e, List.take_nil]))
  refine ⟨b, o, e, fun i p hp => hc i p ?_⟩
  rw [List.getElem?_take] at hp
  split at hp
  · exact hp
  · cases hp
end Go.Proofs.YtodefmfgoehkhaaGreat

/- polygon.Translate. -/
set_option linter.unusedVariables false
set_option linter.unusedSimpArgs false
namespace Go.Proofs.YtodefmfgoehkhaaGreat
open Go.RowKit Go.Par

/-- slices that the call has made, one for each row of points -/
def Elems (w : World) (B : Nat) (vs : List Value) (L : List (List P2)) : Prop := vs.length = L.length ∧ ∀ (i : Nat) (r : List P2), L[i]? = some r → r.length ≤ 1000000 ∧ ∃ u, vs[i]? = some u ∧ Own w B u r
theorem Elems.nil (w : World) (B : Nat) : Elems w B [] [] := ⟨rfl, fun i r h => by simp at h⟩
theorem Elems.ext {w w' : World} {B : Nat} {vs : List Value} {L : List (List P2)} (h : Elems w B vs L) (he : Ext w w') : Elems w' B vs L :=
  ⟨h.1, fun i r hr => by obtain ⟨h0, u, h1, h2⟩ := h.2 i r hr; exact ⟨h0, u, h1, h2.ext he⟩⟩
theorem Elems.grow {w w' : World} {B base : Nat} {v : Value} {us vs : List Value} {L : List (List P2)} (h : Elems w B vs L) (hown : OwnR w base v us) (hg : Grown w w' v.ownBlock) : Elems w' B vs L :=
  ⟨h.1, fun i r hr => by
    obtain ⟨h0, u, h1, h2⟩ := h.2 i r hr
    refine ⟨h0, u, h1, World.ownsRow.kept h2 hg.1 ?_⟩
    rcases h2.2 with ⟨rfl, _⟩ | ⟨g, cap, cur, rfl, _, hgg, _⟩
    · exact .inl rfl
    · refine .inr fun e => ?_
      rcases hown.2 with ⟨rfl, _⟩ | ⟨g', cap', cur', rfl, _, hgg', _⟩
      · cases e
      · simp only [Value.ownBlock, Option.some.injEq] at e
        subst e
        rw [hgg] at hgg'
        simp at hgg'⟩
theorem Box.growR {w w' : World} {b base : Nat} {t : TypeId} {cs : Array Value} {v : Value} {us : List Value} (h : Box w b t cs) (hown : OwnR w base v us) (ht : t ≠ 47) (hg : Grown w w' v.ownBlock) : Box w' b t cs := by
  refine (hg.block b h.lt fun e => ?_).trans h
  rcases hown.2 with ⟨rfl, _⟩ | ⟨g', cap', cur', rfl, _, hgg', _⟩
  · cases e
  · simp only [Value.ownBlock, Option.some.injEq] at e
    subst e
    unfold Box at h
    rw [hgg'] at h
    injection h with h
    injection h with h1 h2
    exact ht h2.symm
theorem Elems.snoc {w : World} {B : Nat} {vs : List Value} {L : List (List P2)} {u : Value} {r : List P2} (h : Elems w B vs L) (hr : r.length ≤ 1000000) (hu : Own w B u r) : Elems w B (vs ++ [u]) (L ++ [r]) := by
  refine ⟨by simp [h.1], fun i q hq => ?_⟩
  by_cases hi : i < L.length
  · rw [List.getElem?_append_left hi] at hq
    obtain ⟨h0, x, h1, h2⟩ := h.2 i q hq
    exact ⟨h0, x, by rw [List.getElem?_append_left (by rw [h.1]; exact hi)]; exact h1, h2⟩
  · rw [List.getElem?_append_right (by omega)] at hq
    have h0 : i - L.length = 0 := by
      have := (List.getElem?_eq_some_iff.1 hq).1
      simp at this
      omega
    rw [h0] at hq
    simp only [List.getElem?_cons_zero, Option.some.injEq] at hq
    subst hq
    exact ⟨hr, u, by rw [List.getElem?_append_right (by rw [h.1]; omega), h.1, h0]; rfl, hu⟩
theorem Elems.rows {w : World} {B : Nat} {vs : List Value} {L : List (List P2)} (h : Elems w B vs L) : RowsOf w vs L :=
  ⟨h.1, fun i r hr => by obtain ⟨h0, u, h1, h2⟩ := h.2 i r hr; exact ⟨u, h1, h2.pts (by omega)⟩⟩
theorem Own.lower {w : World} {B B' : Nat} {v : Value} {l : List P2} (h : Own w B v l) (hb : B' ≤ B) : Own w B' v l := by
  refine ⟨h.1, ?_⟩
  rcases h.2 with h0 | ⟨g, cap, cur, e, hg, h2⟩
  · exact .inl h0
  · exact .inr ⟨g, cap, cur, e, Nat.le_trans hb hg, h2⟩
theorem Own.oneCell {w : World} {B : Nat} {v : Value} {l : List P2} (h : Own w B v l) : v.oneCell' = true := by
  obtain ⟨A, c, rfl, _⟩ := h.len
  rfl
/-- every point moved -/
def moveR (by_ : P2) (r : List P2) : List P2 := r.map fun p => addS p by_
def transL (L : List (List P2)) (by_ : P2) : List (List P2) := if validL L then L.map (moveR by_) else []
theorem mem_len {L : List (List P2)} {k : Nat} {r : List P2} (h : L[k]? = some r) : r.length ≤ lenS L := by
  have h1 := lenS_take_succ h
  have h2 := lenS_take_le L (k + 1)
  omega
theorem map_take_snoc {α β : Type} (f : α → β) {l : List α} {k : Nat} {p : α} (h : l[k]? = some p) : (l.take (k + 1)).map f = (l.take k).map f ++ [f p] := by
  rw [List.take_add_one, h]; simp
theorem srcOne {w : World} {b : Nat} {t : TypeId} {u : Value} (hu : u.oneCell' = true) (h : Box w b t #[u]) : Src w 1 (.slice (some ⟨b, 0, none⟩) 1 1) 1 [u] := by
  refine ⟨rfl, fun x hx => by simp at hx; subst hx; exact hu, .inr ⟨_, _, rfl, fun j x hx => ?_⟩⟩
  have hj := (List.getElem?_eq_some_iff.1 hx).1
  have h0 : j = 0 := by simp at hj; exact hj
  subst h0
  simp only [List.getElem?_cons_zero, Option.some.injEq] at hx
  subst hx
  rw [Addr.add_zero', h.cell]
  rfl
set_option maxRecDepth 100000 in
set_option maxHeartbeats 1600000 in
theorem Translate_any (L : List (List P2)) (A : Option Addr) (c : Nat) (bx by_ : Int) (w : World) (hc : L.length ≤ 1000000) (hS : lenS L ≤ 1000000) (hL : RingsAt w A L) :
    Calls Tryz.prog 99 #[.slice A L.length c, .agg #[.int .i64 bx, .int .i64 by_]] w fun e w' => ∃ v vs, e = .returned v ∧ Ext w w' ∧ OwnR w' w.heap.size v vs ∧ Elems w' w.heap.size vs (transL L (bx, by_)) := by
  have HV := Lib.hid (fun W (h : Ext w W) => Valid_any L A c W (by omega) (hL.ext h))
  obtain ⟨n, hn⟩ : ∃ n, n = L.length := ⟨_, rfl⟩
  rw [← hn] at HV hc ⊢
  have HN := Lib.hid hn
  have HSS := Lib.hid hS
  clear hn hS
  go_enter Tryz.func99, Tryz.ntmps99
  go_wp2_with fail
  refine (HV.out _ (Ext.alloc _ _)).mono ?_
  rintro e w1 ⟨rfl, hE1⟩
  have B := (Box.new w 49 #[.int .i64 bx, .int .i64 by_]).ext hE1
  have hE := (Ext.alloc w _).trans hE1
  clear hE1
  cases hv : validL L
  · have e0 : transL L (bx, by_) = [] := by unfold transL; rw [hv]; rfl
    have E := Lib.hid e0
    clear e0
    go_wp2
    go_ret
    exact ⟨_, [], rfl, hE, OwnR.nil _ _, by rw [E.out]; exact Elems.nil _ _⟩
  · have e0 : transL L (bx, by_) = L.map (moveR (bx, by_)) := by unfold transL; rw [hv]; rfl
    have E := Lib.hid e0
    clear e0
    go_wp2_with fail
    go_loopw [5, 7, 8, 10, 16] (fun s _ _ _ i wr => ∃ (k : Nat) (vs : List Value), k ≤ n ∧ i = .int .i64 k ∧ Ext w wr ∧ Box wr w.heap.size 49 #[.int .i64 bx, .int .i64 by_] ∧ OwnR wr w.heap.size s vs ∧ Elems wr w.heap.size vs ((L.take k).map (moveR (bx, by_)))) (fun _ _ _ _ i _ => n - (intOf i).toNat)
    case atStart => exact ⟨0, [], Nat.zero_le _, rfl, hE, B, OwnR.nil _ _, Elems.nil _ _⟩
    case round =>
      obtain ⟨k, vs, hk, rfl, hEr, BB, hown, hel⟩ := hrel
      by_cases hlt : k < n
      · obtain ⟨r, hlk⟩ : ∃ r, L[k]? = some r := ⟨_, List.getElem?_eq_getElem (by rw [← HN.out]; exact hlt)⟩
        obtain ⟨b, o, rfl, hcell⟩ := hL (fun e => by rw [e] at hlk; simp at hlk)
        obtain ⟨v, c0, A', c', rfl, hlc, hlb, hP⟩ := hcell k r hlk
        have c1 := hEr.cell c0
        have hrl := mem_len hlk
        have hrs := HSS.out
        have hsn := map_take_snoc (moveR (bx, by_)) hlk
        have hvs : vs.length = k := by rw [hel.1, List.length_map, List.length_take, ← HN.out]; omega
        have hPr := hP.ext hEr
        obtain ⟨m, hm⟩ : ∃ m, m = r.length := ⟨_, rfl⟩
        rw [← hm] at c1 hlc hlb hrl
        have hm6 : m ≤ 1000000 := by omega
        have HM := Lib.hid hm
        have HSN := Lib.hid hsn
        have HVS := Lib.hid hvs
        have hwo := hEr.size
        clear hlk hcell c0 hP hm hsn hvs hrl hrs
        generalize wr = wo at *
        go_wp2_with fail
        go_loopw [8, 10, 22] (fun s _ i wz => ∃ j : Nat, j ≤ m ∧ i = .int .i64 j ∧ Ext wo wz ∧ Own wz wo.heap.size s (moveR (bx, by_) (r.take j))) (fun _ _ i _ => m - (intOf i).toNat)
        case atStart => exact ⟨0, Nat.zero_le _, rfl, Ext.refl _, Own.nil _ _⟩
        case round =>
          obtain ⟨j, hj, rfl, hEq, hown2⟩ := hrel
          have hwr := hEq.size
          have BQ := BB.ext hEq
          by_cases hlt' : j < m
          · obtain ⟨⟨x, y⟩, hlk⟩ : ∃ q, r[j]? = some q := ⟨_, List.getElem?_eq_getElem (by rw [← HM.out]; exact hlt')⟩
            obtain ⟨b', o', rfl, hcell⟩ := hPr (fun e => by rw [e] at hlk; simp at hlk)
            have e0 := hEq.cell (hcell j _ hlk).1
            have e1 := hEq.cell (hcell j _ hlk).2
            have hst := map_take_snoc (fun p => addS p (bx, by_)) hlk
            have HST := Lib.hid (show moveR (bx, by_) (r.take (j + 1)) = moveR (bx, by_) (r.take j) ++ [(heldS x + heldS bx, heldS y + heldS by_)] from hst)
            have hlen : (moveR (bx, by_) (r.take j)).length + 1 ≤ 1000000000 := by unfold moveR; rw [List.length_map, List.length_take]; omega
            have BQ1 := BQ.alloc (.cells #[.int .i64 x, .int .i64 y] 49)
            have kq := BQ.cell
            have nq : ¬ w.heap.size = wr.heap.size := by have := BQ.lt; omega
            clear hlk hcell hst
            go_wp2_with fail
            refine (Add_any _ _ _ _ _).mono ?_
            rintro e w3 ⟨rfl, hE3⟩
            have hE4 := (hEq.trans (Ext.alloc _ _)).trans hE3
            have hown3 := (hown2.ext (Ext.alloc _ _)).ext hE3
            have hw3 := hE4.size
            clear hE3 kq
            go_wp2_with (at_builtin; refine wpList_app rfl _ _ rfl wo.heap.size _ _ _ _ rfl rfl (hown3.ext (Ext.alloc _ _)) (Pts.one (Box.new _ _ _)) hlen (by simp <;> omega) ?_; intro v' w4 hown4 hg)
            have hE5 := Ext.grow (hE4.trans (Ext.alloc _ _)) (hown3.ext (Ext.alloc _ _)) (Nat.le_refl _) hg
            go_roundw
            case rel => exact ⟨j + 1, by omega, by go_num, hE5, by rw [HST.out]; exact hown4⟩
            case measure => simp [intOf]; omega
          · have hfin : r.take j = r := List.take_of_length_le (by rw [← HM.out]; omega)
            rw [hfin] at hown2
            have hrr : (moveR (bx, by_) r).length ≤ 1000000 := by unfold moveR; rw [List.length_map, ← HM.out]; exact hm6
            obtain ⟨A8, c8, rfl, _, _⟩ := hown2.at (n := m) (by unfold moveR; rw [List.length_map, ← HM.out]) hlb
            have hownq := hown.ext hEq
            have helq := ((hel.ext hEq).snoc hrr (hown2.lower hwo)).ext (Ext.alloc wr (.cells #[.slice A8 m c8] 47))
            clear hfin
            go_wp2_with (at_builtin; refine wpList_appR rfl _ _ rfl w.heap.size _ _ vs [.slice A8 m c8] rfl rfl (hownq.ext (Ext.alloc _ _)) (srcOne hown2.oneCell (Box.new _ _ _)) (by rw [HVS.out]; simp; omega) (by simp <;> omega) ?_; intro v' w4 hown4 hg)
            have hE5 := Ext.grow ((hEr.trans hEq).trans (Ext.alloc _ _)) (hownq.ext (Ext.alloc _ _)) (Nat.le_refl _) hg
            have hel4 := helq.grow (hownq.ext (Ext.alloc _ _)) hg
            have BW4 : Box w4 w.heap.size 49 #[.int .i64 bx, .int .i64 by_] := Box.growR ((BB.ext hEq).alloc _) (hownq.ext (Ext.alloc _ _)) (by decide) hg
            go_roundw
            case rel => exact ⟨k + 1, _, by omega, by go_num, hE5, BW4, hown4, by rw [HSN.out]; exact hel4⟩
            case measure => simp [intOf]; omega
      · have hfin : L.take k = L := List.take_of_length_le (by rw [← HN.out]; omega)
        rw [hfin, ← E.out] at hel
        clear hfin
        go_wp2
        go_ret
        exact ⟨_, vs, rfl, hEr, hown, hel⟩
end Go.Proofs.YtodefmfgoehkhaaGreat
