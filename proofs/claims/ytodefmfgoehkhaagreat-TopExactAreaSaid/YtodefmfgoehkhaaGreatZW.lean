/- Texts put together: TyP, TyQ. -/
import Derived.Test.YtodefmfgoehkhaaGreatZV
/- coverage.Pixel, rect.PixelIndex. -/
set_option linter.unusedVariables false
set_option linter.unusedSimpArgs false
namespace Go.Proofs.YtodefmfgoehkhaaGreat
open Go.RowKit Go.Par Go.Shelf Go.TN Go.Lib
open Go.TA (E2 IntR lineLen Events AreaOf covQ)

set_option maxRecDepth 100000 in
set_option maxHeartbeats 800000 in
theorem covPixel_any (L : List (List P2)) (A : Option Addr) (c : Nat) {rule x y : Int} (w : World) (hS : lenS L ≤ 18) (hLn : L.length ≤ 1000) (hv : validL L = true) (hL : RingsAt w A L) (hr : rule = 1 ∨ rule = 2) (h1 : -4096 ≤ x ∧ x < 4096) (h2 : -4096 ≤ y ∧ y < 4096)
    {V : Rat} (hV : ∀ S, AreaOf (fun n => fillsS n rule) (edgesL L) (256 * x) (256 * y) (256 * (x + 1)) (256 * (y + 1)) S → S = V) :
    Calls Tryz.prog 15 #[.slice A L.length c, .int .i64 rule, .int .i64 x, .int .i64 y] w fun e w' => e = .returned (.int .u8 (covQ (V / 65536))) ∧ Ext w w' := by
  have HP := Lib.hid (Pixel_any (rule := rule) L A c w hS hLn hv hL hr h1 h2)
  have HV := Lib.hid hV
  generalize L.length = n at *
  obtain ⟨cq, hcq⟩ : ∃ cq, cq = covQ (V / 65536) := ⟨_, rfl⟩
  rw [← hcq]
  have HCQ := Lib.hid hcq
  clear hS hLn hv hL hr h1 h2 hV hcq
  go_enter Tryz.func15, Tryz.ntmps15
  go_wp2_with fail
  refine HP.out.mono ?_
  rintro e w1 ⟨v, S, rfl, hE, hv, hs, hare⟩
  have hSV := HV.out S hare
  rw [hSV] at hv hs
  clear hare hSV HV HP
  obtain ⟨p, rfl, hpq, hpa⟩ := hv.rq
  have hE1 := Ext.alloc w1 (.cells #[.bool p.b, .slice p.A p.n p.c, .bool p.b', .slice p.A' p.n' p.c'] 29)
  have HF := Lib.hid (FromArea_any (hv.ext hE1) hs (by omega))
  rw [← HCQ.out] at HF
  unfold RQ.v at HF ⊢
  clear hv hs hpq hpa
  go_wp2_with fail
  refine HF.out.mono ?_
  rintro e w2 ⟨rfl, hE2⟩
  go_wp2
  go_ret
  exact ⟨rfl, (hE.trans hE1).trans hE2⟩
theorem canon_self {r : R4} (h : rectEmptyS r = false) : rectCanonS r = r := by unfold rectCanonS; rw [h]; rfl
theorem emptyR_false {r : R4} (h : rectEmptyS r = false) : (-4096 ≤ r.1 ∧ r.1 < r.2.2.1 ∧ r.2.2.1 ≤ 4096) ∧ -4096 ≤ r.2.1 ∧ r.2.1 < r.2.2.2 ∧ r.2.2.2 ≤ 4096 := by
  simp only [rectEmptyS, rectValidS, inR, Bool.or_eq_false_iff, Bool.not_eq_false', Bool.and_eq_true, decide_eq_true_eq, decide_eq_false_iff_not] at h
  omega
/-- where a pixel stands in its rectangle -/
def pixI (r : R4) (x y : Int) : Int := (y - r.2.1) * (r.2.2.1 - r.1) + x - r.1
set_option maxHeartbeats 800000 in
theorem pixI_any (a b c d x y : Int) (w : World) (he : rectEmptyS (a, b, c, d) = false) (h1 : a ≤ x) (h2 : x < c) (h3 : b ≤ y) (h4 : y < d) :
    Calls Tryz.prog 26 #[.agg #[.int .i64 a, .int .i64 b, .int .i64 c, .int .i64 d], .int .i64 x, .int .i64 y] w fun e w' => e = .returned (.int .i64 (pixI (a, b, c, d) x y)) ∧ Ext w w' := by
  have hh : rectHasS (a, b, c, d) x y = true := by
    rw [← has_eq]
    simp [hasR, he, h1, h2, h3, h4]
  have HP := Lib.hid (show pixI (a, b, c, d) x y = (y - b) * (c - a) + x - a from rfl)
  obtain ⟨⟨b1, b2, b3⟩, b4, b5, b6⟩ := emptyR_false he
  simp only at b1 b2 b3 b4 b5 b6
  have HAS := Lib.hid (fun W => pHas_any a b c d x y W)
  rw [hh] at HAS
  clear hh he
  go_enter Tryz.func26, Tryz.ntmps26
  go_wp2_with fail
  refine (HAS.out _).mono ?_
  rintro e w1 ⟨rfl, hE⟩
  have B := (Box.new _ _ _).ext hE
  have k := B.cell
  have hE' := (Ext.alloc _ _).trans hE
  clear hE HAS
  have m := mul_le (a := 8192) (b := 8192) (x := y - b) (y := c - a) (by omega) (by omega) (by omega) (by omega)
  have q1 : IntKind.i64.wrap (y - b) = y - b := IntWalk.i64_in _ (by omega)
  have q2 : IntKind.i64.wrap (c - a) = c - a := IntWalk.i64_in _ (by omega)
  generalize hm : (y - b) * (c - a) = mm at *
  have q3 : IntKind.i64.wrap mm = mm := IntWalk.i64_in _ (by omega)
  have q4 : IntKind.i64.wrap (mm + x) = mm + x := IntWalk.i64_in _ (by omega)
  have q5 : IntKind.i64.wrap (mm + x - a) = mm + x - a := IntWalk.i64_in _ (by omega)
  clear h1 h2 h3 h4 b1 b2 b3 b4 b5 b6 m
  go_wp2
  go_ret
  exact ⟨ret_eq (by rw [HP.out]; rfl), hE'⟩
end Go.Proofs.YtodefmfgoehkhaaGreat

/- coverage.Mask over the pixels around the polygons. -/
set_option linter.unusedVariables false
set_option linter.unusedSimpArgs false
namespace Go.Proofs.YtodefmfgoehkhaaGreat
open Go.RowKit Go.Par Go.Shelf Go.TN Go.Lib
open Go.TA (E2 IntR lineLen Events AreaOf covQ)

theorem canon_idem (r : R4) : rectCanonS (rectCanonS r) = rectCanonS r := by
  cases h : rectEmptyS r
  · rw [canon_self h, canon_self h]
  · have : rectCanonS r = (0, 0, 0, 0) := by unfold rectCanonS; rw [h]; rfl
    rw [this]
    decide
theorem pixS_canon (L : List (List P2)) : rectCanonS (pixS L) = pixS L := by
  unfold pixS
  split
  · exact canon_idem _
  · decide
theorem pixS_valid (L : List (List P2)) : rectValidS (pixS L) = true := by
  rw [← pixS_canon L]
  obtain ⟨h1, h2, h3, h4, _⟩ := canon_in (pixS L)
  simp [rectValidS, h1, h2, h3, h4]
theorem pixI_bd {X0 Y0 X1 Y1 x y : Int} {N : Nat} (hN : (X1 - X0) * (Y1 - Y0) = (N : Int)) (h1 : X0 ≤ x) (h2 : x < X1) (h3 : Y0 ≤ y) (h4 : y < Y1) : 0 ≤ pixI (X0, Y0, X1, Y1) x y ∧ pixI (X0, Y0, X1, Y1) x y < (N : Int) := by
  unfold pixI
  dsimp only
  have m1 : 0 ≤ (y - Y0) * (X1 - X0) := Int.mul_nonneg (by omega) (by omega)
  have m2 : (y - Y0 + 1) * (X1 - X0) ≤ (Y1 - Y0) * (X1 - X0) := Int.mul_le_mul_of_nonneg_right (by omega) (by omega)
  rw [Int.add_mul, Int.one_mul] at m2
  rw [Int.mul_comm] at hN
  omega
theorem pixI_lt {X0 Y0 X1 Y1 x y x' y' : Int} (h1 : X0 ≤ x) (h2 : x' < X1) (h : y' < y ∨ y' = y ∧ x' < x) (hX : X0 ≤ X1) : pixI (X0, Y0, X1, Y1) x' y' < pixI (X0, Y0, X1, Y1) x y := by
  unfold pixI
  dsimp only
  rcases h with h | ⟨rfl, h⟩
  · have m2 : (y' - Y0 + 1) * (X1 - X0) ≤ (y - Y0) * (X1 - X0) := Int.mul_le_mul_of_nonneg_right (by omega) (by omega)
    rw [Int.add_mul, Int.one_mul] at m2
    omega
  · omega
/-- the pixels ahead of (x, y) bear their coverages -/
def DoneTo (X0 Y0 X1 Y1 : Int) (V : Int → Int → Rat) (cs : Array Value) (x y : Int) : Prop :=
  ∀ x' y', X0 ≤ x' → x' < X1 → Y0 ≤ y' → y' < Y1 → (y' < y ∨ y' = y ∧ x' < x) → cs[(pixI (X0, Y0, X1, Y1) x' y').toNat]? = some (.int .u8 (covQ (V x' y' / 65536)))
theorem DoneTo.step {X0 Y0 X1 Y1 x y : Int} {V : Int → Int → Rat} {cs : Array Value} {N : Nat} (h : DoneTo X0 Y0 X1 Y1 V cs x y) (hN : (X1 - X0) * (Y1 - Y0) = (N : Int)) (hs : cs.size = N) (h1 : X0 ≤ x) (h2 : x < X1) (h3 : Y0 ≤ y) (h4 : y < Y1) :
    DoneTo X0 Y0 X1 Y1 V (cs.setIfInBounds (pixI (X0, Y0, X1, Y1) x y).toNat (.int .u8 (covQ (V x y / 65536)))) (x + 1) y := by
  intro x' y' a1 a2 a3 a4 hlt
  have b := pixI_bd hN h1 h2 h3 h4
  by_cases he : x' = x ∧ y' = y
  · obtain ⟨rfl, rfl⟩ := he
    rw [Array.getElem?_setIfInBounds_self_of_lt (by omega)]
  · have hlt' : y' < y ∨ y' = y ∧ x' < x := by omega
    have k := pixI_lt (X0 := X0) (Y0 := Y0) (X1 := X1) (Y1 := Y1) h1 a2 hlt' (by omega)
    have b' := pixI_bd hN a1 a2 a3 a4
    rw [Array.getElem?_setIfInBounds_ne (by omega)]
    exact h x' y' a1 a2 a3 a4 hlt'
theorem DoneTo.row {X0 Y0 X1 Y1 x y : Int} {V : Int → Int → Rat} {cs : Array Value} (h : DoneTo X0 Y0 X1 Y1 V cs x y) (hx : X1 ≤ x) : DoneTo X0 Y0 X1 Y1 V cs X0 (y + 1) := by
  intro x' y' a1 a2 a3 a4 hlt
  exact h x' y' a1 a2 a3 a4 (by omega)
theorem DoneTo.start (X0 Y0 X1 Y1 : Int) (V : Int → Int → Rat) (cs : Array Value) : DoneTo X0 Y0 X1 Y1 V cs X0 Y0 := by
  intro x' y' a1 a2 a3 a4 hlt
  omega
/-- what Mask hands back -/
def MaskPost (w : World) (X0 Y0 X1 Y1 : Int) (N : Nat) (V : Int → Int → Rat) (e : Ending) (w' : World) : Prop :=
  ∃ b cs, e = .returned (.tuple #[.agg #[.int .i64 X0, .int .i64 Y0, .int .i64 X1, .int .i64 Y1, .slice (some ⟨b, 0, none⟩) N N], .int .i64 0]) ∧ Ext w w' ∧ Box w' b 5 cs ∧ cs.size = N ∧
    ∀ x y, X0 ≤ x → x < X1 → Y0 ≤ y → y < Y1 → cs[(pixI (X0, Y0, X1, Y1) x y).toNat]? = some (.int .u8 (covQ (V x y / 65536)))
/-- a mask built over a new row -/
def MaskV (B : Nat) (X0 Y0 X1 Y1 : Int) (N : Nat) (cs : Array Value) (v : Value) (w : World) : Prop := ∃ b, B ≤ b ∧ v = .agg #[.int .i64 X0, .int .i64 Y0, .int .i64 X1, .int .i64 Y1, .slice (some ⟨b, 0, none⟩) N N] ∧ Box w b 5 cs
theorem MaskV.stable (B : Nat) (X0 Y0 X1 Y1 : Int) (N : Nat) (cs : Array Value) : Stable (MaskV B X0 Y0 X1 Y1 N cs) := fun _ _ _ ⟨b, h1, h2, h3⟩ he => ⟨b, h1, h2, h3.ext he⟩
def byteE : EL Tryz.prog Int where
  enc := fun x => [.int .u8 x]
  size := 1
  t := 5
  st := 37
  zero := .int .u8 0
  bytes := 1
  len := fun _ => rfl
  one := fun x v hv => by simp at hv; subst hv; rfl
  pos := by decide
  und := Tryz.underlying37
  info := by kernel_rfl
  zsize := rfl
  small := by decide
/-- four whole numbers written into their box -/
theorem put_four {X : World} {g : Nat} {t : TypeId} {a0 a1 a2 a3 u0 u1 u2 u3 : Value} (h : Box X g t #[a0, a1, a2, a3]) :
    ∃ Y, (((X.setCell ⟨g, 0, none⟩ u0).setCell ⟨g, 1, none⟩ u1).setCell ⟨g, 2, none⟩ u2).setCell ⟨g, 3, none⟩ u3 = Y ∧ But g X Y ∧ Box Y g t #[u0, u1, u2, u3] :=
  ⟨_, rfl, ((((But.refl g X).set 0 u0).set 1 u1).set 2 u2).set 3 u3, h.set4 u0 u1 u2 u3⟩
theorem put_five {X : World} {g : Nat} {t : TypeId} {a0 a1 a2 a3 a4 u0 u1 u2 u3 u4 : Value} (h : Box X g t #[a0, a1, a2, a3, a4]) :
    ∃ Y, ((((X.setCell ⟨g, 0, none⟩ u0).setCell ⟨g, 1, none⟩ u1).setCell ⟨g, 2, none⟩ u2).setCell ⟨g, 3, none⟩ u3).setCell ⟨g, 4, none⟩ u4 = Y ∧ But g X Y ∧ Box Y g t #[u0, u1, u2, u3, u4] :=
  ⟨_, rfl, (((((But.refl g X).set 0 u0).set 1 u1).set 2 u2).set 3 u3).set 4 u4, by simpa using ((((h.set 0 u0).set 1 u1).set 2 u2).set 3 u3).set 4 u4⟩
/-- what holds in the loops -/
structure MaskI (w0 w : World) (bc : Nat) (N : Nat) (X0 Y0 X1 Y1 : Int) (V : Int → Int → Rat) (cs : Array Value) (x y : Int) : Prop where
  but : But bc w0 w
  box : Box w bc 5 cs
  size : cs.size = N
  done : DoneTo X0 Y0 X1 Y1 V cs x y
theorem MaskI.ext {w0 w w' : World} {bc N : Nat} {X0 Y0 X1 Y1 x y : Int} {V : Int → Int → Rat} {cs : Array Value} (h : MaskI w0 w bc N X0 Y0 X1 Y1 V cs x y) (he : Ext w w') : MaskI w0 w' bc N X0 Y0 X1 Y1 V cs x y := ⟨h.but.trans (But.of_ext he), h.box.ext he, h.size, h.done⟩
set_option maxRecDepth 100000 in
set_option maxHeartbeats 1600000 in
theorem Mask_any (L : List (List P2)) (A : Option Addr) (c : Nat) {rule X0 Y0 X1 Y1 : Int} {N : Nat} (w : World) (hS : lenS L ≤ 18) (hLn : L.length ≤ 1000) (hv : validL L = true) (hL : RingsAt w A L) (hr : rule = 1 ∨ rule = 2)
    (hp : pixS L = (X0, Y0, X1, Y1)) (hN : (X1 - X0) * (Y1 - Y0) = (N : Int)) (hN2 : N ≤ 65536) {V : Int → Int → Rat} (hV : ∀ x y S, AreaOf (fun n => fillsS n rule) (edgesL L) (256 * x) (256 * y) (256 * (x + 1)) (256 * (y + 1)) S → S = V x y) :
    Calls Tryz.prog 9 #[.slice A L.length c, .int .i64 rule, .agg #[.int .i64 X0, .int .i64 Y0, .int .i64 X1, .int .i64 Y1]] w (MaskPost w X0 Y0 X1 Y1 N V) := by
  have hcan := pixS_canon L
  have hval := pixS_valid L
  rw [hp] at hcan hval
  have hci := canon_in (X0, Y0, X1, Y1)
  rw [hcan] at hci
  obtain ⟨i1, i2, i3, i4, hX, hY⟩ := hci
  have j1 := inR_bd i1
  have j2 := inR_bd i2
  have j3 := inR_bd i3
  have j4 := inR_bd i4
  simp only at j1 j2 j3 j4 hX hY
  have hare : areaR (X0, Y0, X1, Y1) = (N : Int) := by unfold areaR; rw [hcan]; exact hN
  have HVL := Lib.hid (fun W (hW : Ext w W) => Valid_any L A c W (by omega) (hL.ext hW))
  rw [hv] at HVL
  have HRV := Lib.hid (fun W => pValid_any X0 Y0 X1 Y1 W)
  rw [hval] at HRV
  have HRA := Lib.hid (fun W => pArea_any X0 Y0 X1 Y1 W)
  rw [hare] at HRA
  have HRC := Lib.hid (fun W => pCanon_any X0 Y0 X1 Y1 W)
  rw [hcan] at HRC
  unfold rectV at HRC
  have HPX := Lib.hid (fun W (hW : Ext w W) => Pix_any L A c W (by omega) (hL.ext hW) (by omega))
  rw [hp] at HPX
  unfold rectV at HPX
  have HCP := Lib.hid (fun W (hW : Ext w W) x y (h1 : X0 ≤ x) (h2 : x < X1) (h3 : Y0 ≤ y) (h4 : y < Y1) => covPixel_any (rule := rule) (x := x) (y := y) L A c W hS hLn hv (hL.ext hW) hr (by omega) (by omega) (hV x y))
  have HPI := Lib.hid (fun W x y (h1 : X0 ≤ x) (h2 : x < X1) (h3 : Y0 ≤ y) (h4 : y < Y1) => pixI_any X0 Y0 X1 Y1 x y W (by simp [rectEmptyS, hval]; omega) h1 h2 h3 h4)
  have HN := Lib.hid hN
  dsimp only at HRC HPX
  generalize L.length = n at *
  obtain ⟨O5, hO5⟩ : ∃ O, O = Obj.cells #[.int .i64 X0, .int .i64 Y0, .int .i64 X1, .int .i64 Y1] 34 := ⟨_, rfl⟩
  obtain ⟨O6, hO6⟩ : ∃ O, O = Obj.cells #[.int .i64 0, .int .i64 0, .int .i64 0, .int .i64 0, .slice none 0 0] 39 := ⟨_, rfl⟩
  have hE := (Ext.alloc w O5).trans (Ext.alloc _ O6)
  have x5 := (Box.new w 34 #[.int .i64 X0, .int .i64 Y0, .int .i64 X1, .int .i64 Y1]).alloc O6
  have x6 := Box.at1 (w := w) (o := O5) (t := 39) (cs := #[.int .i64 0, .int .i64 0, .int .i64 0, .int .i64 0, .slice none 0 0])
  rw [← hO5] at x5
  rw [← hO6] at x6
  rw [hO5, hO6] at hE x5 x6
  clear hO5 hO6 hS hLn hv hL hp hN hV hcan hval i1 i2 i3 i4 hare
  go_enter Tryz.func9, Tryz.ntmps9
  go_wp2_with fail
  go_step3
  go_wp2_with fail
  refine (HVL.out _ hE).mono ?_
  rintro e w1 ⟨rfl, hE1⟩
  replace hE := hE.trans hE1
  replace x5 := x5.ext hE1
  replace x6 := x6.ext hE1
  have c5 := x5.cell
  clear hE1 HVL
  rcases hr with rfl | rfl
  all_goals
    go_wp2_with fail
    refine (HRV.out _).mono ?_
    rintro e w2 ⟨rfl, hE1⟩
    replace hE := hE.trans hE1
    replace x5 := x5.ext hE1
    replace x6 := x6.ext hE1
    clear c5
    have c5 := x5.cell
    clear hE1 HRV
    go_wp2_with fail
    refine (HRA.out _).mono ?_
    rintro e w3 ⟨rfl, hE1⟩
    replace hE := hE.trans hE1
    replace x5 := x5.ext hE1
    replace x6 := x6.ext hE1
    clear c5
    have c5 := x5.cell
    clear hE1
    have d1 : ((65536 : Int) < (N : Int)) = False := eq_false (by omega)
    go_wp2_with fail
    refine (HRC.out _).mono ?_
    rintro e w4 ⟨rfl, hE1⟩
    replace hE := hE.trans hE1
    replace x5 := x5.ext hE1
    replace x6 := x6.ext hE1
    clear c5 hE1 HRC d1
    obtain ⟨Y5, hY5, hb5, y5⟩ := put_four (u0 := .int .i64 X0) (u1 := .int .i64 Y0) (u2 := .int .i64 X1) (u3 := .int .i64 Y1) x5
    have hE5 := hE.but hb5 (Nat.le_refl _)
    have y6 := hb5.box x6 (by omega)
    have HY5 := Lib.hid hY5
    have c5 := x5.cell
    have f5 := x5.frozen
    obtain ⟨cs0, hcs0', hcs, hmk⟩ := EL.make byteE N N (Nat.le_refl _) (by omega)
    clear hY5 hb5 hE x5 x6 hcs0'
    go_upto_region 10 with fail
    rw [HY5.out]
    clear HY5 c5 f5
    have hcs1 : cs0.size = N := by rw [hcs]; exact Nat.mul_one N
    have HCS := Lib.hid hcs1
    clear hcs hcs1
    apply wp_region_par' 6 (by kernel_rfl) (by kernel_rfl) rfl
    simp only [List.take_succ_cons, List.take_zero, List.drop_succ_cons, List.drop_zero]
    generalize hW : World.drew _ = W
    have hEW := Ext.of_drew (Ext.refl Y5) hW
    clear hW
    have z5 := (y5.ext hEW).lcell
    have hmk' : ∀ W, (Instr.makeSlice 37 (.int .i64 (N : Int)) (.int .i64 (N : Int))).run Tryz.prog W = .ok (.slice (some ⟨W.heap.size, 0, none⟩) N N) (W.alloc (.cells cs0 5)) := hmk
    clear hmk
    have HA := Lib.hid (fun z : Later W => HRA.out z.val)
    iterate 3
      refine parW_step rfl (fun K hK => ?_)
      apply Exists.intro
      refine ⟨fun z => ?_, ?_⟩
      focus
        go_simp
        first
          | rfl
          | with_reducible exact calls_val (HA.out _)
      go_simp
      refine hK _ ?_
      clear hK K
    refine parW_newRow (t := 5) (n := N) (cs := cs0) rfl rfl rfl (by simp) (fun w1 => ?_) ?_
    · go_simp
    refine parW_rel rfl (MaskV.stable W.heap.size X0 Y0 X1 Y1 N cs0) (fun x => ?_) ?_
    · intro v0 hv0
      obtain ⟨b, rfl, hb0, bx⟩ := hv0 (show Nat.testBit _ _ = true from by kernel_rfl)
      have HR : Hid (MaskV W.heap.size X0 Y0 X1 Y1 N cs0 (.agg #[.int .i64 X0, .int .i64 Y0, .int .i64 X1, .int .i64 Y1, .slice (some ⟨b, 0, none⟩) N N]) x.val) := Lib.hid ⟨b, hb0, rfl, bx⟩
      clear hv0 hb0 bx
      simp only [Giv]
      go_simp
      exact HR.out
    refine parW_new (t := 39) (cs := #[.int .i64 0, .int .i64 0, .int .i64 0, .int .i64 0, .slice none 0 0]) rfl rfl rfl (by simp) (fun w1 => by kernel_rfl) ?_
    refine parW_fin (fun z => ?_)
    rintro v40 hv40 v41 ⟨bc, hbc, rfl, bxc⟩ v8 ⟨b8, rfl, hb8, bx8⟩ hp
    clear hp hv40
    simp only [Act.put, List.setIfInBounds_toArray, List.set_cons_succ, List.set_cons_zero]
    have hne : b8 ≠ bc := Box.ne bx8 bxc (by decide)
    have hEz := hEW.later z
    have hs0 := hEW.size
    have l6 := y6.lt
    obtain ⟨Y8, hY8, hb8b, y8⟩ := put_five (u0 := .int .i64 X0) (u1 := .int .i64 Y0) (u2 := .int .i64 X1) (u3 := .int .i64 Y1) (u4 := .slice (some ⟨bc, 0, none⟩) N N) bx8
    replace y5 := hb8b.box (y5.ext hEz) (by omega)
    replace y6 := hb8b.box (y6.ext hEz) (by omega)
    have yc := hb8b.box bxc (Ne.symm hne)
    have hE8 := (hE5.trans hEz).but hb8b (by omega)
    have m8 : w.heap.size + 1 < b8 := by omega
    have mc : w.heap.size + 1 < bc := by omega
    have HY8 := Lib.hid hY8
    have f8 := bx8.frozen
    have c8 := bx8.cell
    clear hY8 hb8b bx8 bxc hEz hs0 l6 z5 HA HRA hmk' hbc hb8 hE5
    generalize z.val = Z at *
    clear z hEW
    go_upto_region 11 with fail
    rw [HY8.out]
    clear HY8 c8 f8
    go_wp2_with fail
    refine (HPX.out _ hE8).mono ?_
    rintro e w5 ⟨rfl, hE1⟩
    replace hE8 := hE8.trans hE1
    replace y5 := y5.ext hE1
    replace y6 := y6.ext hE1
    replace y8 := y8.ext hE1
    replace yc := yc.ext hE1
    have lc := yc.lt
    have l8 := y8.lt
    have hEA := Ext.alloc w5 (.cells #[.int .i64 X0, .int .i64 Y0, .int .i64 X1, .int .i64 Y1] 34)
    have y9 := Box.new w5 34 #[.int .i64 X0, .int .i64 Y0, .int .i64 X1, .int .i64 Y1]
    replace hE8 := hE8.trans hEA
    replace y5 := y5.ext hEA
    replace y6 := y6.ext hEA
    replace y8 := y8.ext hEA
    replace yc := yc.ext hEA
    clear hE1 hEA HPX
    obtain ⟨b5, hb5⟩ : ∃ b, b = w.heap.size := ⟨_, rfl⟩
    obtain ⟨b6, hb6⟩ : ∃ b, b = w.heap.size + 1 := ⟨_, rfl⟩
    obtain ⟨b9, hb9⟩ : ∃ b, b = w5.heap.size := ⟨_, rfl⟩
    have n5 : b5 ≠ bc := by omega
    have n6 : b6 ≠ bc := by omega
    have n9 : b9 ≠ bc := by omega
    have hwc : w.heap.size ≤ bc := by omega
    have hw6 : w.heap.size ≤ b6 := by omega
    rw [← hb6] at y6 ⊢
    rw [← hb5] at y5 ⊢
    have HB9 := Lib.hid hb9
    clear hb5 hb6 hb9 m8 mc lc l8
    have HE8 := Lib.hid hE8
    have HMI : Hid (MaskI (w5.alloc (.cells #[.int .i64 X0, .int .i64 Y0, .int .i64 X1, .int .i64 Y1] 34)) (w5.alloc (.cells #[.int .i64 X0, .int .i64 Y0, .int .i64 X1, .int .i64 Y1] 34)) bc N X0 Y0 X1 Y1 V cs0 X0 Y0) := Lib.hid ⟨But.refl _ _, yc, HCS.out, DoneTo.start _ _ _ _ _ _⟩
    have m1 : max X0 X0 = X0 := Int.max_self X0
    have m2 : min X1 X1 = X1 := Int.min_self X1
    clear hE8 yc
    go_wp2_with fail
    go_step3
    have c5 := y5.cell
    go_wp2_with fail
    clear c5
    rw [← HB9.out] at y9 ⊢
    clear HB9
    generalize w5.alloc (.cells #[.int .i64 X0, .int .i64 Y0, .int .i64 X1, .int .i64 Y1] 34) = w6 at *
    go_loopw [10, 11] (fun i _ wr => ∃ y cs, Y0 ≤ y ∧ y ≤ Y1 ∧ i = .int .i64 y ∧ MaskI w6 wr bc N X0 Y0 X1 Y1 V cs X0 y) (fun i _ _ => (Y1 - intOf i).toNat)
    case atStart => exact ⟨Y0, cs0, Int.le_refl _, hY, rfl, HMI.out⟩
    case round =>
      obtain ⟨y, cs, hy0, hy1, rfl, hM⟩ := hrel
      clear HMI
      have r5 := hM.but.box y5 n5
      have r9 := hM.but.box y9 n9
      by_cases hlt : y < Y1
      · have d1 : (y < Y1) = True := eq_true hlt
        have d2 : (y < Y0) = False := eq_false (by omega)
        have d3 : (Y1 ≤ y) = False := eq_false (by omega)
        have c5 := r5.cell
        have c9 := r9.cell
        go_wp2_with fail
        clear c5 c9 r5 r9 d1 d2 d3
        generalize wr = wo at *
        go_loopw [11] (fun i wr => ∃ x cs, X0 ≤ x ∧ x ≤ X1 ∧ i = .int .i64 x ∧ MaskI w6 wr bc N X0 Y0 X1 Y1 V cs x y) (fun i _ => (X1 - intOf i).toNat)
        case atStart => exact ⟨X0, cs, Int.le_refl _, hX, rfl, hM⟩
        case round =>
          clear hM cs
          obtain ⟨x, cs, hx0, hx1, rfl, hM⟩ := hrel
          have r5 := hM.but.box y5 n5
          have r9 := hM.but.box y9 n9
          by_cases hlx : x < X1
          · obtain ⟨hp0, hpN⟩ := pixI_bd HN.out hx0 hlx hy0 hlt
            have hst := hM.done.step HN.out hM.size hx0 hlx hy0 hlt
            have hE2 := HE8.out.but hM.but hwc
            have HC1 := Lib.hid (fun (z : World) => HPI.out z x y hx0 hlx hy0 hlt)
            have HC2 := Lib.hid (fun (z : World) (hz : Ext wr z) => HCP.out z (hE2.trans hz) x y hx0 hlx hy0 hlt)
            obtain ⟨k, hk⟩ : ∃ k : Nat, pixI (X0, Y0, X1, Y1) x y = (k : Int) := ⟨(pixI (X0, Y0, X1, Y1) x y).toNat, by omega⟩
            rw [hk, Int.toNat_natCast] at hst
            rw [hk] at HC1 hpN
            generalize covQ (V x y / 65536) = cq at *
            have hkN : k < N := by omega
            obtain ⟨u, hu⟩ : ∃ u, cs[k]? = some u := ⟨_, Array.getElem?_eq_getElem (by rw [hM.size]; exact hkN)⟩
            have r8 := hM.but.box y8 hne
            have d1 : (x < X1) = True := eq_true hlx
            have c5 := r5.cell
            have c9 := r9.cell
            have HU := Lib.hid hu
            have HST := Lib.hid hst
            clear hp0 hpN hk hu hst hE2
            go_wp2_with fail
            clear c5 c9 d1
            apply wp_region_par' 11 (by kernel_rfl) (by kernel_rfl) rfl
            simp only [List.take_succ_cons, List.take_zero, List.drop_succ_cons, List.drop_zero]
            generalize hW : World.drew _ = W
            have hEW := Ext.of_drew (Ext.refl wr) hW
            clear hW
            have z5 := (r5.ext hEW).lcell
            have z8 := (r8.ext hEW).lcell
            have HD1 := Lib.hid (fun z : Later W => HC1.out z.val)
            have HD2 := Lib.hid (fun z : Later W => HC2.out z.val (hEW.later z))
            clear HC1 HC2
            iterate 11
              refine parW_step rfl (fun K hK => ?_)
              apply Exists.intro
              refine ⟨fun z => ?_, ?_⟩
              focus
                go_simp
                first
                  | rfl
                  | with_reducible exact calls_val (HD1.out _)
                  | with_reducible exact calls_val (HD2.out _)
              go_simp
              refine hK _ ?_
              clear hK K
            refine parW_end (fun z => ?_)
            replace hM := hM.ext (hEW.later z)
            clear z5 z8 HD1 HD2 r5 r8 r9
            generalize z.val = Z at *
            clear z hEW
            have fc := hM.box.frozen
            have cc : Z.cell? ⟨bc, k, none⟩ = some u := by rw [hM.box.cell]; exact HU.out
            go_wp2_with fail
            go_roundw
            case rel => exact ⟨x + 1, cs.setIfInBounds k (.int .u8 cq), by omega, by omega, by go_num, ⟨hM.but.set k _, hM.box.set k _, by rw [Array.size_setIfInBounds]; exact hM.size, HST.out⟩⟩
            case measure => simp [intOf]; omega
          · have hxe : x = X1 := by omega
            have HM := Lib.hid hM
            have d1 : (x < X1) = False := eq_false hlx
            have c5 := r5.cell
            have c9 := r9.cell
            clear r5 r9 hM
            go_wp2_with fail
            go_roundw
            case rel => exact ⟨y + 1, cs, by omega, by omega, by go_num, ⟨HM.out.but, HM.out.box, HM.out.size, HM.out.done.row (by omega)⟩⟩
            case measure => simp [intOf]; omega
      · have hye : y = Y1 := by omega
        have d1 : (y < Y1) = False := eq_false hlt
        have r8 := hM.but.box y8 hne
        have r6 := hM.but.box y6 n6
        have hE2 := HE8.out.but hM.but hwc
        obtain ⟨Y, hYY, hbY, yY⟩ := put_five (u0 := .int .i64 X0) (u1 := .int .i64 Y0) (u2 := .int .i64 X1) (u3 := .int .i64 Y1) (u4 := .slice (some ⟨bc, 0, none⟩) N N) r6
        have HFIN := Lib.hid (show Ext w Y ∧ Box Y bc 5 cs ∧ cs.size = N ∧ ∀ x y, X0 ≤ x → x < X1 → Y0 ≤ y → y < Y1 → cs[(pixI (X0, Y0, X1, Y1) x y).toNat]? = some (.int .u8 (covQ (V x y / 65536))) from
          ⟨hE2.but hbY hw6, hbY.box hM.box (Ne.symm n6), hM.size, fun x' y' a1 a2 a3 a4 => hM.done x' y' a1 a2 a3 a4 (by omega)⟩)
        have HYY := Lib.hid hYY
        have c5 := r5.cell
        have c6 := r6.cell
        have f6 := r6.frozen
        have c8 := r8.cell
        have k6 := yY.cell
        rw [← hYY] at k6
        clear r5 r9 hM r8 r6 hE2 hYY hbY yY
        go_wp2
        try rw [Exit.noGoto_ret]
        rw [HYY.out] at k6 ⊢
        exact bodyPost_ret (v := .tuple #[.agg #[.int .i64 X0, .int .i64 Y0, .int .i64 X1, .int .i64 Y1, .slice (some ⟨bc, 0, none⟩) N N], .int .i64 0]) (by simp [results, Tryz.results9, go_sem, k6]) rfl ⟨bc, cs, rfl, HFIN.out.1, HFIN.out.2.1, HFIN.out.2.2.1, HFIN.out.2.2.2⟩
end Go.Proofs.YtodefmfgoehkhaaGreat
