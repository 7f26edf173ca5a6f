/- RegionTilesTouched: the walk. -/
import Derived.Test.YtkjpcjmbhpfelaaRgTouP
import Derived.Test.YtkjpcjmbhpfelaaRgEx
set_option linter.unusedVariables false
set_option linter.unusedSimpArgs false
namespace Go.Reg
open Go.Proofs.Ytkjpcjmbhpfelaa Go.Par
theorem canon_empty (r : R4) : rectEmptyS (rectCanonS r) = rectEmptyS r := by
  cases hx : rectEmptyS r
  · rw [canon_self hx, hx]
  · unfold rectCanonS; rw [hx]; rfl
theorem tileL_len (r : R4) (w h : Int) : (tileL r w h).length ≤ 67108864 := by
  unfold tileL
  cases hb : badT r w h
  · have hb' := hb
    unfold badT at hb
    simp only [Bool.or_eq_false_iff, decide_eq_false_iff_not] at hb
    obtain ⟨⟨hr, hw⟩, hh⟩ := hb
    have br := empty_false hr
    have e1 := timesN_le (n := r.2.2.1 - r.1) (w := min w 8192) (by omega) (by omega)
    have e2 := timesN_le (n := r.2.2.2 - r.2.1) (w := min h 8192) (by omega) (by omega)
    rw [if_neg (by simp), tilesTo_len]
    exact Nat.le_trans (Nat.mul_le_mul (show _ ≤ 8192 by omega) (show _ ≤ 8192 by omega)) (by omega)
  · rw [if_pos rfl]; exact Nat.zero_le _
theorem area_sides {r : R4} (hr : rectEmptyS r = false) (ha : areaR r ≤ 400) : r.2.2.1 - r.1 ≤ 400 ∧ r.2.2.2 - r.2.1 ≤ 400 := by
  have br := empty_false hr
  unfold areaR at ha
  rw [canon_self hr] at ha
  have h1 := Int.mul_le_mul_of_nonneg_left (show 1 ≤ r.2.2.2 - r.2.1 by omega) (show 0 ≤ r.2.2.1 - r.1 by omega)
  have h2 := Int.mul_le_mul_of_nonneg_right (show 1 ≤ r.2.2.1 - r.1 by omega) (show 0 ≤ r.2.2.2 - r.2.1 by omega)
  rw [Int.mul_one] at h1
  rw [Int.one_mul] at h2
  omega
end Go.Reg
namespace Go.Proofs.Ytkjpcjmbhpfelaa
open Go.RowKit Go.Par Go.Reg

set_option maxRecDepth 100000 in
set_option maxHeartbeats 1600000 in
theorem touched_bad (A : Option Addr) (n c : Nat) (r0 r1 r2 r3 wd hg : Int) (w : World) (hb : badT (r0, r1, r2, r3) wd hg = true) :
    Calls Try.prog 35 #[.slice A n c, .agg #[.int .i64 r0, .int .i64 r1, .int .i64 r2, .int .i64 r3], .int .i64 wd, .int .i64 hg] w fun e w' => e = .returned (.slice none 0 0) ∧ Ext w w' := by
  have HC := Lib.hid (fun W => pCanon_any r0 r1 r2 r3 W)
  have hce := canon_empty (r0, r1, r2, r3)
  have HBAD := Lib.hid hb
  clear hb
  unfold badT at HBAD
  generalize rectCanonS (r0, r1, r2, r3) = q at *
  obtain ⟨q0, q1, q2, q3⟩ := q
  unfold rectV at HC
  dsimp only at HC
  have HE0 := Lib.hid (fun W => pEmpty_any q0 q1 q2 q3 W)
  rw [hce] at HE0
  generalize rectEmptyS (r0, r1, r2, r3) = em at *
  clear hce
  have hE0 := Ext.alloc w (.cells #[.int .i64 r0, .int .i64 r1, .int .i64 r2, .int .i64 r3] 29)
  have b5 := Box.new w 29 #[.int .i64 r0, .int .i64 r1, .int .i64 r2, .int .i64 r3]
  have c5 := b5.cell
  go_enter Try.func35, Try.ntmps35
  go_wp2_with fail
  obtain ⟨B5, hB5⟩ : ∃ B5, w.heap.size = B5 := ⟨_, rfl⟩
  have HB5 := Lib.hid hB5
  rw [hB5] at b5 c5 ⊢
  clear hB5
  refine (HC.out _).mono ?_
  rintro e w1 ⟨rfl, hE1⟩
  replace hE0 := hE0.trans hE1
  replace b5 := b5.ext hE1
  clear c5 hE1
  have c5 := b5.cell
  have f5 := b5.frozen
  have HSE := Lib.hid (hE0.set4 (b := B5) (i := 0) (j := 1) (k := 2) (l := 3) (by rw [HB5.out]; omega) (.int .i64 q0) (.int .i64 q1) (.int .i64 q2) (.int .i64 q3))
  have HST := Lib.hid (b5.set4 (.int .i64 q0) (.int .i64 q1) (.int .i64 q2) (.int .i64 q3))
  go_wp2_with fail
  replace hE0 := HSE.out
  clear c5 f5 HSE HST b5
  generalize World.setCell (World.setCell (World.setCell (World.setCell _ _ _) _ _) _ _) _ _ = W1 at *
  refine (HE0.out _).mono ?_
  rintro e w2 ⟨rfl, hE2⟩
  replace hE0 := hE0.trans hE2
  clear hE2
  cases em
  · by_cases hw1 : wd < 1
    · have d1 : (wd < 1) = True := eq_true hw1
      clear HBAD
      go_wp2
      go_ret
      exact ⟨rfl, hE0⟩
    · have hh1 : hg < 1 := by have := HBAD.out; simpa [hw1] using this
      have d1 : (wd < 1) = False := eq_false hw1
      have d2 : (hg < 1) = True := eq_true hh1
      clear HBAD
      go_wp2
      go_ret
      exact ⟨rfl, hE0⟩
  · clear HBAD
    go_wp2
    go_ret
    exact ⟨rfl, hE0⟩
/-- numbers in a row -/
def IntsV (L : List Int) (v : Value) (w : World) : Prop := ∃ A n c, v = .slice A n c ∧ L.length = n ∧ intE.At w A L
theorem IntsV.stable (L : List Int) : Stable (IntsV L) := fun v w w' ⟨A, n, c, h1, h2, h3⟩ he => ⟨A, n, c, h1, h2, h3.ext he⟩
theorem IntsV.of {B : Nat} {L : List Int} {v : Value} {w : World} (h : intE.Own w B v L) (hl : L.length ≤ 1000000000) : IntsV L v w := by
  obtain ⟨A, c, e, _, hat⟩ := h.at rfl (by omega)
  exact ⟨A, _, c, e, rfl, hat⟩
set_option maxRecDepth 100000 in
set_option maxHeartbeats 3200000 in
theorem regionTilesTouched_any (l : List R4) (A : Option Addr) (n c : Nat) (r0 r1 r2 r3 wd hg : Int) (w : World) (hn : l.length = n) (hA : rectE.At w A l) :
    Calls Try.prog 9 #[.slice A n c, .agg #[.int .i64 r0, .int .i64 r1, .int .i64 r2, .int .i64 r3], .int .i64 wd, .int .i64 hg] w fun e w' => e = .returned (.bool true) ∧ Ext w w' := by
  have HEX := Lib.hid (fun W => example_any W)
  have HAR := Lib.hid (fun W => rArea_any r0 r1 r2 r3 W)
  have hE0 := Ext.alloc w (.cells #[.int .i64 r0, .int .i64 r1, .int .i64 r2, .int .i64 r3] 29)
  have b5 := Box.new w 29 #[.int .i64 r0, .int .i64 r1, .int .i64 r2, .int .i64 r3]
  have c5 := b5.cell
  go_enter Try.func9, Try.ntmps9
  go_wp2_with fail
  refine (few_any _ _ _ _ _ _ _).mono ?_
  rintro e w0 ⟨rfl, rfl⟩
  by_cases hf : n ≤ 24 ∧ 0 ≤ 24
  rotate_left
  · rw [decide_eq_false hf]
    clear hf hn hA
    go_wp2_with fail
    refine (HEX.out _).mono ?_
    rintro e w1 ⟨rfl, hE⟩
    go_wp2
    go_ret
    exact ⟨rfl, hE0.trans hE⟩
  · rw [decide_eq_true hf]
    go_wp2_with fail
    refine (HAR.out _).mono ?_
    rintro e w1 ⟨rfl, hE1⟩
    replace hE0 := hE0.trans hE1
    replace b5 := b5.ext hE1
    clear c5 hE1
    by_cases ha : areaR (r0, r1, r2, r3) ≤ 400
    rotate_left
    · obtain ⟨ar, har⟩ : ∃ ar, areaR (r0, r1, r2, r3) = ar := ⟨_, rfl⟩
      rw [har] at ha ⊢
      have d1 : ((400 : Int) < ar) = True := eq_true (by omega)
      clear hf hn hA har
      go_wp2_with fail
      refine (HEX.out _).mono ?_
      rintro e w1 ⟨rfl, hE⟩
      go_wp2
      go_ret
      exact ⟨rfl, hE0.trans hE⟩
    · have HTP := Lib.hid (show ∀ W, Ext w W → Calls Try.prog 35 #[.slice A n c, .agg #[.int .i64 r0, .int .i64 r1, .int .i64 r2, .int .i64 r3], .int .i64 wd, .int .i64 hg] W fun e w' => ∃ v, e = .returned v ∧ Ext W w' ∧ IntsV (touchTo (tileL (r0, r1, r2, r3) wd hg) l (tileL (r0, r1, r2, r3) wd hg).length) v w' from fun W k => by
        have hlen := tileL_len (r0, r1, r2, r3) wd hg
        have htl := touchTo_len (tileL (r0, r1, r2, r3) wd hg) l (tileL (r0, r1, r2, r3) wd hg).length
        cases hb : badT (r0, r1, r2, r3) wd hg
        · have hb' := hb
          unfold badT at hb
          simp only [Bool.or_eq_false_iff, decide_eq_false_iff_not] at hb
          obtain ⟨⟨hr, hw⟩, hh⟩ := hb
          have hs := area_sides hr ha
          have br := empty_false hr
          dsimp only at hs br
          have e1 : (r2 - r0 - 1) / wd ≤ r2 - r0 - 1 := Int.ediv_le_self _ (by omega)
          have e2 : (r3 - r1 - 1) / hg ≤ r3 - r1 - 1 := Int.ediv_le_self _ (by omega)
          refine (touched_main l A n c r0 r1 r2 r3 wd hg W hn hf.1 (hA.ext k) hr (by omega) (by omega) (by omega) (by omega)).mono ?_
          rintro e w' ⟨v, q1, q2, q3⟩
          exact ⟨v, q1, q2, IntsV.of q3 (by omega)⟩
        · refine (touched_bad A n c r0 r1 r2 r3 wd hg W hb).mono ?_
          rintro e w' ⟨q1, q2⟩
          exact ⟨_, q1, q2, none, 0, 0, rfl, by rw [touch_bad hb]; rfl, by rw [touch_bad hb]; exact EL.At.nil _ _⟩)
      have HTR := Lib.hid (show ∀ W, Ext w W → Calls Try.prog 36 #[.slice A n c, .agg #[.int .i64 r0, .int .i64 r1, .int .i64 r2, .int .i64 r3], .int .i64 wd, .int .i64 hg] W fun e w' => ∃ v, e = .returned v ∧ Ext W w' ∧ IntsV (touchTo (tileL (r0, r1, r2, r3) wd hg) l (tileL (r0, r1, r2, r3) wd hg).length) v w' from fun W k => by
        have hlen := tileL_len (r0, r1, r2, r3) wd hg
        have htl := touchTo_len (tileL (r0, r1, r2, r3) wd hg) l (tileL (r0, r1, r2, r3) wd hg).length
        refine (rTouched_any l A n c r0 r1 r2 r3 wd hg W hn (by omega) hlen (hA.ext k)).mono ?_
        rintro e w' ⟨v, q1, q2, q3⟩
        exact ⟨v, q1, q2, IntsV.of q3 (by omega)⟩)
      have HLEN := Lib.hid (show (touchTo (tileL (r0, r1, r2, r3) wd hg) l (tileL (r0, r1, r2, r3) wd hg).length).length ≤ 1000000000 from by
        have hlen := tileL_len (r0, r1, r2, r3) wd hg
        have htl := touchTo_len (tileL (r0, r1, r2, r3) wd hg) l (tileL (r0, r1, r2, r3) wd hg).length
        omega)
      generalize touchTo (tileL (r0, r1, r2, r3) wd hg) l (tileL (r0, r1, r2, r3) wd hg).length = L at *
      obtain ⟨ar, har⟩ : ∃ ar, areaR (r0, r1, r2, r3) = ar := ⟨_, rfl⟩
      rw [har] at ha ⊢
      have d1 : ((400 : Int) < ar) = False := eq_false (by omega)
      have c5 := b5.cell
      clear hn hA har hf HAR
      go_wp2_with fail
      apply wp_region_par' 10 (by kernel_rfl) (by kernel_rfl) rfl
      simp only [List.take_succ_cons, List.take_zero, List.drop_succ_cons, List.drop_zero]
      generalize hW : World.drew _ = W
      have hEW : Ext w1 W := by rw [← hW]; exact Ext.drew _
      clear hW
      have z0 := fun z : Later W => (b5.ext (hEW.later z)).cell
      iterate 4
        refine parW_step rfl (fun K hK => ?_)
        apply Exists.intro
        refine ⟨fun z => ?_, ?_⟩
        focus
          go_simp
          first
            | rfl
            | fail
        go_simp
        refine hK _ ?_
        clear hK K
      refine parW_rel rfl (IntsV.stable L) (fun x => ?_) ?_
      · have hc := HTP.out x.val (hE0.trans (hEW.later x))
        simp only [Giv]
        go_simp
        exact calls_rel hc
      iterate 4
        refine parW_step rfl (fun K hK => ?_)
        apply Exists.intro
        refine ⟨fun z => ?_, ?_⟩
        focus
          go_simp
          first
            | rfl
            | fail
        go_simp
        refine hK _ ?_
        clear hK K
      refine parW_rel rfl (IntsV.stable L) (fun x => ?_) ?_
      · intro v0 hv0
        have hc := HTR.out x.val (hE0.trans (hEW.later x))
        simp only [Giv]
        go_simp
        exact calls_rel hc
      refine parW_fin (fun z => ?_)
      rintro v1 hv1 v2 hv2 hp
      simp only [Act.put, List.setIfInBounds_toArray, List.set_cons_succ, List.set_cons_zero]
      clear hp z0
      have hEz := hEW.later z
      replace hE0 := hE0.trans hEz
      obtain ⟨A1, n1, c1, rfl, hl1, hat1⟩ := hv1
      obtain ⟨A2, n2, c2, rfl, hl2, hat2⟩ := hv2
      have hnn : n2 = n1 := by rw [← hl1, ← hl2]
      subst hnn
      have hnb : n2 ≤ 1000000000 := by rw [← hl1]; exact HLEN.out
      have HL := Lib.hid hl1
      generalize z.val = Z at *
      clear z hEz hEW hl1 hl2 b5 c5 HTP HTR
      have dn : ((n2 : Int) == (n2 : Int)) = true := by simp
      go_wp2_with fail
      go_loopw [11] (fun i wr => ∃ j : Nat, j ≤ n2 ∧ i = .int .i64 j ∧ Ext Z wr) (fun i _ => n2 - (intOf i).toNat)
      case atStart => exact ⟨0, Nat.zero_le _, rfl, Ext.refl _⟩
      case round =>
        obtain ⟨j, hj, rfl, hE⟩ := hrel
        by_cases hlt : j < n2
        · have dj : ((j : Int) < (n2 : Int)) = True := eq_true (by omega)
          obtain ⟨x, hlx⟩ : ∃ q, L[j]? = some q := ⟨_, List.getElem?_eq_getElem (by rw [HL.out]; exact hlt)⟩
          obtain ⟨b1, o1, rfl⟩ := hat1.addr hlx
          obtain ⟨b2, o2, rfl⟩ := hat2.addr hlx
          have e0 := hE.cell (int_cell hat1 hlx)
          have f0 := hE.cell (int_cell hat2 hlx)
          have dx : (x == x) = true := by simp
          clear hlx
          go_wp2_with fail
          go_quiet (fail)
          go_wp2
          go_roundw
          case rel => exact ⟨j + 1, by omega, by go_num, hE.drewN _⟩
          case measure => simp [intOf]; omega
        · have dj : ((j : Int) < (n2 : Int)) = False := eq_false (by omega)
          go_wp2_with fail
          refine (HEX.out _).mono ?_
          rintro e w5 ⟨rfl, hE5⟩
          go_wp2
          go_ret
          exact ⟨rfl, (hE0.trans hE).trans hE5⟩
end Go.Proofs.Ytkjpcjmbhpfelaa
