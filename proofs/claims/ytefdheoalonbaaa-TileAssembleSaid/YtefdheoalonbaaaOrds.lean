/- The orders of tiles: their lengths; few. -/
import Derived.Test.YtefdheoalonbaaaEx
import Derived.Test.YtefdheoalonbaaaZR
set_option linter.unusedVariables false
set_option linter.unusedSimpArgs false
namespace Go.Proofs.Ytefdheoalonbaaa
open Go.RowKit Go.Par

theorem zOrd_len (r : R4) (w h : Int) : (zOrd r w h).length ≤ 256 := by
  unfold zOrd
  split
  · next hv =>
    obtain ⟨f1, f2, f3, f4, f5, f6, f7, f8⟩ := dims hv
    rw [natL_length, zF_length]
    generalize timesS (r.2.2.1 - r.1) w = C at *
    generalize timesS (r.2.2.2 - r.2.1) h = R at *
    have : ((C.toNat * R.toNat : Nat) : Int) = C * R := by rw [Int.natCast_mul, Int.toNat_of_nonneg (by omega), Int.toNat_of_nonneg (by omega)]
    omega
  · exact Nat.zero_le _
theorem ordK_le (M : Nat) : ordK M ≤ 8 := by
  unfold ordK
  cases h : (List.range 9).find? (fun k => decide (M ≤ 2 ^ k)) with
  | none => exact Nat.zero_le _
  | some k =>
    have := List.mem_of_find?_eq_some h
    rw [List.mem_range] at this
    show k ≤ 8
    omega
theorem hilOrd_len (r : R4) (w h : Int) : (hilOrd r w h).length ≤ 65536 := by
  unfold hilOrd
  split
  · refine Nat.le_trans (hilT_length _ _ _) ?_
    rw [hilF_length]
    exact Nat.le_trans (Nat.pow_le_pow_right (by omega) (ordK_le _)) (by decide)
  · exact Nat.zero_le _
theorem shufF_length : ∀ (j : Nat) (x : Int) (l : List Int), (shufF j x l).length = l.length
  | 0, _, _ => rfl
  | j + 1, x, l => by rw [shufF, shufF_length, swapL_length]
theorem shufS_len (n x : Int) : (shufS n x).length = shufN n := by unfold shufS; rw [shufF_length, iotaL_length]
theorem shufN_le (n : Int) : shufN n ≤ 256 := by unfold shufN; omega
/-- a value that reads as a row of numbers -/
def IR (l : List Int) : VP := fun v w => ∃ A n c, v = .slice A n c ∧ l.length = n ∧ intE.At w A l
theorem IR.stable (l : List Int) : Stable (IR l) := fun _ _ _ ⟨A, n, c, h1, h2, h3⟩ he => ⟨A, n, c, h1, h2, h3.ext he⟩
theorem IR.of {w : World} {B : Nat} {v : Value} {l : List Int} (h : intE.Own w B v l) (hb : l.length ≤ 17592186044416) : IR l v w := by
  obtain ⟨A, c, e, _, hat⟩ := h.at rfl hb
  exact ⟨A, _, c, e, rfl, hat⟩
theorem IR.ints {l m : List Int} {v1 v2 : Value} {w : World} (h1 : IR l v1 w) (h2 : IR m v2 w) (hb : l.length ≤ 17592186044416) (hb2 : m.length ≤ 17592186044416) : ∃ A1 n1 c1 A2 n2 c2, v1 = .slice A1 n1 c1 ∧ v2 = .slice A2 n2 c2 ∧
    Calls Try.prog 33 #[.slice A1 n1 c1, .slice A2 n2 c2] w fun e w' => e = .returned (.bool (decide (l = m))) ∧ Ext w w' := by
  obtain ⟨A1, n1, c1, rfl, e1, hat1⟩ := h1
  obtain ⟨A2, n2, c2, rfl, e2, hat2⟩ := h2
  exact ⟨A1, n1, c1, A2, n2, c2, rfl, rfl, Ints_any l m A1 A2 c1 c2 n1 n2 w e1 e2 (by omega) (by omega) hat1 hat2⟩
def fewS (r : R4) (w h : Int) : Bool := !validT r w h || (decide (timesS (r.2.2.1 - r.1) w < 10) && decide (timesS (r.2.2.2 - r.2.1) h < 10))
set_option maxHeartbeats 800000 in
theorem few_any (x0 y0 x1 y1 wd ht : Int) (w : World) :
    Calls Try.prog 35 #[.agg #[.int .i64 x0, .int .i64 y0, .int .i64 x1, .int .i64 y1], .int .i64 wd, .int .i64 ht] w fun e w' => e = .returned (.bool (fewS (x0, y0, x1, y1) wd ht)) ∧ Ext w w' := by
  have HV := Lib.hid (fun W => rTileValid_any x0 y0 x1 y1 wd ht W)
  have HF := Lib.hid (show fewS (x0, y0, x1, y1) wd ht = (!validT (x0, y0, x1, y1) wd ht || (decide ((x1 - x0 - 1).tdiv wd < 9) && decide ((y1 - y0 - 1).tdiv ht < 9))) from by
    unfold fewS timesS
    have e : ∀ q : Int, decide (q + 1 < 10) = decide (q < 9) := fun q => by congr 1; exact propext ⟨fun h => by omega, fun h => by omega⟩
    rw [e, e])
  go_enter Try.func35, Try.ntmps35
  have b3 := Box.new w 23 #[.int .i64 x0, .int .i64 y0, .int .i64 x1, .int .i64 y1]
  go_wp2_with fail
  refine (HV.out _).mono ?_
  rintro e w1 ⟨rfl, hE⟩
  have c3 := (b3.ext hE).cell
  cases hv : validT (x0, y0, x1, y1) wd ht
  · have HR := Lib.hid (show fewS (x0, y0, x1, y1) wd ht = true from by rw [HF.out, hv]; rfl)
    clear hv HF
    go_wp2
    go_ret
    exact ⟨ret_eq (by rw [HR.out]; rfl), (Ext.alloc _ _).trans hE⟩
  · obtain ⟨f1, f2, f3, f4, f5, f6, f7, f8⟩ := dims hv
    obtain ⟨b1, b2, b3, b4, b5, b6⟩ := empty_false f1
    simp only at f4 f5 f6 f7 f8 b1 b2 b3 b4 b5 b6
    have t1 : timesS (x1 - x0) wd = (x1 - x0 - 1).tdiv wd + 1 := rfl
    have t2 : timesS (y1 - y0) ht = (y1 - y0 - 1).tdiv ht + 1 := rfl
    have q1 : IntKind.i64.wrap (x1 - x0) = x1 - x0 := IntWalk.i64_in _ (by omega)
    have q2 : IntKind.i64.wrap (x1 - x0 - 1) = x1 - x0 - 1 := IntWalk.i64_in _ (by omega)
    have q3 : IntKind.i64.wrap (y1 - y0) = y1 - y0 := IntWalk.i64_in _ (by omega)
    have q4 : IntKind.i64.wrap (y1 - y0 - 1) = y1 - y0 - 1 := IntWalk.i64_in _ (by omega)
    have q5 : IntKind.i64.wrap ((x1 - x0 - 1).tdiv wd) = (x1 - x0 - 1).tdiv wd := IntWalk.i64_in _ (by omega)
    have q6 : IntKind.i64.wrap ((y1 - y0 - 1).tdiv ht) = (y1 - y0 - 1).tdiv ht := IntWalk.i64_in _ (by omega)
    have n1 : ¬ wd = 0 := by omega
    have n2 : ¬ ht = 0 := by omega
    rw [hv] at HF
    by_cases h1 : (x1 - x0 - 1).tdiv wd < 9
    · have d1 : ((x1 - x0 - 1).tdiv wd < 9) = True := eq_true h1
      by_cases h2 : (y1 - y0 - 1).tdiv ht < 9
      · have HR := Lib.hid (show fewS (x0, y0, x1, y1) wd ht = true from by rw [HF.out, decide_eq_true h1, decide_eq_true h2]; rfl)
        have d2 : ((y1 - y0 - 1).tdiv ht < 9) = True := eq_true h2
        clear hv HF t1 t2 h1 h2 f4 f5 f6 f7 f8
        go_wp2
        go_ret
        exact ⟨ret_eq (by rw [HR.out]; rfl), (Ext.alloc _ _).trans hE⟩
      · have HR := Lib.hid (show fewS (x0, y0, x1, y1) wd ht = false from by rw [HF.out, decide_eq_true h1, decide_eq_false h2]; rfl)
        have d2 : ((y1 - y0 - 1).tdiv ht < 9) = False := eq_false h2
        clear hv HF t1 t2 h1 h2 f4 f5 f6 f7 f8
        go_wp2
        go_ret
        exact ⟨ret_eq (by rw [HR.out]; rfl), (Ext.alloc _ _).trans hE⟩
    · have HR := Lib.hid (show fewS (x0, y0, x1, y1) wd ht = false from by rw [HF.out, decide_eq_false h1]; rfl)
      have d1 : ((x1 - x0 - 1).tdiv wd < 9) = False := eq_false h1
      clear hv HF t1 t2 h1 f4 f5 f6 f7 f8
      go_wp2
      go_ret
      exact ⟨ret_eq (by rw [HR.out]; rfl), (Ext.alloc _ _).trans hE⟩
set_option maxRecDepth 100000 in
set_option maxHeartbeats 1600000 in
theorem tileZOrder_any (x0 y0 x1 y1 wd ht : Int) (w : World) :
    Calls Try.prog 9 #[.agg #[.int .i64 x0, .int .i64 y0, .int .i64 x1, .int .i64 y1], .int .i64 wd, .int .i64 ht] w fun e w' => e = .returned (.bool true) ∧ Ext w w' := by
  have HF := Lib.hid (fun W => few_any x0 y0 x1 y1 wd ht W)
  have H1 := Lib.hid (fun W => ZOrder_any x0 y0 x1 y1 wd ht W)
  have H2 := Lib.hid (fun W => rZOrder_any x0 y0 x1 y1 wd ht W)
  have hlen := zOrd_len (x0, y0, x1, y1) wd ht
  generalize zOrd (x0, y0, x1, y1) wd ht = L at *
  generalize fewS (x0, y0, x1, y1) wd ht = f at *
  go_enter Try.func9, Try.ntmps9
  have b3 := Box.new w 23 #[.int .i64 x0, .int .i64 y0, .int .i64 x1, .int .i64 y1]
  go_wp2_with fail
  refine (HF.out _).mono ?_
  rintro e w1 ⟨rfl, hE⟩
  replace b3 := b3.ext hE
  replace hE := (Ext.alloc _ _).trans hE
  cases f
  · go_wp2_with fail
    refine (example_any _).mono ?_
    rintro e w2 ⟨rfl, hE2⟩
    go_wp2
    go_ret
    exact ⟨rfl, hE.trans hE2⟩
  · go_wp2_with fail
    apply wp_region_par' 12 (by kernel_rfl) (by kernel_rfl) rfl
    simp only [List.take_succ_cons, List.take_zero, List.drop_succ_cons, List.drop_zero]
    generalize hW : World.drew _ = W
    replace hE : Ext w W := by rw [← hW]; exact hE.trans (Ext.drew _)
    replace b3 : Box W w.heap.size 23 #[.int .i64 x0, .int .i64 y0, .int .i64 x1, .int .i64 y1] := by rw [← hW]; exact b3.drew
    clear hW
    have k3 := b3.lcell
    iterate 3
      refine parW_step rfl (fun K hK => ?_)
      apply Exists.intro
      refine ⟨fun z => ?_, ?_⟩
      focus
        go_simp
        first
          | rfl
          | fail
      go_simp
      refine hK _ ?_
      clear hK K
    refine parW_rel rfl (IR.stable L) (fun x => ?_) ?_
    · have hc := (H1.out x.val).mono (R' := fun e w' => ∃ v, e = .returned v ∧ Ext x.val w' ∧ IR L v w') fun e w' ⟨v, h1, h2, h3⟩ => ⟨v, h1, h2, IR.of h3 (by omega)⟩
      simp only [Giv]
      go_simp
      exact calls_rel hc
    iterate 3
      refine parW_step rfl (fun K hK => ?_)
      apply Exists.intro
      refine ⟨fun z => ?_, ?_⟩
      focus
        go_simp
        first
          | rfl
          | fail
      go_simp
      refine hK _ ?_
      clear hK K
    refine parW_rel rfl (IR.stable L) (fun x => ?_) ?_
    · intro v0 hv0
      have hc := (H2.out x.val).mono (R' := fun e w' => ∃ v, e = .returned v ∧ Ext x.val w' ∧ IR L v w') fun e w' ⟨v, h1, h2, h3⟩ => ⟨v, h1, h2, IR.of h3 (by omega)⟩
      simp only [Giv]
      go_simp
      exact calls_rel hc
    refine parW_giv (c := .bool true) (fun x => ?_) ?_
    · intro v1 hv1 v2 hv2
      have g1 := hv1 (show Nat.testBit _ _ = true from by kernel_rfl)
      have g2 := hv2 (show Nat.testBit _ _ = true from by kernel_rfl)
      obtain ⟨A1, n1, c1, A2, n2, c2, rfl, rfl, hc⟩ := IR.ints g1 g2 (by omega) (by omega)
      rw [decide_eq_true rfl] at hc
      simp only [Giv]
      go_simp
      exact calls_val hc
    iterate 3
      refine parW_step rfl (fun K hK => ?_)
      apply Exists.intro
      refine ⟨fun z => ?_, ?_⟩
      focus
        go_simp
        first
          | rfl
          | with_reducible exact calls_val (example_any _)
      go_simp
      refine hK _ ?_
      clear hK K
    refine parW_fin (fun z => ?_)
    rintro v1 hv1 v2 hv2 hp
    simp only [Act.put, List.setIfInBounds_toArray, List.set_cons_succ, List.set_cons_zero]
    go_wp2
    go_ret
    exact ⟨rfl, hE.later z⟩
end Go.Proofs.Ytefdheoalonbaaa
