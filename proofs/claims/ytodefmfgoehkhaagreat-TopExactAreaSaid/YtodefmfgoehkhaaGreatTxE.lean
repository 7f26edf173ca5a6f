/- intersect: Segments (printed by gen_seg.py). -/
import Derived.Test.YtodefmfgoehkhaaGreatTxD
import Derived.RegionCalls
import Derived.Deep.CutRange
set_option linter.unusedVariables false
set_option linter.unusedSimpArgs false
namespace Go.Proofs.YtodefmfgoehkhaaGreat
open Go.RowKit Go.Par Go.TN
open Go.TA (E2 ratI alongR yAtR xAt crosses crossI segN segT segS)

theorem subS_in {p q : P2} (hp : InC p) (hq : InC q) : subS p q = TA.subI p q := by
  obtain ⟨h1, h2, h3, h4⟩ := hp
  obtain ⟨h5, h6, h7, h8⟩ := hq
  have e : ∀ n : Int, -1048576 ≤ n → n ≤ 1048576 → heldS n = n := fun n a b => by unfold heldS clampS; rw [if_neg (by omega), if_neg (by omega)]
  unfold subS TA.subI
  rw [e _ h1 h2, e _ h3 h4, e _ h5 h6, e _ h7 h8]
def InD (p : P2) : Prop := -2097152 ≤ p.1 ∧ p.1 ≤ 2097152 ∧ -2097152 ≤ p.2 ∧ p.2 ≤ 2097152
theorem InD.sub {p q : P2} (hp : InC p) (hq : InC q) : InD (TA.subI p q) := by
  obtain ⟨h1, h2, h3, h4⟩ := hp
  obtain ⟨h5, h6, h7, h8⟩ := hq
  unfold TA.subI InD
  dsimp only
  omega
theorem vsub_any {p q : P2} (hp : InC p) (hq : InC q) (w : World) : Calls Tryz.prog 103 #[ptV p, ptV q] w fun e w' => e = .returned (ptV (TA.subI p q)) ∧ Ext w w' := by
  have h := Sub_any p.1 p.2 q.1 q.2 w
  rw [← subS_in hp hq]
  exact h
theorem vcross_any {p q : P2} (hp : InD p) (hq : InD q) (w : World) : Calls Tryz.prog 104 #[ptV p, ptV q] w fun e w' => e = .returned (.int .i64 (crossI p q)) ∧ Ext w w' := by
  obtain ⟨h1, h2, h3, h4⟩ := hp
  obtain ⟨h5, h6, h7, h8⟩ := hq
  exact icross_any p.1 p.2 q.1 q.2 w ⟨by omega, by omega, by omega, by omega, by omega, by omega, by omega, by omega⟩
theorem crossI_bd {p q : P2} (hp : InD p) (hq : InD q) : -9223372036854775808 ≤ crossI p q ∧ crossI p q ≤ 9223372036854775807 := by
  obtain ⟨h1, h2, h3, h4⟩ := hp
  obtain ⟨h5, h6, h7, h8⟩ := hq
  have m1 := mul_bd4 (a := p.1) (b := q.2) (by omega) (by omega) (by omega) (by omega)
  have m2 := mul_bd4 (a := p.2) (b := q.1) (by omega) (by omega) (by omega) (by omega)
  unfold crossI
  omega
/-- four words, of whatever kind a rational has -/
def RShape (v : Value) : Prop := ∃ b A n c b' A' n' c', v = .agg #[.bool b, .slice A n c, .bool b', .slice A' n' c']
theorem RV.shape {w : World} {v : Value} {q : Rat} (h : RV w v q) : RShape v := by
  obtain ⟨_, _, _, _, _, _, _, _, e, _⟩ := h
  exact ⟨_, _, _, _, _, _, _, _, e⟩
theorem RShape.zero : RShape zeroR := ⟨_, _, _, _, _, _, _, _, rfl⟩
def segOk (e f : E2) : Prop := segN e f ≠ 0 ∧ 0 ≤ segT e f ∧ segT e f ≤ 1 ∧ 0 ≤ segS e f ∧ segS e f ≤ 1
theorem segNo {e f : E2} {T : Rat} (h : segT e f = T) (k : T < 0 ∨ 1 < T) : ¬ segOk e f := fun ⟨_, h1, h2, _⟩ => by
  rw [h] at h1 h2
  grind
theorem segNo' {e f : E2} {T : Rat} (h : segS e f = T) (k : T < 0 ∨ 1 < T) : ¬ segOk e f := fun ⟨_, _, _, h1, h2⟩ => by
  rw [h] at h1 h2
  grind
/-- what Segments hands back -/
def SegPost (w : World) (e f : E2) (en : Ending) (w' : World) : Prop := ∃ vx vy k, en = .returned (.tuple #[vx, vy, .int .i64 k]) ∧ Ext w w' ∧ RShape vx ∧ RShape vy ∧
  (k = 1 → ∃ q, RV w' vy q ∧ Sz 7 q ∧ (segN e f ≠ 0 → q = alongR e.1.2 e.2.2 (segT e f))) ∧ (segOk e f → k = 1)
set_option maxHeartbeats 3200000 in
set_option maxRecDepth 8000 in
theorem Segments_any (a b c d : P2) (w : World) (ha : InC a) (hb : InC b) (hc : InC c) (hd : InC d) :
    Calls Tryz.prog 74 #[ptV a, ptV b, ptV c, ptV d] w (SegPost w (a, b) (c, d)) := by
  obtain ⟨O1, hO1⟩ : ∃ O, O = Obj.cells #[.int .i64 a.1, .int .i64 a.2] 49 := ⟨_, rfl⟩
  obtain ⟨O2, hO2⟩ : ∃ O, O = Obj.cells #[.int .i64 b.1, .int .i64 b.2] 49 := ⟨_, rfl⟩
  obtain ⟨O3, hO3⟩ : ∃ O, O = Obj.cells #[.int .i64 c.1, .int .i64 c.2] 49 := ⟨_, rfl⟩
  obtain ⟨O4, hO4⟩ : ∃ O, O = Obj.cells #[.int .i64 d.1, .int .i64 d.2] 49 := ⟨_, rfl⟩
  obtain ⟨O5, hO5⟩ : ∃ O, O = Obj.cells #[.bool false, .slice none 0 0, .bool false, .slice none 0 0] 29 := ⟨_, rfl⟩
  obtain ⟨O6, hO6⟩ : ∃ O, O = Obj.cells #[.int .i64 a.1, .int .i64 a.2, .int .i64 b.1, .int .i64 b.2, .int .i64 c.1, .int .i64 c.2, .int .i64 d.1, .int .i64 d.2] 49 := ⟨_, rfl⟩
  have hE := ((((((Ext.alloc w O1).trans (Ext.alloc _ O2)).trans (Ext.alloc _ O3)).trans (Ext.alloc _ O4)).trans (Ext.alloc _ O5)).trans (Ext.alloc _ O5)).trans (Ext.alloc _ O6)
  have x0 := (((((((Box.newAt (w := w) (t := 49) (cs := #[.int .i64 a.1, .int .i64 a.2]) (b := w.heap.size) (by simp)).alloc O2).alloc O3).alloc O4).alloc O5).alloc O5).alloc O6)
  rw [← hO1] at x0
  have x1 := ((((((Box.newAt (w := (w.alloc O1)) (t := 49) (cs := #[.int .i64 b.1, .int .i64 b.2]) (b := w.heap.size + 1) (by simp)).alloc O3).alloc O4).alloc O5).alloc O5).alloc O6)
  rw [← hO2] at x1
  have x2 := (((((Box.newAt (w := ((w.alloc O1).alloc O2)) (t := 49) (cs := #[.int .i64 c.1, .int .i64 c.2]) (b := w.heap.size + 1 + 1) (by simp)).alloc O4).alloc O5).alloc O5).alloc O6)
  rw [← hO3] at x2
  have x3 := ((((Box.newAt (w := (((w.alloc O1).alloc O2).alloc O3)) (t := 49) (cs := #[.int .i64 d.1, .int .i64 d.2]) (b := w.heap.size + 1 + 1 + 1) (by simp)).alloc O5).alloc O5).alloc O6)
  rw [← hO4] at x3
  have x4 := (((Box.newAt (w := ((((w.alloc O1).alloc O2).alloc O3).alloc O4)) (t := 29) (cs := #[.bool false, .slice none 0 0, .bool false, .slice none 0 0]) (b := w.heap.size + 1 + 1 + 1 + 1) (by simp)).alloc O5).alloc O6)
  rw [← hO5] at x4
  have x5 := ((Box.newAt (w := (((((w.alloc O1).alloc O2).alloc O3).alloc O4).alloc O5)) (t := 29) (cs := #[.bool false, .slice none 0 0, .bool false, .slice none 0 0]) (b := w.heap.size + 1 + 1 + 1 + 1 + 1) (by simp)).alloc O6)
  rw [← hO5] at x5
  have x6 := (Box.newAt (w := ((((((w.alloc O1).alloc O2).alloc O3).alloc O4).alloc O5).alloc O5)) (t := 49) (cs := #[.int .i64 a.1, .int .i64 a.2, .int .i64 b.1, .int .i64 b.2, .int .i64 c.1, .int .i64 c.2, .int .i64 d.1, .int .i64 d.2]) (b := w.heap.size + 1 + 1 + 1 + 1 + 1 + 1) (by simp))
  rw [← hO6] at x6
  rw [hO1, hO2, hO3, hO4, hO5, hO6] at hE x0 x1 x2 x3 x4 x5 x6
  clear hO1 hO2 hO3 hO4 hO5 hO6
  have HM := Lib.hid (may_any [a, b, c, d] _ 4 4 _ rfl (by omega) (ptsOfBox x6 rfl) (by
    intro p hp
    simp only [List.mem_cons, List.not_mem_nil, or_false] at hp
    rcases hp with rfl | rfl | rfl | rfl
    · exact ha
    · exact hb
    · exact hc
    · exact hd))
  have HU := Lib.hid (fun W => vsub_any hb ha W)
  have HV := Lib.hid (fun W => vsub_any hd hc W)
  have HW := Lib.hid (fun W => vsub_any hc ha W)
  have iu := InD.sub hb ha
  have iv := InD.sub hd hc
  have iw := InD.sub hc ha
  have en : segN (a, b) (c, d) = crossI (TA.subI b a) (TA.subI d c) := rfl
  have et : segT (a, b) (c, d) = ratI (crossI (TA.subI c a) (TA.subI d c)) (segN (a, b) (c, d)) := rfl
  have es : segS (a, b) (c, d) = ratI (crossI (TA.subI c a) (TA.subI b a)) (segN (a, b) (c, d)) := rfl
  obtain ⟨N, hN⟩ : ∃ N, segN (a, b) (c, d) = N := ⟨_, rfl⟩
  obtain ⟨T, hT⟩ : ∃ N, segT (a, b) (c, d) = N := ⟨_, rfl⟩
  obtain ⟨S, hS⟩ : ∃ N, segS (a, b) (c, d) = N := ⟨_, rfl⟩
  rw [hN] at en et es
  rw [hT] at et
  rw [hS] at es
  generalize TA.subI b a = u at *
  generalize TA.subI d c = v at *
  generalize TA.subI c a = ww at *
  have HN := Lib.hid (fun W => vcross_any iu iv W)
  have HT0 := Lib.hid (fun W => vcross_any iw iv W)
  have HS0 := Lib.hid (fun W => vcross_any iw iu W)
  have bn := crossI_bd iu iv
  have bt := crossI_bd iw iv
  have bs := crossI_bd iw iu
  rw [← en] at HN bn
  generalize crossI ww v = tn at *
  generalize crossI ww u = sn at *
  have HIU := Lib.hid iu
  have HIV := Lib.hid iv
  have HIW := Lib.hid iw
  have HND := Lib.hid hN
  have HTD := Lib.hid hT
  have HSD := Lib.hid hS
  have HET := Lib.hid et
  have HES := Lib.hid es
  have HBN := Lib.hid bn
  have HBT := Lib.hid bt
  have HBS := Lib.hid bs
  have HA := Lib.hid ha
  have HB := Lib.hid hb
  have HC := Lib.hid hc
  have HD := Lib.hid hd
  clear en et es hN hT hS bn bt bs iu iv iw ha hb hc hd
  go_enter Tryz.func74, Tryz.ntmps74
  go_wp2_with fail
  refine HM.out.mono ?_
  rintro e w1 ⟨rfl, hE1⟩
  replace x0 := x0.ext hE1
  replace x1 := x1.ext hE1
  replace x2 := x2.ext hE1
  replace x3 := x3.ext hE1
  replace x4 := x4.ext hE1
  replace x5 := x5.ext hE1
  replace hE := hE.trans hE1
  clear hE1 HM x6
  go_wp2_with fail
  apply wp_region_par' 12 (by kernel_rfl) (by kernel_rfl) rfl
  simp only [List.take_succ_cons, List.take_zero, List.drop_succ_cons, List.drop_zero]
  generalize hW : World.drew _ = W
  replace hE := Ext.of_drew hE hW
  replace x0 := Box.of_drew x0 hW
  replace x1 := Box.of_drew x1 hW
  replace x2 := Box.of_drew x2 hW
  replace x3 := Box.of_drew x3 hW
  replace x4 := Box.of_drew x4 hW
  replace x5 := Box.of_drew x5 hW
  clear hW
  have z0 := x0.lcell
  have z1 := x1.lcell
  have z2 := x2.lcell
  have z3 := x3.lcell
  iterate 9
    refine parW_step rfl (fun K hK => ?_)
    apply Exists.intro
    refine ⟨fun z => ?_, ?_⟩
    focus
      go_simp
      first
        | rfl
        | with_reducible exact calls_val (HU.out _)
        | with_reducible exact calls_val (HV.out _)
        | with_reducible exact calls_val (HW.out _)
    go_simp
    refine hK _ ?_
    clear hK K
  refine parW_new (t := 49) (cs := #[.int .i64 0, .int .i64 0]) rfl rfl rfl (by simp) (fun w1 => by kernel_rfl) ?_
  refine parW_new (t := 49) (cs := #[.int .i64 0, .int .i64 0]) rfl rfl rfl (by simp) (fun w1 => by kernel_rfl) ?_
  refine parW_new (t := 49) (cs := #[.int .i64 0, .int .i64 0]) rfl rfl rfl (by simp) (fun w1 => by kernel_rfl) ?_
  refine parW_fin (fun z => ?_)
  rintro v1 ⟨g1, rfl, h1, y1⟩ v2 ⟨g2, rfl, h2, y2⟩ v3 ⟨g3, rfl, h3, y3⟩ hp
  have hne : (g1 ≠ g2 ∧ g1 ≠ g3) ∧ g2 ≠ g3 := by simpa [blockOf] using hp
  obtain ⟨⟨n12, n13⟩, n23⟩ := hne
  have n12' : ¬ g1 = g2 := n12
  have n13' : ¬ g1 = g3 := n13
  have n23' : ¬ g2 = g3 := n23
  have n21 : ¬ g2 = g1 := fun e => n12 e.symm
  have n31 : ¬ g3 = g1 := fun e => n13 e.symm
  have n32 : ¬ g3 = g2 := fun e => n23 e.symm
  have hsw := hE.size
  have hE0 : w.heap.size + 5 < W.heap.size := x5.lt
  replace hE := hE.trans z.prop
  replace x0 := x0.later z
  replace x1 := x1.later z
  replace x2 := x2.later z
  replace x3 := x3.later z
  replace x4 := x4.later z
  replace x5 := x5.later z
  have e1 := y1.cell
  have f1 := y1.frozen
  have e2 := y2.cell
  have f2 := y2.frozen
  have e3 := y3.cell
  have f3 := y3.frozen
  clear z0
  clear z1
  clear z2
  clear z3
  have hlt := x5.lt
  have hsz : ∀ k, k ≤ 5 → w.heap.size + k ≠ g1 ∧ w.heap.size + k ≠ g2 ∧ w.heap.size + k ≠ g3 := fun k hk => by have := hE0; omega
  obtain ⟨Y1, hY1, hEn, yn, hb⟩ := pt_put y1 hE (by omega) (.int .i64 u.1) (.int .i64 u.2)
  clear hE y1
  have hE := hEn
  have y1 := yn
  clear hEn yn
  replace x0 := hb _ _ _ (show w.heap.size ≠ g1 from (hsz 0 (by omega)).1) x0
  replace x1 := hb _ _ _ (show w.heap.size + 1 ≠ g1 from (hsz 1 (by omega)).1) x1
  replace x2 := hb _ _ _ (show w.heap.size + 1 + 1 ≠ g1 from (hsz 2 (by omega)).1) x2
  replace x3 := hb _ _ _ (show w.heap.size + 1 + 1 + 1 ≠ g1 from (hsz 3 (by omega)).1) x3
  replace x4 := hb _ _ _ (show w.heap.size + 1 + 1 + 1 + 1 ≠ g1 from (hsz 4 (by omega)).1) x4
  replace x5 := hb _ _ _ (show w.heap.size + 1 + 1 + 1 + 1 + 1 ≠ g1 from (hsz 5 (by omega)).1) x5
  replace y2 := hb _ _ _ n21 y2
  replace y3 := hb _ _ _ n31 y3
  clear hb
  obtain ⟨Y2, hY2, hEn, yn, hb⟩ := pt_put y2 hE (by omega) (.int .i64 v.1) (.int .i64 v.2)
  clear hE y2
  have hE := hEn
  have y2 := yn
  clear hEn yn
  replace x0 := hb _ _ _ (show w.heap.size ≠ g2 from (hsz 0 (by omega)).2.1) x0
  replace x1 := hb _ _ _ (show w.heap.size + 1 ≠ g2 from (hsz 1 (by omega)).2.1) x1
  replace x2 := hb _ _ _ (show w.heap.size + 1 + 1 ≠ g2 from (hsz 2 (by omega)).2.1) x2
  replace x3 := hb _ _ _ (show w.heap.size + 1 + 1 + 1 ≠ g2 from (hsz 3 (by omega)).2.1) x3
  replace x4 := hb _ _ _ (show w.heap.size + 1 + 1 + 1 + 1 ≠ g2 from (hsz 4 (by omega)).2.1) x4
  replace x5 := hb _ _ _ (show w.heap.size + 1 + 1 + 1 + 1 + 1 ≠ g2 from (hsz 5 (by omega)).2.1) x5
  replace y1 := hb _ _ _ n12 y1
  replace y3 := hb _ _ _ n32 y3
  clear hb
  obtain ⟨Y3, hY3, hEn, yn, hb⟩ := pt_put y3 hE (by omega) (.int .i64 ww.1) (.int .i64 ww.2)
  clear hE y3
  have hE := hEn
  have y3 := yn
  clear hEn yn
  replace x0 := hb _ _ _ (show w.heap.size ≠ g3 from (hsz 0 (by omega)).2.2) x0
  replace x1 := hb _ _ _ (show w.heap.size + 1 ≠ g3 from (hsz 1 (by omega)).2.2) x1
  replace x2 := hb _ _ _ (show w.heap.size + 1 + 1 ≠ g3 from (hsz 2 (by omega)).2.2) x2
  replace x3 := hb _ _ _ (show w.heap.size + 1 + 1 + 1 ≠ g3 from (hsz 3 (by omega)).2.2) x3
  replace x4 := hb _ _ _ (show w.heap.size + 1 + 1 + 1 + 1 ≠ g3 from (hsz 4 (by omega)).2.2) x4
  replace x5 := hb _ _ _ (show w.heap.size + 1 + 1 + 1 + 1 + 1 ≠ g3 from (hsz 5 (by omega)).2.2) x5
  replace y1 := hb _ _ _ n13 y1
  replace y2 := hb _ _ _ n23 y2
  clear hb
  have hYY := hY3
  rw [← hY2, ← hY1] at hYY
  have HY := Lib.hid hYY
  have hEY : Ext w Y3 := hE
  clear hY1 hY2 hY3 hYY n12 n13 n23 hp hsz hlt hE0 hsw h1 h2 h3
  generalize z.val = Z at *
  have c1 := y1.cell
  have c2 := y2.cell
  rw [← HY.out] at c1 c2
  go_wp2_with fail
  rw [HY.out]
  clear HY e1 e2 e3 f1 f2 f3 c1 c2 n12' n13' n23' n21 n31 n32
  refine (HN.out _).mono ?_
  rintro e w2 ⟨rfl, hE1⟩
  replace x0 := x0.ext hE1
  replace x1 := x1.ext hE1
  replace x2 := x2.ext hE1
  replace x3 := x3.ext hE1
  replace x4 := x4.ext hE1
  replace x5 := x5.ext hE1
  replace y1 := y1.ext hE1
  replace y2 := y2.ext hE1
  replace y3 := y3.ext hE1
  replace hEY := hEY.trans hE1
  clear hE1
  by_cases hN0 : N = 0
  · subst hN0
    have c1 := y1.cell
    have c2 := y2.cell
    have c3 := y3.cell
    have HNO : Hid (¬ segOk (a, b) (c, d)) := Lib.hid (fun h : segOk (a, b) (c, d) => h.1 HND.out)
    go_wp2_with fail
    · refine (vcross_any (p := v) HIV.out HIW.out _).mono ?_
      rintro e w3 ⟨rfl, hE1⟩
      have x19 := (Box.new w2 49 _).ext hE1
      replace hE1 := (Ext.alloc w2 _).trans hE1
      replace x0 := x0.ext hE1
      replace x1 := x1.ext hE1
      replace x2 := x2.ext hE1
      replace x3 := x3.ext hE1
      replace x4 := x4.ext hE1
      replace x5 := x5.ext hE1
      replace hEY := hEY.trans hE1
      clear hE1 y1 y2 y3 c1 c2 c3
      generalize crossI _ _ = m
      have c0 := x0.cell
      have c1 := x1.cell
      have c2 := x2.cell
      have c3 := x3.cell
      have c4 := x4.cell
      have c5 := x5.cell
      have f4 := x4.frozen
      have f5 := x5.frozen
      have c19 := x19.cell
      go_wp2_with fail
      · refine bodyPost_ret (v := .tuple #[zeroR, zeroR, .int .i64 0]) ?_ rfl ⟨_, _, 0, rfl, (hEY.set4 (by omega) _ _ _ _).set4 (by omega) _ _ _ _, RShape.zero, RShape.zero, fun h => absurd h (by decide), fun h => (HNO.out h).elim⟩
        simp [results, Tryz.results74, go_sem, c4, c5, f4, f5]
      · refine bodyPost_ret (v := .tuple #[zeroR, zeroR, .int .i64 0]) ?_ rfl ⟨_, _, 0, rfl, (hEY.set4 (by omega) _ _ _ _).set4 (by omega) _ _ _ _, RShape.zero, RShape.zero, fun h => absurd h (by decide), fun h => (HNO.out h).elim⟩
        simp [results, Tryz.results74, go_sem, c4, c5, f4, f5]
      · refine (shared_any a b c d _ HA.out HB.out HC.out HD.out).mono ?_
        rintro e w4 ⟨p, k, rfl, hE4, hp⟩
        have HP := Lib.hid hp
        clear c0 c1 c2 c3 c4 c5 f4 f5 c19 hp
        replace x4 := x4.ext hE4
        replace x5 := x5.ext hE4
        replace hEY := hEY.trans hE4
        have c4 := x4.cell
        have c5 := x5.cell
        have f4 := x4.frozen
        have f5 := x5.frozen
        by_cases hk : k = 1
        · subst hk
          clear c4 c5 f4 f5
          go_wp2_with fail
          apply wp_region_par' 6 (by kernel_rfl) (by kernel_rfl) rfl
          simp only [List.take_succ_cons, List.take_zero, List.drop_succ_cons, List.drop_zero]
          generalize hW : World.drew _ = W2
          have x20 := Box.of_drew (Box.new w4 49 #[.int .i64 p.1, .int .i64 p.2]) hW
          replace hE4 := Ext.of_drew (Ext.alloc w4 (.cells #[.int .i64 p.1, .int .i64 p.2] 49)) hW
          clear hW
          have hEZ := hEY.trans hE4
          have v4 := x4.ext hE4
          have v5 := x5.ext hE4
          have z0 := x20.lcell
          have SQ : Sz 7 (p.2 : Rat) := (Sz.coord (z := p.2) (by have := HP.out.2.2; omega) (by have := HP.out.2.2; omega)).mono (by omega)
          have HL1 := Lib.hid (fun W => fromIntV p.1 W (by have := HP.out.1; omega) (by have := HP.out.2.1; omega))
          have HL2 := Lib.hid (fun W => fromIntV p.2 W (by have := HP.out.2.2; omega) (by have := HP.out.2.2; omega))
          generalize (p.1 : Rat) = r1 at *
          generalize (p.2 : Rat) = r2 at *
          iterate 2
            refine parW_step rfl (fun K hK => ?_)
            apply Exists.intro
            refine ⟨fun z => ?_, ?_⟩
            focus
              go_simp
              first
                | rfl
                | fail
            go_simp
            refine hK _ ?_
            clear hK K
          refine parW_rel rfl (RV.stable r1) (fun x => ?_) ?_
          · have hc := HL1.out x.val
            simp only [Giv]
            go_simp
            exact calls_rel hc
          iterate 2
            refine parW_step rfl (fun K hK => ?_)
            apply Exists.intro
            refine ⟨fun z => ?_, ?_⟩
            focus
              go_simp
              first
                | rfl
                | fail
            go_simp
            refine hK _ ?_
            clear hK K
          refine parW_rel rfl (RV.stable r2) (fun x => ?_) ?_
          · intro va hva
            have hc := HL2.out x.val
            simp only [Giv]
            go_simp
            exact calls_rel hc
          refine parW_fin (fun z => ?_)
          rintro va o1 vb o2 hp
          simp only [Act.put, List.setIfInBounds_toArray, List.set_cons_succ, List.set_cons_zero]
          obtain ⟨p1, P1, p2, p3, p1', P1', p2', p3', r1, R1, r2, r3, r1', R1', r2', r3', Z', rfl, rfl, hZ, hE', q4, q5, j1, j2, hb⟩ := two_putR (w := w) (by omega) (v4.later z) (v5.later z) (hEZ.trans z.prop) (by omega) (by omega) o1 o2
          have HZ := Lib.hid hZ
          have f4 := (v4.later z).frozen
          have f5 := (v5.later z).frozen
          have e4 := (v4.later z).cell
          have e5 := (v5.later z).cell
          have c4 := q4.cell
          have c5 := q5.cell
          clear hZ hb o1 o2 hp
          generalize z.val = Z at *
          go_wp2
          rw [HZ.out]
          refine bodyPost_ret (v := .tuple #[.agg #[.bool p1, .slice P1 p2 p3, .bool p1', .slice P1' p2' p3'], .agg #[.bool r1, .slice R1 r2 r3, .bool r1', .slice R1' r2' r3'], .int .i64 1]) ?_ rfl ⟨_, _, 1, rfl, hE', ⟨_, _, _, _, _, _, _, _, rfl⟩, ⟨_, _, _, _, _, _, _, _, rfl⟩, fun _ => ⟨_, ⟨_, _, _, _, _, _, _, _, rfl, j2⟩, SQ, fun h => absurd HND.out h⟩, fun _ => rfl⟩
          simp [results, Tryz.results74, go_sem, c4, c5]
        · have hEY' := hEY.trans (Ext.alloc w4 (.cells #[.int .i64 p.1, .int .i64 p.2] 49))
          go_wp2
          refine bodyPost_ret (v := .tuple #[zeroR, zeroR, .int .i64 k]) ?_ rfl ⟨_, _, k, rfl, (hEY'.set4 (by omega) _ _ _ _).set4 (by omega) _ _ _ _, RShape.zero, RShape.zero, fun h => absurd h hk, fun h => (HNO.out h).elim⟩
          simp [results, Tryz.results74, go_sem, c4, c5, f4, f5]
      · refine (shared_any a b c d _ HA.out HB.out HC.out HD.out).mono ?_
        rintro e w4 ⟨p, k, rfl, hE4, hp⟩
        have HP := Lib.hid hp
        clear c0 c1 c2 c3 c4 c5 f4 f5 c19 hp
        replace x4 := x4.ext hE4
        replace x5 := x5.ext hE4
        replace hEY := hEY.trans hE4
        have c4 := x4.cell
        have c5 := x5.cell
        have f4 := x4.frozen
        have f5 := x5.frozen
        by_cases hk : k = 1
        · subst hk
          clear c4 c5 f4 f5
          go_wp2_with fail
          apply wp_region_par' 6 (by kernel_rfl) (by kernel_rfl) rfl
          simp only [List.take_succ_cons, List.take_zero, List.drop_succ_cons, List.drop_zero]
          generalize hW : World.drew _ = W2
          have x20 := Box.of_drew (Box.new w4 49 #[.int .i64 p.1, .int .i64 p.2]) hW
          replace hE4 := Ext.of_drew (Ext.alloc w4 (.cells #[.int .i64 p.1, .int .i64 p.2] 49)) hW
          clear hW
          have hEZ := hEY.trans hE4
          have v4 := x4.ext hE4
          have v5 := x5.ext hE4
          have z0 := x20.lcell
          have SQ : Sz 7 (p.2 : Rat) := (Sz.coord (z := p.2) (by have := HP.out.2.2; omega) (by have := HP.out.2.2; omega)).mono (by omega)
          have HL1 := Lib.hid (fun W => fromIntV p.1 W (by have := HP.out.1; omega) (by have := HP.out.2.1; omega))
          have HL2 := Lib.hid (fun W => fromIntV p.2 W (by have := HP.out.2.2; omega) (by have := HP.out.2.2; omega))
          generalize (p.1 : Rat) = r1 at *
          generalize (p.2 : Rat) = r2 at *
          iterate 2
            refine parW_step rfl (fun K hK => ?_)
            apply Exists.intro
            refine ⟨fun z => ?_, ?_⟩
            focus
              go_simp
              first
                | rfl
                | fail
            go_simp
            refine hK _ ?_
            clear hK K
          refine parW_rel rfl (RV.stable r1) (fun x => ?_) ?_
          · have hc := HL1.out x.val
            simp only [Giv]
            go_simp
            exact calls_rel hc
          iterate 2
            refine parW_step rfl (fun K hK => ?_)
            apply Exists.intro
            refine ⟨fun z => ?_, ?_⟩
            focus
              go_simp
              first
                | rfl
                | fail
            go_simp
            refine hK _ ?_
            clear hK K
          refine parW_rel rfl (RV.stable r2) (fun x => ?_) ?_
          · intro va hva
            have hc := HL2.out x.val
            simp only [Giv]
            go_simp
            exact calls_rel hc
          refine parW_fin (fun z => ?_)
          rintro va o1 vb o2 hp
          simp only [Act.put, List.setIfInBounds_toArray, List.set_cons_succ, List.set_cons_zero]
          obtain ⟨p1, P1, p2, p3, p1', P1', p2', p3', r1, R1, r2, r3, r1', R1', r2', r3', Z', rfl, rfl, hZ, hE', q4, q5, j1, j2, hb⟩ := two_putR (w := w) (by omega) (v4.later z) (v5.later z) (hEZ.trans z.prop) (by omega) (by omega) o1 o2
          have HZ := Lib.hid hZ
          have f4 := (v4.later z).frozen
          have f5 := (v5.later z).frozen
          have e4 := (v4.later z).cell
          have e5 := (v5.later z).cell
          have c4 := q4.cell
          have c5 := q5.cell
          clear hZ hb o1 o2 hp
          generalize z.val = Z at *
          go_wp2
          rw [HZ.out]
          refine bodyPost_ret (v := .tuple #[.agg #[.bool p1, .slice P1 p2 p3, .bool p1', .slice P1' p2' p3'], .agg #[.bool r1, .slice R1 r2 r3, .bool r1', .slice R1' r2' r3'], .int .i64 1]) ?_ rfl ⟨_, _, 1, rfl, hE', ⟨_, _, _, _, _, _, _, _, rfl⟩, ⟨_, _, _, _, _, _, _, _, rfl⟩, fun _ => ⟨_, ⟨_, _, _, _, _, _, _, _, rfl, j2⟩, SQ, fun h => absurd HND.out h⟩, fun _ => rfl⟩
          simp [results, Tryz.results74, go_sem, c4, c5]
        · have hEY' := hEY.trans (Ext.alloc w4 (.cells #[.int .i64 p.1, .int .i64 p.2] 49))
          go_wp2
          refine bodyPost_ret (v := .tuple #[zeroR, zeroR, .int .i64 k]) ?_ rfl ⟨_, _, k, rfl, (hEY'.set4 (by omega) _ _ _ _).set4 (by omega) _ _ _ _, RShape.zero, RShape.zero, fun h => absurd h hk, fun h => (HNO.out h).elim⟩
          simp [results, Tryz.results74, go_sem, c4, c5, f4, f5]
    · refine (vcross_any (p := u) HIU.out HIW.out _).mono ?_
      rintro e w3 ⟨rfl, hE1⟩
      have x19 := (Box.new w2 49 _).ext hE1
      replace hE1 := (Ext.alloc w2 _).trans hE1
      replace x0 := x0.ext hE1
      replace x1 := x1.ext hE1
      replace x2 := x2.ext hE1
      replace x3 := x3.ext hE1
      replace x4 := x4.ext hE1
      replace x5 := x5.ext hE1
      replace hEY := hEY.trans hE1
      clear hE1 y1 y2 y3 c1 c2 c3
      generalize crossI _ _ = m
      have c0 := x0.cell
      have c1 := x1.cell
      have c2 := x2.cell
      have c3 := x3.cell
      have c4 := x4.cell
      have c5 := x5.cell
      have f4 := x4.frozen
      have f5 := x5.frozen
      have c19 := x19.cell
      go_wp2_with fail
      · refine bodyPost_ret (v := .tuple #[zeroR, zeroR, .int .i64 0]) ?_ rfl ⟨_, _, 0, rfl, (hEY.set4 (by omega) _ _ _ _).set4 (by omega) _ _ _ _, RShape.zero, RShape.zero, fun h => absurd h (by decide), fun h => (HNO.out h).elim⟩
        simp [results, Tryz.results74, go_sem, c4, c5, f4, f5]
      · refine (shared_any a b c d _ HA.out HB.out HC.out HD.out).mono ?_
        rintro e w4 ⟨p, k, rfl, hE4, hp⟩
        have HP := Lib.hid hp
        clear c0 c1 c2 c3 c4 c5 f4 f5 c19 hp
        replace x4 := x4.ext hE4
        replace x5 := x5.ext hE4
        replace hEY := hEY.trans hE4
        have c4 := x4.cell
        have c5 := x5.cell
        have f4 := x4.frozen
        have f5 := x5.frozen
        by_cases hk : k = 1
        · subst hk
          clear c4 c5 f4 f5
          go_wp2_with fail
          apply wp_region_par' 6 (by kernel_rfl) (by kernel_rfl) rfl
          simp only [List.take_succ_cons, List.take_zero, List.drop_succ_cons, List.drop_zero]
          generalize hW : World.drew _ = W2
          have x20 := Box.of_drew (Box.new w4 49 #[.int .i64 p.1, .int .i64 p.2]) hW
          replace hE4 := Ext.of_drew (Ext.alloc w4 (.cells #[.int .i64 p.1, .int .i64 p.2] 49)) hW
          clear hW
          have hEZ := hEY.trans hE4
          have v4 := x4.ext hE4
          have v5 := x5.ext hE4
          have z0 := x20.lcell
          have SQ : Sz 7 (p.2 : Rat) := (Sz.coord (z := p.2) (by have := HP.out.2.2; omega) (by have := HP.out.2.2; omega)).mono (by omega)
          have HL1 := Lib.hid (fun W => fromIntV p.1 W (by have := HP.out.1; omega) (by have := HP.out.2.1; omega))
          have HL2 := Lib.hid (fun W => fromIntV p.2 W (by have := HP.out.2.2; omega) (by have := HP.out.2.2; omega))
          generalize (p.1 : Rat) = r1 at *
          generalize (p.2 : Rat) = r2 at *
          iterate 2
            refine parW_step rfl (fun K hK => ?_)
            apply Exists.intro
            refine ⟨fun z => ?_, ?_⟩
            focus
              go_simp
              first
                | rfl
                | fail
            go_simp
            refine hK _ ?_
            clear hK K
          refine parW_rel rfl (RV.stable r1) (fun x => ?_) ?_
          · have hc := HL1.out x.val
            simp only [Giv]
            go_simp
            exact calls_rel hc
          iterate 2
            refine parW_step rfl (fun K hK => ?_)
            apply Exists.intro
            refine ⟨fun z => ?_, ?_⟩
            focus
              go_simp
              first
                | rfl
                | fail
            go_simp
            refine hK _ ?_
            clear hK K
          refine parW_rel rfl (RV.stable r2) (fun x => ?_) ?_
          · intro va hva
            have hc := HL2.out x.val
            simp only [Giv]
            go_simp
            exact calls_rel hc
          refine parW_fin (fun z => ?_)
          rintro va o1 vb o2 hp
          simp only [Act.put, List.setIfInBounds_toArray, List.set_cons_succ, List.set_cons_zero]
          obtain ⟨p1, P1, p2, p3, p1', P1', p2', p3', r1, R1, r2, r3, r1', R1', r2', r3', Z', rfl, rfl, hZ, hE', q4, q5, j1, j2, hb⟩ := two_putR (w := w) (by omega) (v4.later z) (v5.later z) (hEZ.trans z.prop) (by omega) (by omega) o1 o2
          have HZ := Lib.hid hZ
          have f4 := (v4.later z).frozen
          have f5 := (v5.later z).frozen
          have e4 := (v4.later z).cell
          have e5 := (v5.later z).cell
          have c4 := q4.cell
          have c5 := q5.cell
          clear hZ hb o1 o2 hp
          generalize z.val = Z at *
          go_wp2
          rw [HZ.out]
          refine bodyPost_ret (v := .tuple #[.agg #[.bool p1, .slice P1 p2 p3, .bool p1', .slice P1' p2' p3'], .agg #[.bool r1, .slice R1 r2 r3, .bool r1', .slice R1' r2' r3'], .int .i64 1]) ?_ rfl ⟨_, _, 1, rfl, hE', ⟨_, _, _, _, _, _, _, _, rfl⟩, ⟨_, _, _, _, _, _, _, _, rfl⟩, fun _ => ⟨_, ⟨_, _, _, _, _, _, _, _, rfl, j2⟩, SQ, fun h => absurd HND.out h⟩, fun _ => rfl⟩
          simp [results, Tryz.results74, go_sem, c4, c5]
        · have hEY' := hEY.trans (Ext.alloc w4 (.cells #[.int .i64 p.1, .int .i64 p.2] 49))
          go_wp2
          refine bodyPost_ret (v := .tuple #[zeroR, zeroR, .int .i64 k]) ?_ rfl ⟨_, _, k, rfl, (hEY'.set4 (by omega) _ _ _ _).set4 (by omega) _ _ _ _, RShape.zero, RShape.zero, fun h => absurd h hk, fun h => (HNO.out h).elim⟩
          simp [results, Tryz.results74, go_sem, c4, c5, f4, f5]
  · have d0 : (N == 0) = false := by simp [hN0]
    go_wp2_with fail
    apply wp_region_par' 12 (by kernel_rfl) (by kernel_rfl) rfl
    simp only [List.take_succ_cons, List.take_zero, List.drop_succ_cons, List.drop_zero]
    generalize hW : World.drew _ = V
    replace hEY := Ext.of_drew hEY hW
    replace x0 := Box.of_drew x0 hW
    replace x1 := Box.of_drew x1 hW
    replace x2 := Box.of_drew x2 hW
    replace x3 := Box.of_drew x3 hW
    replace x4 := Box.of_drew x4 hW
    replace x5 := Box.of_drew x5 hW
    replace y1 := Box.of_drew y1 hW
    replace y2 := Box.of_drew y2 hW
    replace y3 := Box.of_drew y3 hW
    clear hW hE HU HV HW HN
    have z1 := y1.lcell
    have z2 := y2.lcell
    have z3 := y3.lcell
    have HBY1 := Lib.hid (fun W => by_any tn N W HBT.out.1 HBT.out.2 HBN.out.1 HBN.out.2 hN0)
    have HBY2 := Lib.hid (fun W => by_any sn N W HBS.out.1 HBS.out.2 HBN.out.1 HBN.out.2 hN0)
    have ST : Sz 2 T := by rw [HET.out]; exact Sz.rat HBT.out.1 HBT.out.2 HBN.out.1 HBN.out.2 hN0
    have SS : Sz 2 S := by rw [HES.out]; exact Sz.rat HBS.out.1 HBS.out.2 HBN.out.1 HBN.out.2 hN0
    rw [← HET.out] at HBY1
    rw [← HES.out] at HBY2
    iterate 4
      refine parW_step rfl (fun K hK => ?_)
      apply Exists.intro
      refine ⟨fun z => ?_, ?_⟩
      focus
        go_simp
        first
          | rfl
          | with_reducible exact calls_val (HT0.out _)
      go_simp
      refine hK _ ?_
      clear hK K
    refine parW_rel rfl (RV.stable T) (fun x => ?_) ?_
    · have hc := HBY1.out x.val
      simp only [Giv]
      go_simp
      exact calls_rel hc
    iterate 4
      refine parW_step rfl (fun K hK => ?_)
      apply Exists.intro
      refine ⟨fun z => ?_, ?_⟩
      focus
        go_simp
        first
          | rfl
          | with_reducible exact calls_val (HS0.out _)
      go_simp
      refine hK _ ?_
      clear hK K
    refine parW_rel rfl (RV.stable S) (fun x => ?_) ?_
    · intro v1 hv1
      have hc := HBY2.out x.val
      simp only [Giv]
      go_simp
      exact calls_rel hc
    refine parW_new (t := 29) (cs := #[.bool false, .slice none 0 0, .bool false, .slice none 0 0]) rfl rfl rfl (by simp) (fun w1 => by kernel_rfl) ?_
    refine parW_new (t := 29) (cs := #[.bool false, .slice none 0 0, .bool false, .slice none 0 0]) rfl rfl rfl (by simp) (fun w1 => by kernel_rfl) ?_
    refine parW_fin (fun z => ?_)
    rintro v1 o1 v2 o2 v3 ⟨g4, rfl, h4, y4⟩ v4 ⟨g5, rfl, h5, y5⟩ hp
    have n45 : g4 ≠ g5 := by simpa [blockOf] using hp
    have hsv := hEY.size
    simp only [Act.put, List.setIfInBounds_toArray, List.set_cons_succ, List.set_cons_zero]
    obtain ⟨p1, P1, p2, p3, p1', P1', p2', p3', r1, R1, r2, r3, r1', R1', r2', r3', Z', rfl, rfl, hZ, hE', y4', y5', j4, j5, hb⟩ := two_putR (w := w) n45 y4 y5 (hEY.trans z.prop) (by omega) (by omega) o1 o2
    have HZ := Lib.hid hZ
    have f4 := y4.frozen
    have f5 := y5.frozen
    have e4 := y4.cell
    have e5 := y5.cell
    clear y4 y5
    have y4 := y4'
    have y5 := y5'
    clear y4' y5' hp hZ o1 o2
    replace x0 := hb _ _ _ (by have := x0.lt; omega) (by have := x0.lt; omega) (x0.later z)
    replace x1 := hb _ _ _ (by have := x1.lt; omega) (by have := x1.lt; omega) (x1.later z)
    replace x2 := hb _ _ _ (by have := x2.lt; omega) (by have := x2.lt; omega) (x2.later z)
    replace x3 := hb _ _ _ (by have := x3.lt; omega) (by have := x3.lt; omega) (x3.later z)
    replace x4 := hb _ _ _ (by have := x4.lt; omega) (by have := x4.lt; omega) (x4.later z)
    replace x5 := hb _ _ _ (by have := x5.lt; omega) (by have := x5.lt; omega) (x5.later z)
    replace y1 := hb _ _ _ (by have := y1.lt; omega) (by have := y1.lt; omega) (y1.later z)
    replace y2 := hb _ _ _ (by have := y2.lt; omega) (by have := y2.lt; omega) (y2.later z)
    replace y3 := hb _ _ _ (by have := y3.lt; omega) (by have := y3.lt; omega) (y3.later z)
    clear hb z1 z2 z3 HBY1 HBY2 HT0 HS0 hEY h4 h5 hsv
    have hEY := hE'
    clear hE'
    generalize z.val = Z0 at *
    have c4 := y4.cell
    have c5 := y5.cell
    rw [← HZ.out] at c4 c5
    have n45' : ¬ g4 = g5 := n45
    have n54 : ¬ g5 = g4 := fun e => n45 e.symm
    go_wp2_with fail
    rw [HZ.out] at c4 c5 ⊢
    clear f4 f5 e4 e5
    have hsz : Z0.heap.size = Z'.heap.size := by rw [← HZ.out]; simp only [size_set]
    have x7 := Box.newAt (w := Z') (t := 29) (cs := #[.bool p1, .slice P1 p2 p3, .bool p1', .slice P1' p2' p3', .bool r1, .slice R1 r2 r3, .bool r1', .slice R1' r2' r3']) hsz
    clear hsz
    have hEA := Ext.alloc Z' (.cells #[.bool p1, .slice P1 p2 p3, .bool p1', .slice P1' p2' p3', .bool r1, .slice R1 r2 r3, .bool r1', .slice R1' r2' r3'] 29)
    generalize hQ : Z'.alloc _ = Q at *
    replace x0 := x0.ext hEA
    replace x1 := x1.ext hEA
    replace x2 := x2.ext hEA
    replace x3 := x3.ext hEA
    replace x4 := x4.ext hEA
    replace x5 := x5.ext hEA
    replace y1 := y1.ext hEA
    replace y2 := y2.ext hEA
    replace y3 := y3.ext hEA
    replace y4 := y4.ext hEA
    replace y5 := y5.ext hEA
    have jT : RV Q _ T := ⟨_, _, _, _, _, _, _, _, rfl, j4.ext hEA⟩
    have jS : RV Q _ S := ⟨_, _, _, _, _, _, _, _, rfl, j5.ext hEA⟩
    replace hEY := hEY.trans hEA
    clear hQ hEA j4 j5 c4 c5 n45 n45' n54
    clear HZ
    generalize Z0.heap.size = g7 at *
    go_loopw [59] (fun i wr => ∃ k : Nat, k ≤ 2 ∧ i = .int .i64 k ∧ Ext Q wr ∧ (1 ≤ k → 0 ≤ T ∧ T ≤ 1) ∧ (2 ≤ k → 0 ≤ S ∧ S ≤ 1)) (fun i _ => 2 - (intOf i).toNat)
    case atStart => exact ⟨0, by omega, rfl, Ext.refl _, fun h => by omega, fun h => by omega⟩
    case round =>
      obtain ⟨k, hk, rfl, hER, hT1, hS1⟩ := hrel
      have t0 := (x7.ext hER).cell
      obtain h | h | h : k = 0 ∨ k = 1 ∨ k = 2 := by omega
      · subst h
        go_upto_region 10 with fail
        have x18 := (Box.new wr 29 #[.bool p1, .slice P1 p2 p3, .bool p1', .slice P1' p2' p3'])
        have hEk := hER.trans (Ext.alloc wr (.cells #[.bool p1, .slice P1 p2 p3, .bool p1', .slice P1' p2' p3'] 29))
        generalize wr.alloc _ = W1 at *
        generalize wr.heap.size = g18 at *
        have h00 : cmpQ T ((0 : Int) : Rat) < 0 ↔ T < 0 := cmpQ_neg
        have h11 : 0 < cmpQ T ((1 : Int) : Rat) ↔ 1 < T := cmpQ_pos
        have HC0 := Lib.hid (fun W u v (hu : RV W u T) (hv : RV W v ((0 : Int) : Rat)) => cmpR hu hv ST (Sz.coord (by omega) (by omega)) (by omega))
        have HC1 := Lib.hid (fun W u v (hu : RV W u T) (hv : RV W v ((1 : Int) : Rat)) => cmpR hu hv ST (Sz.coord (by omega) (by omega)) (by omega))
        generalize cmpQ T ((0 : Int) : Rat) = q0 at *
        generalize cmpQ T ((1 : Int) : Rat) = q1 at *
        have H00 := Lib.hid h00
        have H11 := Lib.hid h11
        have HT1 := Lib.hid hT1
        clear h00 h11 hT1
        apply wp_region_par' 10 (by kernel_rfl) (by kernel_rfl) rfl
        simp only [List.take_succ_cons, List.take_zero, List.drop_succ_cons, List.drop_zero]
        generalize hW : World.drew _ = W2
        replace hEk := Ext.of_drew hEk hW
        replace x18 := Box.of_drew x18 hW
        have z18 := x18.lcell
        clear hW
        have jq := jT.ext hEk
        by_cases k0 : q0 < 0
        · have d1 : (q0 < 0) = True := eq_true k0
          iterate 1
            refine parW_step rfl (fun K hK => ?_)
            apply Exists.intro
            refine ⟨fun z => ?_, ?_⟩
            focus
              go_simp
              first
                | rfl
                | fail
            go_simp
            refine hK _ ?_
            clear hK K
          refine parW_rel rfl (RV.stable ((0 : Int) : Rat)) (fun x => ?_) ?_
          · have hc := fromIntV 0 x.val (by omega) (by omega)
            simp only [Giv]
            go_simp
            exact calls_rel hc
          refine parW_giv (c := .int .i64 q0) (fun x => ?_) ?_
          · intro v1 hv1
            have k1 := hv1 (show Nat.testBit _ _ = true from by kernel_rfl)
            have hc := HC0.out x.val _ _ (jq.ext x.prop) k1
            simp only [Giv]
            go_simp
            exact calls_val hc
          iterate 2
            refine parW_step rfl (fun K hK => ?_)
            apply Exists.intro
            refine ⟨fun z => ?_, ?_⟩
            focus
              go_simp
              first
                | rfl
                | fail
            go_simp
            refine hK _ ?_
            clear hK K
          iterate 5
            refine parW_step rfl (fun K hK => ?_)
            apply Exists.intro
            refine ⟨fun z => ?_, ?_⟩
            focus
              go_simp
              first
                | rfl
                | fail
            go_simp
            refine hK _ ?_
            clear hK K
          refine parW_fin (fun z => ?_)
          rintro va oa hp
          simp only [Act.put, List.setIfInBounds_toArray, List.set_cons_succ, List.set_cons_zero]
          replace hEk := hEk.trans z.prop
          clear z18 x18
          generalize z.val = Z at *
          have c4 := (x4.ext hEk).cell
          have c5 := (x5.ext hEk).cell
          have f4 := (x4.ext hEk).frozen
          have f5 := (x5.ext hEk).frozen
          have hEz := hEY.trans hEk
          go_wp2
          refine bodyPost_ret (v := .tuple #[zeroR, zeroR, .int .i64 0]) ?_ rfl ⟨_, _, 0, rfl, (hEz.set4 (by omega) _ _ _ _).set4 (by omega) _ _ _ _, RShape.zero, RShape.zero, fun h => absurd h (by decide), fun h => absurd h (segNo HTD.out (.inl (H00.out.1 k0)))⟩
          simp [results, Tryz.results74, go_sem, c4, c5, f4, f5]
        · have d1 : (q0 < 0) = False := eq_false k0
          iterate 1
            refine parW_step rfl (fun K hK => ?_)
            apply Exists.intro
            refine ⟨fun z => ?_, ?_⟩
            focus
              go_simp
              first
                | rfl
                | fail
            go_simp
            refine hK _ ?_
            clear hK K
          refine parW_rel rfl (RV.stable ((0 : Int) : Rat)) (fun x => ?_) ?_
          · have hc := fromIntV 0 x.val (by omega) (by omega)
            simp only [Giv]
            go_simp
            exact calls_rel hc
          refine parW_giv (c := .int .i64 q0) (fun x => ?_) ?_
          · intro v1 hv1
            have k1 := hv1 (show Nat.testBit _ _ = true from by kernel_rfl)
            have hc := HC0.out x.val _ _ (jq.ext x.prop) k1
            simp only [Giv]
            go_simp
            exact calls_val hc
          iterate 2
            refine parW_step rfl (fun K hK => ?_)
            apply Exists.intro
            refine ⟨fun z => ?_, ?_⟩
            focus
              go_simp
              first
                | rfl
                | fail
            go_simp
            refine hK _ ?_
            clear hK K
          iterate 1
            refine parW_step rfl (fun K hK => ?_)
            apply Exists.intro
            refine ⟨fun z => ?_, ?_⟩
            focus
              go_simp
              first
                | rfl
                | fail
            go_simp
            refine hK _ ?_
            clear hK K
          refine parW_rel rfl (RV.stable ((1 : Int) : Rat)) (fun x => ?_) ?_
          · intro v0 hv0
            have hc := fromIntV 1 x.val (by omega) (by omega)
            simp only [Giv]
            go_simp
            exact calls_rel hc
          refine parW_giv (c := .int .i64 q1) (fun x => ?_) ?_
          · intro v0 hv0 v1 hv1
            have k1 := hv1 (show Nat.testBit _ _ = true from by kernel_rfl)
            have hc := HC1.out x.val _ _ (jq.ext x.prop) k1
            simp only [Giv]
            go_simp
            exact calls_val hc
          by_cases k1 : 0 < q1
          · have d2 : (0 < q1) = True := eq_true k1
            iterate 2
              refine parW_step rfl (fun K hK => ?_)
              apply Exists.intro
              refine ⟨fun z => ?_, ?_⟩
              focus
                go_simp
                first
                  | rfl
                  | fail
              go_simp
              refine hK _ ?_
              clear hK K
            refine parW_fin (fun z => ?_)
            rintro va oa vb ob hp
            simp only [Act.put, List.setIfInBounds_toArray, List.set_cons_succ, List.set_cons_zero]
            replace hEk := hEk.trans z.prop
            clear z18 x18
            generalize z.val = Z at *
            have c4 := (x4.ext hEk).cell
            have c5 := (x5.ext hEk).cell
            have f4 := (x4.ext hEk).frozen
            have f5 := (x5.ext hEk).frozen
            have hEz := hEY.trans hEk
            go_wp2
            refine bodyPost_ret (v := .tuple #[zeroR, zeroR, .int .i64 0]) ?_ rfl ⟨_, _, 0, rfl, (hEz.set4 (by omega) _ _ _ _).set4 (by omega) _ _ _ _, RShape.zero, RShape.zero, fun h => absurd h (by decide), fun h => absurd h (segNo HTD.out (.inr (H11.out.1 k1)))⟩
            simp [results, Tryz.results74, go_sem, c4, c5, f4, f5]
          · have d2 : (0 < q1) = False := eq_false k1
            iterate 2
              refine parW_step rfl (fun K hK => ?_)
              apply Exists.intro
              refine ⟨fun z => ?_, ?_⟩
              focus
                go_simp
                first
                  | rfl
                  | fail
              go_simp
              refine hK _ ?_
              clear hK K
            refine parW_fin (fun z => ?_)
            rintro va oa vb ob hp
            simp only [Act.put, List.setIfInBounds_toArray, List.set_cons_succ, List.set_cons_zero]
            replace hEk := hEk.trans z.prop
            clear z18 x18
            generalize z.val = Z at *
            go_wp2_with fail
            go_roundw
            case rel => exact ⟨1, by omega, by go_num, hEk, fun _ => ⟨Rat.not_lt.1 (fun h => k0 (H00.out.2 h)), Rat.not_lt.1 (fun h => k1 (H11.out.2 h))⟩, fun h => absurd h (by decide)⟩
            case measure => simp [intOf]
      · subst h
        go_upto_region 10 with fail
        have x18 := (Box.new wr 29 #[.bool r1, .slice R1 r2 r3, .bool r1', .slice R1' r2' r3'])
        have hEk := hER.trans (Ext.alloc wr (.cells #[.bool r1, .slice R1 r2 r3, .bool r1', .slice R1' r2' r3'] 29))
        generalize wr.alloc _ = W1 at *
        generalize wr.heap.size = g18 at *
        have h00 : cmpQ S ((0 : Int) : Rat) < 0 ↔ S < 0 := cmpQ_neg
        have h11 : 0 < cmpQ S ((1 : Int) : Rat) ↔ 1 < S := cmpQ_pos
        have HC0 := Lib.hid (fun W u v (hu : RV W u S) (hv : RV W v ((0 : Int) : Rat)) => cmpR hu hv SS (Sz.coord (by omega) (by omega)) (by omega))
        have HC1 := Lib.hid (fun W u v (hu : RV W u S) (hv : RV W v ((1 : Int) : Rat)) => cmpR hu hv SS (Sz.coord (by omega) (by omega)) (by omega))
        generalize cmpQ S ((0 : Int) : Rat) = q0 at *
        generalize cmpQ S ((1 : Int) : Rat) = q1 at *
        have H00 := Lib.hid h00
        have H11 := Lib.hid h11
        have HT1 := Lib.hid hT1
        clear h00 h11 hT1
        apply wp_region_par' 10 (by kernel_rfl) (by kernel_rfl) rfl
        simp only [List.take_succ_cons, List.take_zero, List.drop_succ_cons, List.drop_zero]
        generalize hW : World.drew _ = W2
        replace hEk := Ext.of_drew hEk hW
        replace x18 := Box.of_drew x18 hW
        have z18 := x18.lcell
        clear hW
        have jq := jS.ext hEk
        by_cases k0 : q0 < 0
        · have d1 : (q0 < 0) = True := eq_true k0
          iterate 1
            refine parW_step rfl (fun K hK => ?_)
            apply Exists.intro
            refine ⟨fun z => ?_, ?_⟩
            focus
              go_simp
              first
                | rfl
                | fail
            go_simp
            refine hK _ ?_
            clear hK K
          refine parW_rel rfl (RV.stable ((0 : Int) : Rat)) (fun x => ?_) ?_
          · have hc := fromIntV 0 x.val (by omega) (by omega)
            simp only [Giv]
            go_simp
            exact calls_rel hc
          refine parW_giv (c := .int .i64 q0) (fun x => ?_) ?_
          · intro v1 hv1
            have k1 := hv1 (show Nat.testBit _ _ = true from by kernel_rfl)
            have hc := HC0.out x.val _ _ (jq.ext x.prop) k1
            simp only [Giv]
            go_simp
            exact calls_val hc
          iterate 2
            refine parW_step rfl (fun K hK => ?_)
            apply Exists.intro
            refine ⟨fun z => ?_, ?_⟩
            focus
              go_simp
              first
                | rfl
                | fail
            go_simp
            refine hK _ ?_
            clear hK K
          iterate 5
            refine parW_step rfl (fun K hK => ?_)
            apply Exists.intro
            refine ⟨fun z => ?_, ?_⟩
            focus
              go_simp
              first
                | rfl
                | fail
            go_simp
            refine hK _ ?_
            clear hK K
          refine parW_fin (fun z => ?_)
          rintro va oa hp
          simp only [Act.put, List.setIfInBounds_toArray, List.set_cons_succ, List.set_cons_zero]
          replace hEk := hEk.trans z.prop
          clear z18 x18
          generalize z.val = Z at *
          have c4 := (x4.ext hEk).cell
          have c5 := (x5.ext hEk).cell
          have f4 := (x4.ext hEk).frozen
          have f5 := (x5.ext hEk).frozen
          have hEz := hEY.trans hEk
          go_wp2
          refine bodyPost_ret (v := .tuple #[zeroR, zeroR, .int .i64 0]) ?_ rfl ⟨_, _, 0, rfl, (hEz.set4 (by omega) _ _ _ _).set4 (by omega) _ _ _ _, RShape.zero, RShape.zero, fun h => absurd h (by decide), fun h => absurd h (segNo' HSD.out (.inl (H00.out.1 k0)))⟩
          simp [results, Tryz.results74, go_sem, c4, c5, f4, f5]
        · have d1 : (q0 < 0) = False := eq_false k0
          iterate 1
            refine parW_step rfl (fun K hK => ?_)
            apply Exists.intro
            refine ⟨fun z => ?_, ?_⟩
            focus
              go_simp
              first
                | rfl
                | fail
            go_simp
            refine hK _ ?_
            clear hK K
          refine parW_rel rfl (RV.stable ((0 : Int) : Rat)) (fun x => ?_) ?_
          · have hc := fromIntV 0 x.val (by omega) (by omega)
            simp only [Giv]
            go_simp
            exact calls_rel hc
          refine parW_giv (c := .int .i64 q0) (fun x => ?_) ?_
          · intro v1 hv1
            have k1 := hv1 (show Nat.testBit _ _ = true from by kernel_rfl)
            have hc := HC0.out x.val _ _ (jq.ext x.prop) k1
            simp only [Giv]
            go_simp
            exact calls_val hc
          iterate 2
            refine parW_step rfl (fun K hK => ?_)
            apply Exists.intro
            refine ⟨fun z => ?_, ?_⟩
            focus
              go_simp
              first
                | rfl
                | fail
            go_simp
            refine hK _ ?_
            clear hK K
          iterate 1
            refine parW_step rfl (fun K hK => ?_)
            apply Exists.intro
            refine ⟨fun z => ?_, ?_⟩
            focus
              go_simp
              first
                | rfl
                | fail
            go_simp
            refine hK _ ?_
            clear hK K
          refine parW_rel rfl (RV.stable ((1 : Int) : Rat)) (fun x => ?_) ?_
          · intro v0 hv0
            have hc := fromIntV 1 x.val (by omega) (by omega)
            simp only [Giv]
            go_simp
            exact calls_rel hc
          refine parW_giv (c := .int .i64 q1) (fun x => ?_) ?_
          · intro v0 hv0 v1 hv1
            have k1 := hv1 (show Nat.testBit _ _ = true from by kernel_rfl)
            have hc := HC1.out x.val _ _ (jq.ext x.prop) k1
            simp only [Giv]
            go_simp
            exact calls_val hc
          by_cases k1 : 0 < q1
          · have d2 : (0 < q1) = True := eq_true k1
            iterate 2
              refine parW_step rfl (fun K hK => ?_)
              apply Exists.intro
              refine ⟨fun z => ?_, ?_⟩
              focus
                go_simp
                first
                  | rfl
                  | fail
              go_simp
              refine hK _ ?_
              clear hK K
            refine parW_fin (fun z => ?_)
            rintro va oa vb ob hp
            simp only [Act.put, List.setIfInBounds_toArray, List.set_cons_succ, List.set_cons_zero]
            replace hEk := hEk.trans z.prop
            clear z18 x18
            generalize z.val = Z at *
            have c4 := (x4.ext hEk).cell
            have c5 := (x5.ext hEk).cell
            have f4 := (x4.ext hEk).frozen
            have f5 := (x5.ext hEk).frozen
            have hEz := hEY.trans hEk
            go_wp2
            refine bodyPost_ret (v := .tuple #[zeroR, zeroR, .int .i64 0]) ?_ rfl ⟨_, _, 0, rfl, (hEz.set4 (by omega) _ _ _ _).set4 (by omega) _ _ _ _, RShape.zero, RShape.zero, fun h => absurd h (by decide), fun h => absurd h (segNo' HSD.out (.inr (H11.out.1 k1)))⟩
            simp [results, Tryz.results74, go_sem, c4, c5, f4, f5]
          · have d2 : (0 < q1) = False := eq_false k1
            iterate 2
              refine parW_step rfl (fun K hK => ?_)
              apply Exists.intro
              refine ⟨fun z => ?_, ?_⟩
              focus
                go_simp
                first
                  | rfl
                  | fail
              go_simp
              refine hK _ ?_
              clear hK K
            refine parW_fin (fun z => ?_)
            rintro va oa vb ob hp
            simp only [Act.put, List.setIfInBounds_toArray, List.set_cons_succ, List.set_cons_zero]
            replace hEk := hEk.trans z.prop
            clear z18 x18
            generalize z.val = Z at *
            go_wp2_with fail
            go_roundw
            case rel => exact ⟨2, by omega, by go_num, hEk, fun _ => HT1.out (by omega), fun _ => ⟨Rat.not_lt.1 (fun h => k0 (H00.out.2 h)), Rat.not_lt.1 (fun h => k1 (H11.out.2 h))⟩⟩
            case measure => simp [intOf]
      · subst h
        go_wp2_with fail
        apply wp_region_par' 12 (by kernel_rfl) (by kernel_rfl) rfl
        simp only [List.take_succ_cons, List.take_zero, List.drop_succ_cons, List.drop_zero]
        generalize hW : World.drew _ = W2
        replace hER := Ext.of_drew hER hW
        clear hW
        have hEZ := hEY.trans hER
        have v0 := x0.ext hER
        have v1 := x1.ext hER
        have v4 := x4.ext hER
        have v5 := x5.ext hER
        have w4 := y4.ext hER
        have jq := jT.ext hER
        have z0 := v0.lcell
        have z1 := v1.lcell
        have z4 := w4.lcell
        have HQ := Lib.hid (show alongR a.2 b.2 T = alongR a.2 b.2 (segT (a, b) (c, d)) from by rw [HTD.out])
        have SQ := Sz.along (a := a.2) (b := b.2) HA.out.2.2 HB.out.2.2 ST
        have HL1 := Lib.hid (fun W u (hu : RV W u T) => along_any (a := a.1) (b := b.1) ⟨HA.out.1, HA.out.2.1⟩ ⟨HB.out.1, HB.out.2.1⟩ hu ST (by omega))
        have HL2 := Lib.hid (fun W u (hu : RV W u T) => along_any (a := a.2) (b := b.2) HA.out.2.2 HB.out.2.2 hu ST (by omega))
        generalize alongR a.1 b.1 T = r1 at *
        generalize alongR a.2 b.2 T = r2 at *
        iterate 5
          refine parW_step rfl (fun K hK => ?_)
          apply Exists.intro
          refine ⟨fun z => ?_, ?_⟩
          focus
            go_simp
            first
              | rfl
              | fail
          go_simp
          refine hK _ ?_
          clear hK K
        refine parW_rel rfl (RV.stable r1) (fun x => ?_) ?_
        · have hc := HL1.out x.val _ (jq.ext x.prop)
          simp only [Giv]
          go_simp
          exact calls_rel hc
        iterate 5
          refine parW_step rfl (fun K hK => ?_)
          apply Exists.intro
          refine ⟨fun z => ?_, ?_⟩
          focus
            go_simp
            first
              | rfl
              | fail
          go_simp
          refine hK _ ?_
          clear hK K
        refine parW_rel rfl (RV.stable r2) (fun x => ?_) ?_
        · intro va hva
          have hc := HL2.out x.val _ (jq.ext x.prop)
          simp only [Giv]
          go_simp
          exact calls_rel hc
        refine parW_fin (fun z => ?_)
        rintro va o1 vb o2 hp
        simp only [Act.put, List.setIfInBounds_toArray, List.set_cons_succ, List.set_cons_zero]
        obtain ⟨p1, P1, p2, p3, p1', P1', p2', p3', r1, R1, r2, r3, r1', R1', r2', r3', Z', rfl, rfl, hZ, hE', q4, q5, j1, j2, hb⟩ := two_putR (w := w) (by omega) (v4.later z) (v5.later z) (hEZ.trans z.prop) (by omega) (by omega) o1 o2
        have HZ := Lib.hid hZ
        have f4 := (v4.later z).frozen
        have f5 := (v5.later z).frozen
        have e4 := (v4.later z).cell
        have e5 := (v5.later z).cell
        have c4 := q4.cell
        have c5 := q5.cell
        clear hZ hb o1 o2 hp
        generalize z.val = Z at *
        go_wp2
        rw [HZ.out]
        refine bodyPost_ret (v := .tuple #[.agg #[.bool p1, .slice P1 p2 p3, .bool p1', .slice P1' p2' p3'], .agg #[.bool r1, .slice R1 r2 r3, .bool r1', .slice R1' r2' r3'], .int .i64 1]) ?_ rfl ⟨_, _, 1, rfl, hE', ⟨_, _, _, _, _, _, _, _, rfl⟩, ⟨_, _, _, _, _, _, _, _, rfl⟩, fun _ => ⟨_, ⟨_, _, _, _, _, _, _, _, rfl, j2⟩, SQ, fun _ => HQ.out⟩, fun _ => rfl⟩
        simp [results, Tryz.results74, go_sem, c4, c5]
end Go.Proofs.YtodefmfgoehkhaaGreat
