/- rational: cross, Cmp. -/
import Derived.Test.YtodefmfgoehkhaaGreatZJ
set_option linter.unusedVariables false
set_option linter.unusedSimpArgs false
namespace Go.Proofs.YtodefmfgoehkhaaGreat
open Go.RowKit Go.Par Go.TN

/-- two blocks of four cells written anew -/
theorem two_putR {w Z : World} {g1 g2 : Nat} {u v : Value} {q1 q2 : Rat} (hg : g1 ≠ g2)
    {s1 s1' s2 s2' : Bool} {D1 D1' D2 D2' : Option Addr} {m1 m1' m2 m2' d1 d1' d2 d2' : Nat}
    (x1 : Box Z g1 29 #[.bool s1, .slice D1 m1 d1, .bool s1', .slice D1' m1' d1']) (x2 : Box Z g2 29 #[.bool s2, .slice D2 m2 d2, .bool s2', .slice D2' m2' d2'])
    (hE : Ext w Z) (h1 : w.heap.size ≤ g1) (h2 : w.heap.size ≤ g2) (i1 : RV Z u q1) (i2 : RV Z v q2) :
    ∃ b1 A1 n1 c1 b1' A1' n1' c1' b2 A2 n2 c2 b2' A2' n2' c2' Z',
      u = .agg #[.bool b1, .slice A1 n1 c1, .bool b1', .slice A1' n1' c1'] ∧ v = .agg #[.bool b2, .slice A2 n2 c2, .bool b2', .slice A2' n2' c2'] ∧
      ((((((((Z.setCell ⟨g1, 0, none⟩ (.bool b1)).setCell ⟨g1, 1, none⟩ (.slice A1 n1 c1)).setCell ⟨g1, 2, none⟩ (.bool b1')).setCell ⟨g1, 3, none⟩ (.slice A1' n1' c1')).setCell ⟨g2, 0, none⟩ (.bool b2)).setCell ⟨g2, 1, none⟩ (.slice A2 n2 c2)).setCell ⟨g2, 2, none⟩ (.bool b2')).setCell ⟨g2, 3, none⟩ (.slice A2' n2' c2')) = Z' ∧
      Ext w Z' ∧ Box Z' g1 29 #[.bool b1, .slice A1 n1 c1, .bool b1', .slice A1' n1' c1'] ∧ Box Z' g2 29 #[.bool b2, .slice A2 n2 c2, .bool b2', .slice A2' n2' c2'] ∧
      RS Z' b1 A1 n1 c1 b1' A1' n1' c1' q1 ∧ RS Z' b2 A2 n2 c2 b2' A2' n2' c2' q2 ∧ ∀ g t cs, g ≠ g1 → g ≠ g2 → Box Z g t cs → Box Z' g t cs := by
  obtain ⟨b1, A1, n1, c1, b1', A1', n1', c1', rfl, i1, i1'⟩ := i1
  obtain ⟨b2, A2, n2, c2, b2', A2', n2', c2', rfl, i2, i2'⟩ := i2
  refine ⟨b1, A1, n1, c1, b1', A1', n1', c1', b2, A2, n2, c2, b2', A2', n2', c2', _, rfl, rfl, rfl, ?_⟩
  have k1 := ((((But.refl g1 Z).set 0 (.bool b1)).set 1 (.slice A1 n1 c1)).set 2 (.bool b1')).set 3 (.slice A1' n1' c1')
  have y1 : Box _ g1 29 #[.bool b1, .slice A1 n1 c1, .bool b1', .slice A1' n1' c1'] := (((x1.set 0 (.bool b1)).set 1 (.slice A1 n1 c1)).set 2 (.bool b1')).set 3 (.slice A1' n1' c1')
  have y2 := k1.box x2 (Ne.symm hg)
  have j1 := i1.but (NoDig.rat x1) k1
  have j1' := i1'.but (NoDig.rat x1) k1
  have j2 := i2.but (NoDig.rat x1) k1
  have j2' := i2'.but (NoDig.rat x1) k1
  have E1 := hE.but k1 h1
  have k3 : ∀ g t cs, g ≠ g1 → Box Z g t cs → Box _ g t cs := fun g t cs hne hb => k1.box hb hne
  generalize (((Z.setCell ⟨g1, 0, none⟩ (.bool b1)).setCell ⟨g1, 1, none⟩ (.slice A1 n1 c1)).setCell ⟨g1, 2, none⟩ (.bool b1')).setCell ⟨g1, 3, none⟩ (.slice A1' n1' c1') = Y at *
  have k2 := ((((But.refl g2 Y).set 0 (.bool b2)).set 1 (.slice A2 n2 c2)).set 2 (.bool b2')).set 3 (.slice A2' n2' c2')
  exact ⟨E1.but k2 h2, k2.box y1 hg, (((y2.set 0 (.bool b2)).set 1 (.slice A2 n2 c2)).set 2 (.bool b2')).set 3 (.slice A2' n2' c2'), ⟨j1.but (NoDig.rat y2) k2, j1'.but (NoDig.rat y2) k2⟩, ⟨j2.but (NoDig.rat y2) k2, j2'.but (NoDig.rat y2) k2⟩, fun g t cs h1 h2 hb => k2.box (k3 g t cs h1 hb) h2⟩
/-- one more block of two cells written -/
theorem one_put {w Z : World} {g : Nat} {s : Bool} {D : Option Addr} {m d : Nat} {v : Value} {z : Int} (x : Box Z g 27 #[.bool s, .slice D m d]) (hE : Ext w Z) (hg : w.heap.size ≤ g) (i : IV Z v z) :
    ∃ b A n c Y, v = .agg #[.bool b, .slice A n c] ∧ (Z.setCell ⟨g, 0, none⟩ (.bool b)).setCell ⟨g, 1, none⟩ (.slice A n c) = Y ∧ Ext w Y ∧ Box Y g 27 #[.bool b, .slice A n c] ∧ IS Y b A n c z ∧
      (∀ k t cs, k ≠ g → Box Z k t cs → Box Y k t cs) ∧ ∀ v z, IV Z v z → IV Y v z := by
  obtain ⟨b, A, n, c, rfl, i⟩ := i
  have k := ((But.refl g Z).set 0 (.bool b)).set 1 (.slice A n c)
  exact ⟨b, A, n, c, _, rfl, rfl, hE.but k hg, (x.set 0 (.bool b)).set 1 (.slice A n c), i.but (NoDig.int x) k, fun _ _ _ hne hb => k.box hb hne, fun v z ⟨b, A, n, c, e, h⟩ => ⟨b, A, n, c, e, h.but (NoDig.int x) k⟩⟩
set_option maxHeartbeats 800000 in
set_option maxRecDepth 8000 in
theorem crossR {b1 b2 b1' b2' : Bool} {A1 A2 A1' A2' : Option Addr} {n1 n2 c1 c2 n1' n2' c1' c2' : Nat} {p q : Rat} {w : World} (h1 : RS w b1 A1 n1 c1 b1' A1' n1' c1' p) (h2 : RS w b2 A2 n2 c2 b2' A2' n2' c2' q) (hn1 : Sz 200000000 p) (hn2 : Sz 200000000 q) :
    Calls Tryz.prog 29 #[.agg #[.bool b1, .slice A1 n1 c1, .bool b1', .slice A1' n1' c1'], .agg #[.bool b2, .slice A2 n2 c2, .bool b2', .slice A2' n2' c2']] w fun e w' =>
      ∃ x y d, e = .returned (.tuple #[x, y, d]) ∧ Ext w w' ∧ IV w' x (p.num * q.den) ∧ IV w' y (q.num * p.den) ∧ IV w' d ((p.den : Int) * q.den) := by
  obtain ⟨O1, hO1⟩ : ∃ O, O = Obj.cells #[.bool b1, .slice A1 n1 c1, .bool b1', .slice A1' n1' c1'] 29 := ⟨_, rfl⟩
  obtain ⟨O2, hO2⟩ : ∃ O, O = Obj.cells #[.bool b2, .slice A2 n2 c2, .bool b2', .slice A2' n2' c2'] 29 := ⟨_, rfl⟩
  obtain ⟨O3, hO3⟩ : ∃ O, O = Obj.cells #[.bool false, .slice none 0 0] 27 := ⟨_, rfl⟩
  have hE := ((((Ext.alloc w O1).trans (Ext.alloc _ O2)).trans (Ext.alloc _ O3)).trans (Ext.alloc _ O3)).trans (Ext.alloc _ O3)
  have x0 := (((((Box.new w 29 #[.bool b1, .slice A1 n1 c1, .bool b1', .slice A1' n1' c1']).alloc O2).alloc O3).alloc O3)).alloc O3
  have x1 := (((Box.at1 (w := w) (o := O1) (t := 29) (cs := #[.bool b2, .slice A2 n2 c2, .bool b2', .slice A2' n2' c2'])).alloc O3).alloc O3).alloc O3
  have x2 := ((Box.at2 (w := w) (o := O1) (o' := O2) (t := 27) (cs := #[.bool false, .slice none 0 0])).alloc O3).alloc O3
  have x3 := (Box.at3 (w := w) (o := O1) (o' := O2) (o'' := O3) (t := 27) (cs := #[.bool false, .slice none 0 0])).alloc O3
  have x4 := Box.newAt (w := (((w.alloc O1).alloc O2).alloc O3).alloc O3) (t := 27) (cs := #[.bool false, .slice none 0 0]) (b := w.heap.size + 1 + 1 + 1 + 1) (by simp)
  rw [← hO1] at x0
  rw [← hO2] at x1
  rw [← hO3] at x2 x3 x4
  rw [hO1, hO2, hO3] at hE x0 x1 x2 x3 x4
  have l1 := h1.num.ns.len
  have l2 := h2.num.ns.len
  have l3 := h1.den.ns.len
  have l4 := h2.den.ns.len
  rw [Int.natAbs_natCast] at l3 l4
  have m1 := hn1.num
  have m2 := hn2.num
  have m3 := hn1.den
  have m4 := hn2.den
  have HN1 := Lib.hid (fun W (he : Ext w W) => normR (h1.ext he) (by omega) (by omega))
  have HN2 := Lib.hid (fun W (he : Ext w W) => normR (h2.ext he) (by omega) (by omega))
  clear h1 h2 l1 l2 l3 l4 hn1 hn2 hO1 hO2 hO3
  go_enter Tryz.func29, Tryz.ntmps29
  go_wp2_with fail
  apply wp_region_par' 4 (by kernel_rfl) (by kernel_rfl) rfl
  simp only [List.take_succ_cons, List.take_zero, List.drop_succ_cons, List.drop_zero]
  generalize hW : World.drew _ = W
  have hEW : Ext w W := by rw [← hW]; exact hE.trans (Ext.drew _)
  replace x0 : Box W w.heap.size 29 #[.bool b1, .slice A1 n1 c1, .bool b1', .slice A1' n1' c1'] := by rw [← hW]; exact x0.drew
  replace x1 : Box W (w.heap.size + 1) 29 #[.bool b2, .slice A2 n2 c2, .bool b2', .slice A2' n2' c2'] := by rw [← hW]; exact x1.drew
  replace x2 : Box W (w.heap.size + 1 + 1) 27 #[.bool false, .slice none 0 0] := by rw [← hW]; exact x2.drew
  replace x3 : Box W (w.heap.size + 1 + 1 + 1) 27 #[.bool false, .slice none 0 0] := by rw [← hW]; exact x3.drew
  replace x4 : Box W (w.heap.size + 1 + 1 + 1 + 1) 27 #[.bool false, .slice none 0 0] := by rw [← hW]; exact x4.drew
  clear hW
  have z0 := x0.lcell
  have z1' := x1.lcell
  iterate 1
    refine parW_step rfl (fun K hK => ?_)
    apply Exists.intro
    refine ⟨fun z => ?_, ?_⟩
    focus
      go_simp
      first
        | rfl
        | fail
    go_simp
    refine hK _ ?_
    clear hK K
  refine parW_rel rfl (RV.stable p) (fun x => ?_) ?_
  · have hc := HN1.out x.val (hEW.later x)
    simp only [Giv]
    go_simp
    exact calls_rel hc
  iterate 1
    refine parW_step rfl (fun K hK => ?_)
    apply Exists.intro
    refine ⟨fun z => ?_, ?_⟩
    focus
      go_simp
      first
        | rfl
        | fail
    go_simp
    refine hK _ ?_
    clear hK K
  refine parW_rel rfl (RV.stable q) (fun x => ?_) ?_
  · intro v1 hv1
    have hc := HN2.out x.val (hEW.later x)
    simp only [Giv]
    go_simp
    exact calls_rel hc
  refine parW_fin (fun z => ?_)
  rintro v1 hv1 v2 hv2 hp
  simp only [Act.put, List.setIfInBounds_toArray, List.set_cons_succ, List.set_cons_zero]
  obtain ⟨b1, A1, n1, c1, b1', A1', n1', c1', b2, A2, n2, c2, b2', A2', n2', c2', Z', rfl, rfl, hZ, hE', y1, y2, j1, j2, hb'⟩ := two_putR (w := w) (Nat.ne_of_lt (Nat.lt_succ_self w.heap.size)) (x0.later z) (x1.later z) (hEW.later z) (Nat.le_refl _) (by omega) hv1 hv2
  have HZ := Lib.hid hZ
  have w0 := (x0.later z).frozen
  have w1 := (x1.later z).frozen
  have w2 := (x0.later z).cell
  have w3 := (x1.later z).cell
  have y3 := hb' _ _ _ (show w.heap.size + 1 + 1 ≠ w.heap.size by omega) (show w.heap.size + 1 + 1 ≠ w.heap.size + 1 by omega) (x2.later z)
  have y4 := hb' _ _ _ (show w.heap.size + 1 + 1 + 1 ≠ w.heap.size by omega) (show w.heap.size + 1 + 1 + 1 ≠ w.heap.size + 1 by omega) (x3.later z)
  have y5 := hb' _ _ _ (show w.heap.size + 1 + 1 + 1 + 1 ≠ w.heap.size by omega) (show w.heap.size + 1 + 1 + 1 + 1 ≠ w.heap.size + 1 by omega) (x4.later z)
  clear hZ hb' hv1 hv2 hp z0 z1' x0 x1 x2 x3 x4 HN1 HN2
  generalize z.val = Z at *
  go_wp2_with fail
  rw [HZ.out]
  clear HZ w0 w1 w2 w3
  apply wp_region_par' 15 (by kernel_rfl) (by kernel_rfl) rfl
  simp only [List.take_succ_cons, List.take_zero, List.drop_succ_cons, List.drop_zero]
  generalize hW : World.drew _ = V
  have hEV : Ext Z' V := by rw [← hW]; exact Ext.drew _
  clear hW
  replace y1 := y1.ext hEV
  replace y2 := y2.ext hEV
  replace y3 := y3.ext hEV
  replace y4 := y4.ext hEV
  replace y5 := y5.ext hEV
  replace j1 := j1.ext hEV
  replace j2 := j2.ext hEV
  replace hE' := hE'.trans hEV
  clear hEV hE hEW
  have hd : ∀ n : Nat, (n : Int).natAbs = n := fun n => Int.natAbs_natCast n
  have H1 := Lib.hid (fun X (he : Ext V X) => mulV (⟨_, _, _, _, rfl, j1.num.ext he⟩ : IV X _ p.num) (⟨_, _, _, _, rfl, j2.den.ext he⟩ : IV X _ (q.den : Int)) (by omega) (by rw [hd]; omega))
  have H2 := Lib.hid (fun X (he : Ext V X) => mulV (⟨_, _, _, _, rfl, j2.num.ext he⟩ : IV X _ q.num) (⟨_, _, _, _, rfl, j1.den.ext he⟩ : IV X _ (p.den : Int)) (by omega) (by rw [hd]; omega))
  have H3 := Lib.hid (fun X (he : Ext V X) => mulV (⟨_, _, _, _, rfl, j1.den.ext he⟩ : IV X _ (p.den : Int)) (⟨_, _, _, _, rfl, j2.den.ext he⟩ : IV X _ (q.den : Int)) (by rw [hd]; omega) (by rw [hd]; omega))
  clear hd m1 m2 m3 m4
  have z0 := y1.lcell
  have z1' := y2.lcell
  iterate 4
    refine parW_step rfl (fun K hK => ?_)
    apply Exists.intro
    refine ⟨fun z => ?_, ?_⟩
    focus
      go_simp
      first
        | rfl
        | fail
    go_simp
    refine hK _ ?_
    clear hK K
  refine parW_rel rfl (IV.stable (p.num * q.den)) (fun x => ?_) ?_
  · have hc := H1.out x.val x.prop
    simp only [Giv]
    go_simp
    exact calls_rel hc
  iterate 4
    refine parW_step rfl (fun K hK => ?_)
    apply Exists.intro
    refine ⟨fun z => ?_, ?_⟩
    focus
      go_simp
      first
        | rfl
        | fail
    go_simp
    refine hK _ ?_
    clear hK K
  refine parW_rel rfl (IV.stable (q.num * p.den)) (fun x => ?_) ?_
  · intro v1 hv1
    have hc := H2.out x.val x.prop
    simp only [Giv]
    go_simp
    exact calls_rel hc
  iterate 4
    refine parW_step rfl (fun K hK => ?_)
    apply Exists.intro
    refine ⟨fun z => ?_, ?_⟩
    focus
      go_simp
      first
        | rfl
        | fail
    go_simp
    refine hK _ ?_
    clear hK K
  refine parW_rel rfl (IV.stable ((p.den : Int) * q.den)) (fun x => ?_) ?_
  · intro v1 hv1 v2 hv2
    have hc := H3.out x.val x.prop
    simp only [Giv]
    go_simp
    exact calls_rel hc
  refine parW_fin (fun z => ?_)
  rintro v1 o1 v2 o2 v3 o3 hp
  simp only [Act.put, List.setIfInBounds_toArray, List.set_cons_succ, List.set_cons_zero]
  have f3 := (y3.later z).frozen
  have f4 := (y4.later z).frozen
  have f5 := (y5.later z).frozen
  have d3 := (y3.later z).cell
  have d4 := (y4.later z).cell
  have d5 := (y5.later z).cell
  obtain ⟨a1, A1, n1, c1, Y1, rfl, e1, hE1, u3, i1, hb, hk⟩ := one_put (w := w) (y3.later z) (hE'.trans z.prop) (by omega) o1
  replace y4 := hb _ _ _ (show w.heap.size + 1 + 1 + 1 ≠ w.heap.size + 1 + 1 by omega) (y4.later z)
  replace y5 := hb _ _ _ (show w.heap.size + 1 + 1 + 1 + 1 ≠ w.heap.size + 1 + 1 by omega) (y5.later z)
  replace o2 := hk _ _ o2
  replace o3 := hk _ _ o3
  replace i1 : IV Y1 _ _ := ⟨_, _, _, _, rfl, i1⟩
  clear hb hk
  obtain ⟨a2, A2, n2, c2, Y2, rfl, e2, hE2, u4, i2, hb, hk⟩ := one_put (w := w) y4 hE1 (by omega) o2
  replace y5 := hb _ _ _ (show w.heap.size + 1 + 1 + 1 + 1 ≠ w.heap.size + 1 + 1 + 1 by omega) y5
  replace u3 := hb _ _ _ (show w.heap.size + 1 + 1 ≠ w.heap.size + 1 + 1 + 1 by omega) u3
  replace i1 := hk _ _ i1
  replace o3 := hk _ _ o3
  replace i2 : IV Y2 _ _ := ⟨_, _, _, _, rfl, i2⟩
  clear hb hk
  obtain ⟨a3, A3, n3, c3, Y3, rfl, e3, hE3, u5, i3, hb, hk⟩ := one_put (w := w) y5 hE2 (by omega) o3
  replace u4 := hb _ _ _ (show w.heap.size + 1 + 1 + 1 ≠ w.heap.size + 1 + 1 + 1 + 1 by omega) u4
  replace u3 := hb _ _ _ (show w.heap.size + 1 + 1 ≠ w.heap.size + 1 + 1 + 1 + 1 by omega) u3
  replace i1 := hk _ _ i1
  replace i2 := hk _ _ i2
  replace i3 : IV Y3 _ _ := ⟨_, _, _, _, rfl, i3⟩
  have HX := Lib.hid (show (((((z.val.setCell _ _).setCell _ _).setCell _ _).setCell _ _).setCell _ _).setCell _ _ = Y3 from by rw [e1, e2]; exact e3)
  have g3 := u3.cell
  have g4 := u4.cell
  have g5 := u5.cell
  clear hb hk e1 e2 e3 hE1 hE2 hp o1 o2 o3 z0 z1' H1 H2 H3 y1 y2 y3 y4 y5 j1 j2 hE' u3 u4 u5
  generalize z.val = Z at *
  rw [← HX.out] at g3 g4 g5
  go_wp2
  rw [HX.out] at g3 g4 g5 ⊢
  exact bodyPost_ret (v := .tuple #[.agg #[.bool a1, .slice A1 n1 c1], .agg #[.bool a2, .slice A2 n2 c2], .agg #[.bool a3, .slice A3 n3 c3]]) (by simp [results, Tryz.results29, go_sem, g3, g4, g5]) rfl ⟨_, _, _, rfl, hE3, i1, i2, i3⟩
end Go.Proofs.YtodefmfgoehkhaaGreat
