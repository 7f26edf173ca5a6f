/- rational: Mul, Quo, Floor (printed by gen_rat2.py). -/
import Derived.Test.YtodefmfgoehkhaaGreatTrOps
set_option linter.unusedVariables false
set_option linter.unusedSimpArgs false
namespace Go.Proofs.YtodefmfgoehkhaaGreat
open Go.RowKit Go.Par Go.TN

set_option maxHeartbeats 800000 in
set_option maxRecDepth 8000 in
theorem mulR {u v : Value} {p q : Rat} {w : World} {k m : Nat} (h1 : RV w u p) (h2 : RV w v q) (s1 : Sz k p) (s2 : Sz m q) (hk : k + m ≤ 100000000) :
    Calls Tryz.prog 33 #[u, v] w fun e w' => ∃ v, e = .returned v ∧ Ext w w' ∧ RV w' v (p * q) := by
  have HN1 := Lib.hid (fun W (he : Ext w W) => normV' (h1.ext he) s1 (by omega))
  have HN2 := Lib.hid (fun W (he : Ext w W) => normV' (h2.ext he) s2 (by omega))
  obtain ⟨b1, A1, n1, c1, b1', A1', n1', c1', rfl, h1⟩ := h1
  obtain ⟨b2, A2, n2, c2, b2', A2', n2', c2', rfl, h2⟩ := h2
  obtain ⟨O1, hO1⟩ : ∃ O, O = Obj.cells #[.bool b1, .slice A1 n1 c1, .bool b1', .slice A1' n1' c1'] 29 := ⟨_, rfl⟩
  obtain ⟨O2, hO2⟩ : ∃ O, O = Obj.cells #[.bool b2, .slice A2 n2 c2, .bool b2', .slice A2' n2' c2'] 29 := ⟨_, rfl⟩
  obtain ⟨O3, hO3⟩ : ∃ O, O = Obj.cells #[.bool false, .slice none 0 0, .bool false, .slice none 0 0] 29 := ⟨_, rfl⟩
  have hE := ((Ext.alloc w O1).trans (Ext.alloc _ O2)).trans (Ext.alloc _ O3)
  have x0 := ((Box.new w 29 #[.bool b1, .slice A1 n1 c1, .bool b1', .slice A1' n1' c1']).alloc O2).alloc O3
  have x1 := (Box.at1 (w := w) (o := O1) (t := 29) (cs := #[.bool b2, .slice A2 n2 c2, .bool b2', .slice A2' n2' c2'])).alloc O3
  have x2 := Box.at2 (w := w) (o := O1) (o' := O2) (t := 29) (cs := #[.bool false, .slice none 0 0, .bool false, .slice none 0 0])
  rw [← hO1] at x0
  rw [← hO2] at x1
  rw [← hO3] at x2
  rw [hO1, hO2, hO3] at hE x0 x1 x2
  clear h1 h2 hO1 hO2 hO3
  have HS1 := Lib.hid s1
  have HS2 := Lib.hid s2
  clear s1 s2
  go_enter Tryz.func33, Tryz.ntmps33
  go_wp2_with fail
  apply wp_region_par' 4 (by kernel_rfl) (by kernel_rfl) rfl
  simp only [List.take_succ_cons, List.take_zero, List.drop_succ_cons, List.drop_zero]
  generalize hW : World.drew _ = W
  have hEW : Ext w W := by rw [← hW]; exact hE.trans (Ext.drew _)
  replace x0 : Box W w.heap.size 29 #[.bool b1, .slice A1 n1 c1, .bool b1', .slice A1' n1' c1'] := by rw [← hW]; exact x0.drew
  replace x1 : Box W (w.heap.size + 1) 29 #[.bool b2, .slice A2 n2 c2, .bool b2', .slice A2' n2' c2'] := by rw [← hW]; exact x1.drew
  replace x2 : Box W (w.heap.size + 1 + 1) 29 #[.bool false, .slice none 0 0, .bool false, .slice none 0 0] := by rw [← hW]; exact x2.drew
  clear hW
  have z0 := x0.lcell
  have z1' := x1.lcell
  iterate 1
    refine parW_step rfl (fun K hK => ?_)
    apply Exists.intro
    refine ⟨fun z => ?_, ?_⟩
    focus
      go_simp
      first
        | rfl
        | fail
    go_simp
    refine hK _ ?_
    clear hK K
  refine parW_rel rfl (RV.stable p) (fun x => ?_) ?_
  · have hc := HN1.out x.val (hEW.later x)
    simp only [Giv]
    go_simp
    exact calls_rel hc
  iterate 1
    refine parW_step rfl (fun K hK => ?_)
    apply Exists.intro
    refine ⟨fun z => ?_, ?_⟩
    focus
      go_simp
      first
        | rfl
        | fail
    go_simp
    refine hK _ ?_
    clear hK K
  refine parW_rel rfl (RV.stable q) (fun x => ?_) ?_
  · intro v1 hv1
    have hc := HN2.out x.val (hEW.later x)
    simp only [Giv]
    go_simp
    exact calls_rel hc
  refine parW_fin (fun z => ?_)
  rintro v1 hv1 v2 hv2 hp
  simp only [Act.put, List.setIfInBounds_toArray, List.set_cons_succ, List.set_cons_zero]
  obtain ⟨b1, A1, n1, c1, b1', A1', n1', c1', b2, A2, n2, c2, b2', A2', n2', c2', Z', rfl, rfl, hZ, hE', y1, y2, j1, j2, hb'⟩ := two_putR (w := w) (Nat.ne_of_lt (Nat.lt_succ_self w.heap.size)) (x0.later z) (x1.later z) (hEW.later z) (Nat.le_refl _) (by omega) hv1 hv2
  have HZ := Lib.hid hZ
  have w0 := (x0.later z).frozen
  have w1 := (x1.later z).frozen
  have w2 := (x0.later z).cell
  have w3 := (x1.later z).cell
  have y3 := hb' _ _ _ (show w.heap.size + 1 + 1 ≠ w.heap.size by omega) (show w.heap.size + 1 + 1 ≠ w.heap.size + 1 by omega) (x2.later z)
  clear hZ hb' hv1 hv2 hp z0 z1' x0 x1 x2 HN1 HN2
  generalize z.val = Z at *
  go_wp2_with fail
  rw [HZ.out]
  clear HZ w0 w1 w2 w3
  apply wp_region_par' 11 (by kernel_rfl) (by kernel_rfl) rfl
  simp only [List.take_succ_cons, List.take_zero, List.drop_succ_cons, List.drop_zero]
  generalize hW : World.drew _ = V
  have hEV : Ext Z' V := by rw [← hW]; exact Ext.drew _
  clear hW
  replace y1 := y1.ext hEV
  replace y2 := y2.ext hEV
  replace y3 := y3.ext hEV
  replace j1 := j1.ext hEV
  replace j2 := j2.ext hEV
  replace hE' := hE'.trans hEV
  clear hEV hE hEW
  have s1 := HS1.out
  have s2 := HS2.out
  have hd : ∀ n : Nat, (n : Int).natAbs = n := fun n => Int.natAbs_natCast n
  have t1 := s1.num
  have t2 := s2.num
  have t3 := s1.den
  have t4 := s2.den
  have l1 := s1.n s2
  have l2 := s1.d s2
  have H1 := Lib.hid (fun X (he : Ext V X) => mulV (⟨_, _, _, _, rfl, j1.num.ext he⟩ : IV X _ p.num) (⟨_, _, _, _, rfl, j2.num.ext he⟩ : IV X _ q.num) (by omega) (by omega))
  have H2 := Lib.hid (fun X (he : Ext V X) => mulV (⟨_, _, _, _, rfl, j1.den.ext he⟩ : IV X _ (p.den : Int)) (⟨_, _, _, _, rfl, j2.den.ext he⟩ : IV X _ (q.den : Int)) (by rw [hd]; omega) (by rw [hd]; omega))
  have H3 := Lib.hid (fun W x y (hx : IV W x (p.num * q.num)) (hy : IV W y ((p.den : Int) * q.den)) => lowV hx hy (by omega) (by omega) (den_ne p q))
  rw [mul_def] at H3
  clear hd t1 t2 t3 t4 s1 s2 l1 l2
  have z0 := y1.lcell
  have z1' := y2.lcell
  iterate 4
    refine parW_step rfl (fun K hK => ?_)
    apply Exists.intro
    refine ⟨fun z => ?_, ?_⟩
    focus
      go_simp
      first
        | rfl
        | fail
    go_simp
    refine hK _ ?_
    clear hK K
  refine parW_rel rfl (IV.stable (p.num * q.num)) (fun x => ?_) ?_
  · have hc := H1.out x.val x.prop
    simp only [Giv]
    go_simp
    exact calls_rel hc
  iterate 4
    refine parW_step rfl (fun K hK => ?_)
    apply Exists.intro
    refine ⟨fun z => ?_, ?_⟩
    focus
      go_simp
      first
        | rfl
        | fail
    go_simp
    refine hK _ ?_
    clear hK K
  refine parW_rel rfl (IV.stable ((p.den : Int) * q.den)) (fun x => ?_) ?_
  · intro v1 hv1
    have hc := H2.out x.val x.prop
    simp only [Giv]
    go_simp
    exact calls_rel hc
  refine parW_rel rfl (RV.stable (p * q)) (fun x => ?_) ?_
  · intro v1 hv1 v2 hv2
    have k1 := hv1 (show Nat.testBit _ _ = true from by kernel_rfl)
    have k2 := hv2 (show Nat.testBit _ _ = true from by kernel_rfl)
    have hc := H3.out x.val _ _ k1 k2
    simp only [Giv]
    go_simp
    exact calls_rel hc
  refine parW_fin (fun z => ?_)
  rintro v1 o1 v2 o2 v3 o3 hp
  simp only [Act.put, List.setIfInBounds_toArray, List.set_cons_succ, List.set_cons_zero]
  obtain ⟨b, A', n', c', b', A'', n'', c'', rfl, hEf, gf⟩ := RV.put o3 (y3.later z) (by omega) (hE'.trans z.prop)
  have c6 := (y3.later z).cell
  have f6 := (y3.later z).frozen
  clear o1 o2 o3 hp z0 z1' H1 H2 H3 y1 y2 y3 j1 j2
  generalize z.val = Z at *
  go_wp2
  exact bodyPost_ret (v := .agg #[.bool b, .slice A' n' c', .bool b', .slice A'' n'' c'']) (by simp [results, Tryz.results33, go_sem, c6, f6]) rfl ⟨_, rfl, hEf, gf⟩
set_option maxHeartbeats 800000 in
set_option maxRecDepth 8000 in
theorem quoR {u v : Value} {p q : Rat} {w : World} {k m : Nat} (h1 : RV w u p) (h2 : RV w v q) (s1 : Sz k p) (s2 : Sz m q) (hk : k + m ≤ 100000000) (h0 : q ≠ 0) :
    Calls Tryz.prog 38 #[u, v] w fun e w' => ∃ v, e = .returned (.tuple #[v, .int .i64 0]) ∧ Ext w w' ∧ RV w' v (p / q) := by
  have HN1 := Lib.hid (fun W (he : Ext w W) => normV' (h1.ext he) s1 (by omega))
  have HN2 := Lib.hid (fun W (he : Ext w W) => normV' (h2.ext he) s2 (by omega))
  obtain ⟨b1, A1, n1, c1, b1', A1', n1', c1', rfl, h1⟩ := h1
  obtain ⟨b2, A2, n2, c2, b2', A2', n2', c2', rfl, h2⟩ := h2
  obtain ⟨O1, hO1⟩ : ∃ O, O = Obj.cells #[.bool b1, .slice A1 n1 c1, .bool b1', .slice A1' n1' c1'] 29 := ⟨_, rfl⟩
  obtain ⟨O2, hO2⟩ : ∃ O, O = Obj.cells #[.bool b2, .slice A2 n2 c2, .bool b2', .slice A2' n2' c2'] 29 := ⟨_, rfl⟩
  obtain ⟨O3, hO3⟩ : ∃ O, O = Obj.cells #[.bool false, .slice none 0 0, .bool false, .slice none 0 0] 29 := ⟨_, rfl⟩
  have hE := ((Ext.alloc w O1).trans (Ext.alloc _ O2)).trans (Ext.alloc _ O3)
  have x0 := ((Box.new w 29 #[.bool b1, .slice A1 n1 c1, .bool b1', .slice A1' n1' c1']).alloc O2).alloc O3
  have x1 := (Box.at1 (w := w) (o := O1) (t := 29) (cs := #[.bool b2, .slice A2 n2 c2, .bool b2', .slice A2' n2' c2'])).alloc O3
  have x2 := Box.at2 (w := w) (o := O1) (o' := O2) (t := 29) (cs := #[.bool false, .slice none 0 0, .bool false, .slice none 0 0])
  rw [← hO1] at x0
  rw [← hO2] at x1
  rw [← hO3] at x2
  rw [hO1, hO2, hO3] at hE x0 x1 x2
  clear h1 h2 hO1 hO2 hO3
  have HS1 := Lib.hid s1
  have HS2 := Lib.hid s2
  clear s1 s2
  go_enter Tryz.func38, Tryz.ntmps38
  go_wp2_with fail
  apply wp_region_par' 4 (by kernel_rfl) (by kernel_rfl) rfl
  simp only [List.take_succ_cons, List.take_zero, List.drop_succ_cons, List.drop_zero]
  generalize hW : World.drew _ = W
  have hEW : Ext w W := by rw [← hW]; exact hE.trans (Ext.drew _)
  replace x0 : Box W w.heap.size 29 #[.bool b1, .slice A1 n1 c1, .bool b1', .slice A1' n1' c1'] := by rw [← hW]; exact x0.drew
  replace x1 : Box W (w.heap.size + 1) 29 #[.bool b2, .slice A2 n2 c2, .bool b2', .slice A2' n2' c2'] := by rw [← hW]; exact x1.drew
  replace x2 : Box W (w.heap.size + 1 + 1) 29 #[.bool false, .slice none 0 0, .bool false, .slice none 0 0] := by rw [← hW]; exact x2.drew
  clear hW
  have z0 := x0.lcell
  have z1' := x1.lcell
  iterate 1
    refine parW_step rfl (fun K hK => ?_)
    apply Exists.intro
    refine ⟨fun z => ?_, ?_⟩
    focus
      go_simp
      first
        | rfl
        | fail
    go_simp
    refine hK _ ?_
    clear hK K
  refine parW_rel rfl (RV.stable p) (fun x => ?_) ?_
  · have hc := HN1.out x.val (hEW.later x)
    simp only [Giv]
    go_simp
    exact calls_rel hc
  iterate 1
    refine parW_step rfl (fun K hK => ?_)
    apply Exists.intro
    refine ⟨fun z => ?_, ?_⟩
    focus
      go_simp
      first
        | rfl
        | fail
    go_simp
    refine hK _ ?_
    clear hK K
  refine parW_rel rfl (RV.stable q) (fun x => ?_) ?_
  · intro v1 hv1
    have hc := HN2.out x.val (hEW.later x)
    simp only [Giv]
    go_simp
    exact calls_rel hc
  refine parW_fin (fun z => ?_)
  rintro v1 hv1 v2 hv2 hp
  simp only [Act.put, List.setIfInBounds_toArray, List.set_cons_succ, List.set_cons_zero]
  obtain ⟨b1, A1, n1, c1, b1', A1', n1', c1', b2, A2, n2, c2, b2', A2', n2', c2', Z', rfl, rfl, hZ, hE', y1, y2, j1, j2, hb'⟩ := two_putR (w := w) (Nat.ne_of_lt (Nat.lt_succ_self w.heap.size)) (x0.later z) (x1.later z) (hEW.later z) (Nat.le_refl _) (by omega) hv1 hv2
  have HZ := Lib.hid hZ
  have w0 := (x0.later z).frozen
  have w1 := (x1.later z).frozen
  have w2 := (x0.later z).cell
  have w3 := (x1.later z).cell
  have y3 := hb' _ _ _ (show w.heap.size + 1 + 1 ≠ w.heap.size by omega) (show w.heap.size + 1 + 1 ≠ w.heap.size + 1 by omega) (x2.later z)
  clear hZ hb' hv1 hv2 hp z0 z1' x0 x1 x2 HN1 HN2
  generalize z.val = Z at *
  go_wp2_with fail
  rw [HZ.out]
  clear HZ w0 w1 w2 w3
  apply wp_region_par' 13 (by kernel_rfl) (by kernel_rfl) rfl
  simp only [List.take_succ_cons, List.take_zero, List.drop_succ_cons, List.drop_zero]
  generalize hW : World.drew _ = V
  have hEV : Ext Z' V := by rw [← hW]; exact Ext.drew _
  clear hW
  replace y1 := y1.ext hEV
  replace y2 := y2.ext hEV
  replace y3 := y3.ext hEV
  replace j1 := j1.ext hEV
  replace j2 := j2.ext hEV
  replace hE' := hE'.trans hEV
  clear hEV hE hEW
  have s1 := HS1.out
  have s2 := HS2.out
  have hd : ∀ n : Nat, (n : Int).natAbs = n := fun n => Int.natAbs_natCast n
  have t1 := s1.num
  have t2 := s2.num
  have t3 := s1.den
  have t4 := s2.den
  have l1 := s1.x s2
  have l2 := s1.e s2
  have H1 := Lib.hid (fun X (he : Ext V X) => mulV (⟨_, _, _, _, rfl, j1.num.ext he⟩ : IV X _ p.num) (⟨_, _, _, _, rfl, j2.den.ext he⟩ : IV X _ (q.den : Int)) (by omega) (by rw [hd]; omega))
  have H2 := Lib.hid (fun X (he : Ext V X) => mulV (⟨_, _, _, _, rfl, j1.den.ext he⟩ : IV X _ (p.den : Int)) (⟨_, _, _, _, rfl, j2.num.ext he⟩ : IV X _ q.num) (by rw [hd]; omega) (by omega))
  have H3 := Lib.hid (fun W x y (hx : IV W x (p.num * q.den)) (hy : IV W y ((p.den : Int) * q.num)) => newRV hx hy (by omega) (by omega) (qd_ne p q h0))
  rw [quo_def] at H3
  clear hd t1 t2 t3 t4 s1 s2 l1 l2
  have z0 := y1.lcell
  have z1' := y2.lcell
  iterate 4
    refine parW_step rfl (fun K hK => ?_)
    apply Exists.intro
    refine ⟨fun z => ?_, ?_⟩
    focus
      go_simp
      first
        | rfl
        | fail
    go_simp
    refine hK _ ?_
    clear hK K
  refine parW_rel rfl (IV.stable (p.num * q.den)) (fun x => ?_) ?_
  · have hc := H1.out x.val x.prop
    simp only [Giv]
    go_simp
    exact calls_rel hc
  iterate 4
    refine parW_step rfl (fun K hK => ?_)
    apply Exists.intro
    refine ⟨fun z => ?_, ?_⟩
    focus
      go_simp
      first
        | rfl
        | fail
    go_simp
    refine hK _ ?_
    clear hK K
  refine parW_rel rfl (IV.stable ((p.den : Int) * q.num)) (fun x => ?_) ?_
  · intro v1 hv1
    have hc := H2.out x.val x.prop
    simp only [Giv]
    go_simp
    exact calls_rel hc
  refine parW_rel rfl (R := fun v w => ∃ x, v = .tuple #[x, .int .i64 0] ∧ RV w x (p / q)) (fun v w w' ⟨x, h1, h2⟩ he => ⟨x, h1, h2.ext he⟩) (fun x => ?_) ?_
  · intro v1 hv1 v2 hv2
    have k1 := hv1 (show Nat.testBit _ _ = true from by kernel_rfl)
    have k2 := hv2 (show Nat.testBit _ _ = true from by kernel_rfl)
    have hc := H3.out x.val _ _ k1 k2
    simp only [Giv]
    go_simp
    exact calls_rel (hc.mono fun e w' ⟨v, h1, h2, h3⟩ => ⟨_, h1, h2, v, rfl, h3⟩)
  refine parW_rel rfl (RV.stable (p / q)) (fun x => ?_) ?_
  · intro v1 hv1 v2 hv2 v3 hv3
    obtain ⟨v, rfl, k3⟩ := hv3 (show Nat.testBit _ _ = true from by kernel_rfl)
    simp only [Giv]
    go_simp
  refine parW_rel rfl (R := fun v w => v = .int .i64 0) (fun v w w' h he => h) (fun x => ?_) ?_
  · intro v1 hv1 v2 hv2 v3 hv3 v4 hv4
    obtain ⟨v, rfl, k3⟩ := hv3 (show Nat.testBit _ _ = true from by kernel_rfl)
    simp only [Giv]
    go_simp
  refine parW_fin (fun z => ?_)
  rintro v1 o1 v2 o2 v3 o3 v4 o4 v5 o5 hp
  have o5' : v5 = .int .i64 0 := o5
  subst o5'
  simp only [Act.put, List.setIfInBounds_toArray, List.set_cons_succ, List.set_cons_zero]
  obtain ⟨b, A', n', c', b', A'', n'', c'', rfl, hEf, gf⟩ := RV.put o4 (y3.later z) (by omega) (hE'.trans z.prop)
  have c6 := (y3.later z).cell
  have f6 := (y3.later z).frozen
  clear o1 o2 o3 o4 hp z0 z1' H1 H2 H3 y1 y2 y3 j1 j2
  generalize z.val = Z at *
  go_wp2
  exact bodyPost_ret (v := .tuple #[.agg #[.bool b, .slice A' n' c', .bool b', .slice A'' n'' c''], .int .i64 0]) (by simp [results, Tryz.results38, go_sem, c6, f6]) rfl ⟨_, rfl, hEf, gf⟩
set_option maxHeartbeats 800000 in
set_option maxRecDepth 8000 in
theorem floorR {u : Value} {q : Rat} {w : World} {k : Nat} (h : RV w u q) (s1 : Sz k q) (hk : k ≤ 100000000) (h0 : 0 ≤ q) :
    Calls Tryz.prog 32 #[u] w fun e w' => ∃ v, e = .returned v ∧ Ext w w' ∧ IV w' v q.floor := by
  have HN := Lib.hid (fun W (he : Ext w W) => normV' (h.ext he) s1 (by omega))
  obtain ⟨b1, A1, n1, c1, b1', A1', n1', c1', rfl, h⟩ := h
  obtain ⟨m, hm⟩ : ∃ m : Nat, q.num = m := ⟨q.num.toNat, by have := Rat.num_nonneg.2 h0; omega⟩
  have hfl : q.floor = ((m / q.den : Nat) : Int) := by rw [Rat.floor_def, hm]; rfl
  have l1 := s1.num
  have l2 := s1.den
  rw [hm, Int.natAbs_natCast] at l1
  have HD := Lib.hid (fun W u v (hu : IV W u q.num) (hv : IV W v (q.den : Int)) => divV (a := m) (b := q.den) (hm ▸ hu) hv (by omega) (by omega) q.den_nz)
  rw [hfl]
  have hE := (Ext.alloc w (.cells #[.bool b1, .slice A1 n1 c1, .bool b1', .slice A1' n1' c1'] 29)).trans (Ext.alloc _ (.cells #[.bool false, .slice none 0 0] 27))
  have x0 := (Box.new w 29 #[.bool b1, .slice A1 n1 c1, .bool b1', .slice A1' n1' c1']).alloc (.cells #[.bool false, .slice none 0 0] 27)
  have x1 := Box.at1 (w := w) (o := .cells #[.bool b1, .slice A1 n1 c1, .bool b1', .slice A1' n1' c1'] 29) (t := 27) (cs := #[.bool false, .slice none 0 0])
  clear h s1 hm l1 l2 h0 hfl hk
  go_enter Tryz.func32, Tryz.ntmps32
  go_wp2_with fail
  refine (HN.out _ hE).mono ?_
  rintro e w1 ⟨v, rfl, hE1, g1⟩
  replace x0 := x0.ext hE1
  replace x1 := x1.ext hE1
  obtain ⟨b2, A2, n2, c2, b2', A2', n2', c2', rfl, g1, g2⟩ := g1
  have k := ((((But.refl w.heap.size w1).set 0 (.bool b2)).set 1 (.slice A2 n2 c2)).set 2 (.bool b2')).set 3 (.slice A2' n2' c2')
  have f0 := x0.frozen
  have c0 := x0.cell
  have g1' := g1.but (NoDig.rat x0) k
  have g2' := g2.but (NoDig.rat x0) k
  have x1' := k.box x1 (by omega)
  have hEk := (hE.trans hE1).but k (Nat.le_refl _)
  obtain ⟨Z, hZ⟩ : ∃ Z, (((w1.setCell ⟨w.heap.size, 0, none⟩ (.bool b2)).setCell ⟨w.heap.size, 1, none⟩ (.slice A2 n2 c2)).setCell ⟨w.heap.size, 2, none⟩ (.bool b2')).setCell ⟨w.heap.size, 3, none⟩ (.slice A2' n2' c2') = Z := ⟨_, rfl⟩
  rw [hZ] at g1' g2' x1' hEk
  have HZ := Lib.hid hZ
  clear hZ k g1 g2 x0 x1 hE1 hE HN
  go_wp2_with fail
  rw [HZ.out]
  clear HZ c0 f0
  refine (HD.out _ _ _ ⟨_, _, _, _, rfl, g1'⟩ ⟨_, _, _, _, rfl, g2'⟩).mono ?_
  rintro e w2 ⟨v, r, rfl, hE2, ⟨b3, A3, n3, c3, rfl, g3⟩, z4, b4, A4, n4, c4, rfl, g4⟩
  have hE3 := (Ext.alloc w2 (.cells #[.bool b3, .slice A3 n3 c3] 27)).trans (Ext.alloc _ (.cells #[.bool b4, .slice A4 n4 c4] 27))
  have x3 := (Box.new w2 27 #[.bool b3, .slice A3 n3 c3]).alloc (.cells #[.bool b4, .slice A4 n4 c4] 27)
  have x4 := (x1'.ext hE2).ext hE3
  obtain ⟨h1, h2⟩ := putInt (w := w) x4 (by omega) ((hEk.trans hE2).trans hE3) (g3.ext hE3)
  have c5 := x3.cell
  have c6 := x4.cell
  have f6 := x4.frozen
  clear HD g1' g2' g3 g4 x1' hEk hE2 hE3 x3 x4
  go_wp2
  exact bodyPost_ret (v := .agg #[.bool b3, .slice A3 n3 c3]) (by simp [results, Tryz.results32, go_sem, c6, f6]) rfl ⟨_, rfl, h1, _, _, _, _, rfl, h2⟩
end Go.Proofs.YtodefmfgoehkhaaGreat
