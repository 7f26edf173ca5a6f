/- Outline of the reference: the walk of Outline. -/
import Derived.Test.YtkjpcjmbhpfelaaGreatRgRefI
import Derived.Test.YtkjpcjmbhpfelaaGreatRgNewR
set_option linter.unusedVariables false
set_option linter.unusedSimpArgs false
namespace Go.Proofs.YtkjpcjmbhpfelaaGreat
open Go.RowKit Go.Par Go.Reg Go.Maps

def OutResR (l : List R4) (v : Value) (er : Int) (w : World) : Prop := ∃ L, RegionOf (inL l) L ∧ ((L.length ≤ 1024 ∧ er = 0 ∧ ∃ (A : Option Addr) (n c : Nat) (T : List RSl), v = .slice A n c ∧ T.length = n ∧ n ≤ 300000000 ∧
  ptsE.At w A (T.map fun t => t.1) ∧ (∀ t ∈ T, RowR w t) ∧ OutOf (inL l) (T.map fun t => t.2)) ∨ (1024 < L.length ∧ er = 5 ∧ v = .slice none 0 0))
theorem bound_len (S : Pix) (xs ys : List Int) (h1 : xs.length ≤ 8193) (h2 : ys.length ≤ 8193) : (boundG S xs ys).length ≤ 268500000 := by
  have := acc_len S xs ys (xs.length - 1) (ys.length - 1) 0 (by omega) (by omega) (by omega)
  rw [List.length_append] at this
  have e : rowsG S xs ys (xs.length - 1) (ys.length - 1) = boundG S xs ys := rfl
  rw [e] at this
  omega
set_option maxRecDepth 100000 in
set_option maxHeartbeats 6400000 in
theorem rOutline_any (l : List R4) (A : Option Addr) (n c : Nat) (w : World) (hn : l.length = n) (hb : n ≤ 1024) (hA : rectE.At w A l) :
    Calls Tryz.prog 7 #[.slice A n c] w fun e w' => ∃ v er, e = .returned (.tuple #[v, .int .i64 er]) ∧ Ext w w' ∧ OutResR l v er w' := by
  have H := Lib.hid (rNew_any l A n c w hn hb hA)
  clear hn hA
  go_enter Tryz.func7, Tryz.ntmps7
  go_wp2_with fail
  refine H.out.mono ?_
  rintro e w1 ⟨v, er, L, rfl, hE1, hr, hres⟩
  have HR := Lib.hid hr
  obtain ⟨k1, rfl, hown⟩ | ⟨k1, rfl, rfl⟩ := hres
  rotate_left
  · clear hr
    go_wp2
    exact bodyPost_ret (v := .tuple #[.slice none 0 0, .int .i64 5]) (by simp [results, Tryz.results7, go_sem, List.size_toArray]) rfl ⟨_, 5, rfl, hE1, L, HR.out, .inr ⟨k1, rfl, rfl⟩⟩
  · have HL := Lib.hid k1
    obtain ⟨m, hm⟩ : ∃ m, L.length = m := ⟨_, rfl⟩
    obtain ⟨A1, c1, rfl, _, hat⟩ := hown.at hm (by omega)
    have HED := Lib.hid (rEdges_any L A1 m c1 _ _ _ _ w1 hm (by omega) hat (SetV.nil w1) (SetV.nil w1))
    clear H
    go_wp2_with fail
    refine HED.out.mono ?_
    rintro e w2 ⟨v1, v2, rfl, hE2, hX, hY⟩
    obtain ⟨xs, AX, nX, cX, rfl, hnX, _, hatX, sX, memX, bX⟩ := hX
    obtain ⟨ys, AY, nY, cY, rfl, hnY, _, hatY, sY, memY, bY⟩ := hY
    have hw := inL_win l
    have hSL : inL L = inL l := funext fun x => funext fun y => hr.has hw x y
    have HSL := Lib.hid hSL
    have hG : Grid (inL L) xs ys := grid_of (hSL ▸ hr.geo hw) sX sY (fun r hrm => by
      have := edgesX_mem hrm (by have := ((hr.geo hw).full r hrm); exact this)
      exact ⟨(memX _).2 (.inr this.1), (memX _).2 (.inr this.2)⟩) (fun r hrm => by
      have := edgesY_mem hrm (by have := ((hr.geo hw).full r hrm); exact this)
      exact ⟨(memY _).2 (.inr this.1), (memY _).2 (.inr this.2)⟩)
    have hbX : nX ≤ 8193 := by have := sorted_len sX bX (by omega); omega
    have hbY : nY ≤ 8193 := by have := sorted_len sY bY (by omega); omega
    have hSY := grid_sys hG
    have hBl := bound_len (inL L) xs ys (by omega) (by omega)
    have HBO := Lib.hid (boundary_any L A1 AX AY m c1 nX cX nY cY xs ys w2 hm (by omega) (hat.ext hE2) hnX hnY hbX hbY hatX hatY)
    have HNXT := Lib.hid (fun (i : Nat) (g : GE) (nx : Int) (h1 : (boundG (inL L) xs ys)[i]? = some g) h2 => FolI.next hG sX sY (i := i) (g := g) (nx := nx) h1 h2)
    have HFR := Lib.hid (fun (i : Nat) (g : GE) (h1 : (boundG (inL L) xs ys)[i]? = some g) => frG_lt (List.mem_of_getElem? h1))
    have HXG := Lib.hid (fun (j : Nat) (hj : j < nX) => show xs[j]? = some (xs.getD j 0) from by rw [List.getD_eq_getElem?_getD, List.getElem?_eq_getElem (by rw [hnX]; exact hj)]; rfl)
    have HYG := Lib.hid (fun (j : Nat) (hj : j < nY) => show ys[j]? = some (ys.getD j 0) from by rw [List.getD_eq_getElem?_getD, List.getElem?_eq_getElem (by rw [hnY]; exact hj)]; rfl)
    have HSY := Lib.hid hSY
    have HBX := Lib.hid bX
    have HBY := Lib.hid bY
    have HnX := Lib.hid hnX
    have HnY := Lib.hid hnY
    replace hE1 := hE1.trans hE2
    clear hE2 hSY hown hat hm k1 hr HED hSL hw hG sX sY memX memY bX bY hnX hnY
    generalize hBd : boundG (inL L) xs ys = Bd at *
    clear hBd
    go_wp2_with fail
    refine HBO.out.mono ?_
    rintro e w3 ⟨v, rfl, hE3, hown⟩
    obtain ⟨ne, hne⟩ : ∃ ne, Bd.length = ne := ⟨_, rfl⟩
    have HNB := Lib.hid hne
    obtain ⟨E, hEe⟩ : ∃ E, Bd.map (edgG xs ys) = E := ⟨_, rfl⟩
    rw [hEe] at HSY HNXT
    have HNE := Lib.hid (show E.length = ne from by rw [← hEe, List.length_map, hne])
    have HEG := Lib.hid (fun (i : Nat) (g : GE) (h : Bd[i]? = some g) => show E[i]? = some (edgG xs ys g) from by rw [← hEe, List.getElem?_map, h]; rfl)
    clear hEe
    rw [hne] at hBl
    obtain ⟨A8, c8, rfl, hc8, hat⟩ := hown.at hne (by omega)
    replace hE1 := hE1.trans hE3
    replace hatX := hatX.ext hE3
    replace hatY := hatY.ext hE3
    clear hE3 hown HBO hne
    have HFO := Lib.hid (fun (k : Nat) (g : GE) (W : World) (hk : Bd[k]? = some g) (kW : Ext w3 W) => show Calls Tryz.prog 23 #[.slice A8 ne c8, .int .i64 (k : Int)] W (fun e w' => ∃ j : Nat, e = .returned (.int .i64 (j : Int)) ∧ Ext W w' ∧ NextE (inL L) E k j) from
      (follow_any Bd A8 ne c8 k g W HNB.out (by omega) (hat.ext kW) hk).mono fun e w' ⟨v, q1, q2, q3⟩ => by
        rw [← HNB.out] at q3
        obtain ⟨j, e1, e2⟩ := HNXT.out k g v hk q3
        exact ⟨j, by rw [q1, e1], q2, e2⟩)
    obtain ⟨cs0, hcs0, hcs, hmk⟩ := EL.make boolE ne ne (Nat.le_refl _) (by omega)
    have hz := bool_zeros hcs0
    have hmk' : ∀ W, (Instr.makeSlice 46 (.int .i64 (ne : Int)) (.int .i64 (ne : Int))).run Tryz.prog W = .ok (.slice (some ⟨W.heap.size, 0, none⟩) ne ne) (W.alloc (.cells cs0 4)) := hmk
    have hownS : boolE.Own (w3.alloc (.cells cs0 4)) w3.heap.size (.slice (some ⟨w3.heap.size, 0, none⟩) ne ne) (List.replicate ne false) :=
      EL.Own.mk (by simp) (Nat.le_refl _) (Box.new w3 4 cs0) (Nat.le_refl _) (by unfold maxLen; omega) hcs hz
    have hEs := (Ext.alloc w3 (.cells cs0 4)).trans (Ext.alloc _ (.cells #[] 48))
    replace hownS := hownS.ext (Ext.alloc _ (.cells #[] 48))
    have HCS := Lib.hid (CyS.start (NextE (inL L) E) ne)
    have HINJ := Lib.hid (fun i j k h1 h2 => HSY.out.inj (i := i) (j := j) (k := k) h1 h2)
    have HNX := Lib.hid (fun i j (h : NextE (inL L) E i j) => show j < ne from by obtain ⟨_, f, _, h2, _⟩ := h; rw [← HNE.out]; exact (List.getElem?_eq_some_iff.1 h2).1)
    obtain ⟨g0, hg0⟩ : ∃ g0, w3.heap.size = g0 := ⟨_, rfl⟩
    have HG0 := Lib.hid hg0
    rw [hg0] at hownS
    clear hmk hz hcs0 hcs HNXT
    go_wp2_with fail
    clear hg0 hmk'
    go_loopw [10, 11] (fun s i wr => ∃ (i0 : Nat) (cs : List (List Nat)) (Rs : List (List Crn)) (T : List RSl) (used : List Bool) (A10 : Option Addr) (n10 c10 : Nat), i0 ≤ ne ∧ i = .int .i64 i0 ∧ s = .slice A10 n10 c10 ∧ Ext w3 wr ∧ boolE.Own wr g0 (.slice (some ⟨g0, 0, none⟩) ne ne) used ∧ ptsE.BoxAt wr A10 (T.map fun t => t.1) ∧ (∀ t ∈ T, RowR wr t) ∧ n10 ≤ 300000000 ∧ Hid (T.length = n10) ∧ Hid (Rs.length = cs.length ∧ (T.map fun t => t.2).Perm Rs ∧ T.Pairwise fun a b => ¬ aheadP (keyT b) (keyT a)) ∧ Hid (∀ (k : Nat) (q : List Nat), cs[k]? = some q → ∃ R, Rs[k]? = some R ∧ RingAt E q R) ∧ Hid (CyS (NextE (inL L) E) ne i0 cs [] used)) (fun _ i _ => ne - (intOf i).toNat)
    case atStart => exact ⟨0, [], [], [], _, _, 0, 0, Nat.zero_le _, rfl, rfl, hEs, hownS, (fun h => absurd rfl h), (fun t h => absurd h List.not_mem_nil), by omega, Lib.hid rfl, Lib.hid ⟨rfl, List.Perm.refl _, List.Pairwise.nil⟩, Lib.hid (fun k q h => absurd h (by simp)), HCS⟩
    case round =>
      clear hEs hownS HCS
      obtain ⟨i0, cs, Rs, T, used, A10, n10, c10, hi0, rfl, rfl, hE, hU, hO, hT, hn10, HTL, HTP, HTR, HCY⟩ := hrel
      by_cases hlt0 : i0 < ne
      · have di : ((i0 : Int) < (ne : Int)) = True := eq_true (by omega)
        obtain ⟨Bz, hBz⟩ : ∃ Bz, wr.heap.size = Bz := ⟨_, rfl⟩
        have HBZ := Lib.hid (show g0 < Bz ∧ w3.heap.size ≤ Bz from by have := hU.lt; rw [← hBz]; exact ⟨this, hE.size⟩)
        have hcy0 := EL.Own.made (E := ptE) wr
        have hA0 := Ext.alloc wr (.cells #[] 42)
        have hT0 := fun t (ht : t ∈ T) => ((hT t ht).low).ext hA0
        rw [hBz] at hcy0 hT0
        have hs0 := hA0.size
        rw [hBz] at hs0
        have hE0 := hE.trans hA0
        have hU0 := hU.ext hA0
        have hO0 := hO.ext hA0
        clear hE hU hO hT hA0
        go_wp2_with fail
        clear hBz
        go_loopw [12, 13] (fun cy kk wz => ∃ (k : Nat) (c : List Edg) (q : List Nat) (used : List Bool), kk = .int .i64 k ∧ k < ne ∧ Bz ≤ wz.heap.size ∧ Ext w3 wz ∧ boolE.Own wz g0 (.slice (some ⟨g0, 0, none⟩) ne ne) used ∧ ptE.Own wz Bz cy (c.map fun e => scl (startC e)) ∧ ptsE.BoxAt wz A10 (T.map fun t => t.1) ∧ (∀ t ∈ T, RowB Bz wz t) ∧ Hid (EdgesAt E q c) ∧ Hid (CyS (NextE (inL L) E) ne i0 cs q used) ∧ Hid (AtK (NextE (inL L) E) i0 q k)) (fun cy _ _ => ne - sliceLen cy)
        case atStart => exact ⟨i0, [], [], used, rfl, hlt0, hs0, hE0, hU0, hcy0, hO0, hT0, Lib.hid (EdgesAt.nil E), HCY, Lib.hid (.inl ⟨rfl, rfl⟩)⟩
        case round =>
          clear hE0 hU0 hO0 hT0 hcy0 hs0 HCY used
          obtain ⟨k, c, q, used, rfl, hkn, hBw, hE, hU, hC, hO, hT, HEA, HCY, HAK⟩ := hrel
          obtain ⟨b, hb⟩ : ∃ b, used[k]? = some b := ⟨_, List.getElem?_eq_getElem (by rw [HCY.out.len]; exact hkn)⟩
          have cb := hU.cell (i := k) (j := 0) (x := b) hb rfl
          rw [show boolE.size = 1 from rfl, Nat.mul_one, Nat.add_zero] at cb
          have hcl : c.length ≤ ne := by rw [HEA.out.1]; have := HCY.out.room; omega
          obtain ⟨nc, hnc⟩ : ∃ nc, c.length = nc := ⟨_, rfl⟩
          have HNC := Lib.hid hnc
          obtain ⟨AC, cC, rfl, hcC, hatC⟩ := hC.at (n := nc) (by rw [List.length_map]; exact hnc) (by omega)
          cases b
          · obtain ⟨g, hk⟩ : ∃ e, Bd[k]? = some e := ⟨_, List.getElem?_eq_getElem (by rw [HNB.out]; exact hkn)⟩
            have HK := Lib.hid hk
            obtain ⟨f1, f2, _, _, _, _, _⟩ := HFR.out k g hk
            rw [HnX.out] at f1
            rw [HnY.out] at f2
            obtain ⟨bA, oA, rfl⟩ := hat.addr hk
            obtain ⟨e0, e1, _, _, _, _⟩ := ged_cell hat hk
            have x0 := HXG.out _ f1
            have y0 := HYG.out _ f2
            have bx := HBX.out _ (List.mem_of_getElem? x0)
            have by' := HBY.out _ (List.mem_of_getElem? y0)
            obtain ⟨bX, oX, rfl⟩ := hatX.addr x0
            obtain ⟨bY, oY, rfl⟩ := hatY.addr y0
            have x1 := int_cell hatX x0
            have y1 := int_cell hatY y0
            have HPT := Lib.hid (show scl (startC (edgG xs ys g)) = (xs.getD (frG g).1 0 * 256, ys.getD (frG g).2 0 * 256) from rfl)
            generalize xs.getD (frG g).1 0 = x at *
            generalize ys.getD (frG g).2 0 = y at *
            generalize (frG g).1 = p0 at *
            generalize (frG g).2 = p1 at *
            have HCY2 := Lib.hid (HCY.out.push hb HAK.out.last)
            have hcl2 : nc + 1 ≤ ne := by have := HCY2.out.room; rw [List.length_append, ← HEA.out.1, hnc] at this; simp only [List.length_singleton] at this; omega
            have fz := hU.frozen (i := k)
            have hset := hU.setAt (i := k) (j := 0) (x := false) (y := true) (v := .bool true) hb (by decide) rfl
            rw [show boolE.size = 1 from rfl, Nat.mul_one, Nat.add_zero] at hset
            obtain ⟨cur, hz1, hz2, hbx, hz3⟩ := hU.opened
            clear hz1 hz2 hz3
            have hC1 := own_set (i := k) (u := .bool true) hC hbx (by decide)
            have hO1 := hO.set (i := k) (u := .bool true) (F := boolE) hbx (by decide)
            have hT1 := fun t ht => (hT t ht).set (i := k) (u := .bool true) hbx
            have hEs := hE.setNew (b := g0) (by rw [HG0.out]; exact Nat.le_refl _) k (.bool true)
            replace e0 := hEs.cell e0
            replace e1 := hEs.cell e1
            replace x1 := hEs.cell x1
            replace y1 := hEs.cell y1
            have w6 : IntKind.i64.wrap (256 * x) = 256 * x := IntWalk.i64_in _ (by omega)
            have w7 : IntKind.i64.wrap (256 * y) = 256 * y := IntWalk.i64_in _ (by omega)
            clear hk hb hU hC hO hT hbx hE hatC hnc x0 y0
            go_wp2_with fail
            apply wp_region_par' 23 (by kernel_rfl) (by kernel_rfl) rfl
            simp only [List.take_succ_cons, List.take_zero, List.drop_succ_cons, List.drop_zero]
            generalize hW : World.drew _ = W
            have hEW : Ext (wr.setCell ⟨g0, k, none⟩ (.bool true)) W := by rw [← hW]; exact Ext.drew _
            clear hW cb fz
            have E0 := fun z : Later W => z.cell (hEW.cell e0)
            have E1 := fun z : Later W => z.cell (hEW.cell e1)
            have X1 := fun z : Later W => z.cell (hEW.cell x1)
            have Y1 := fun z : Later W => z.cell (hEW.cell y1)
            clear e0 e1 x1 y1
            iterate 22
              refine parW_step rfl (fun K hK => ?_)
              apply Exists.intro
              refine ⟨fun z => ?_, ?_⟩
              focus
                go_simp
                first
                  | rfl
                  | fail
              go_simp
              refine hK _ ?_
              clear hK K
            refine parW_newRow (t := 42) (n := 1) (cs := #[.int .i64 (256 * x), .int .i64 (256 * y)]) rfl rfl rfl (by simp) (fun w1 => by kernel_rfl) ?_
            refine parW_fin (fun z => ?_)
            rintro v1 ⟨b5, rfl, hb5, B5⟩ hp
            have hEz := hEW.later z
            clear hp E0 E1 X1 Y1
            have hEA := hEs.trans hEz
            have hUA := Lib.hid (hset.ext hEz)
            have hCA := hC1.ext hEz
            have hOA := Lib.hid (hO1.ext hEz)
            have hTA := Lib.hid (fun t ht => (hT1 t ht).ext hEz)
            have hrow := EL.rowOne (E := ptE) (x := (x * 256, y * 256)) B5 (by rw [Int.mul_comm 256 x, Int.mul_comm 256 y]; rfl)
            have hszz := Nat.le_trans (show Bz ≤ (wr.setCell ⟨g0, k, none⟩ (.bool true)).heap.size from by rw [size_set]; exact hBw) hEz.size
            have hll : (c.map fun e => scl (startC e)).length + ([(x * 256, y * 256)] : List (Int × Int)).length ≤ 1000000000 := by rw [List.length_map, HNC.out]; simp only [List.length_singleton]; omega
            clear hset hC1 hO1 hT1 hEs hEz hb5 hEW
            generalize z.val = Z at *
            clear z B5
            simp only [Act.put, List.setIfInBounds_toArray, List.set_cons_succ, List.set_cons_zero]
            go_wp2_with (at_builtin; refine EL.wpApp ptE rfl _ _ rfl Bz _ _ (c.map fun e => scl (startC e)) [(x * 256, y * 256)] rfl rfl hCA hrow hll hszz ?_; intro v1 W1 own1 gr1 _; have hE3 := growExt hEA hCA HBZ.out.2 gr1)
            have hU3 := own_kept hUA.out hCA (by decide) gr1
            have hO3 := hOA.out.grown hCA (by decide) gr1
            have hT3 := fun t ht => (hTA.out t ht).grown hCA gr1
            have hs3 := Nat.le_trans hszz gr1.size
            refine (HFO.out k g _ HK.out hE3).mono ?_
            rintro e w9 ⟨j, rfl, hE9, hN⟩
            have HN9 := Lib.hid hN
            have hmp : (c.map fun e => scl (startC e)) ++ [(x * 256, y * 256)] = (c ++ [edgG xs ys g]).map fun e => scl (startC e) := by rw [List.map_append, List.map_singleton, HPT.out]
            rw [hmp] at own1
            have HOW := Lib.hid own1
            obtain ⟨A9, c9, rfl, _, _⟩ := own1.at (n := nc + 1) (by rw [List.length_map, List.length_append, HNC.out]; rfl) (by omega)
            have HE9 := Lib.hid (HEG.out k g HK.out)
            clear own1 hN gr1 hmp hCA hrow hEA
            go_wp2
            go_roundw
            case rel => exact ⟨j, _, _, _, rfl, HNX.out _ _ HN9.out, Nat.le_trans hs3 hE9.size, hE3.trans hE9, hU3.ext hE9, HOW.out.ext hE9, hO3.ext hE9, (fun t ht => (hT3 t ht).ext hE9), Lib.hid (HEA.out.snoc HE9.out), HCY2, Lib.hid (HAK.out.step HN9.out)⟩
            case measure => simp [sliceLen]; omega
          · rcases HAK.out with ⟨hq, hki⟩ | ⟨hh, a, hla, hNa⟩
            · have hc0 : nc = 0 := by rw [← hnc, HEA.out.1, hq]; rfl
              have HCY2 := Lib.hid (CyS.pass (i := i0) (by rw [← hq]; exact HCY.out) (by rw [← hki]; exact hb))
              have hTR := fun t ht => (hT t ht).1
              clear hq hki hatC hnc hb hcl
              subst hc0
              go_wp2
              go_roundw
              case rel => exact ⟨i0 + 1, cs, Rs, T, used, A10, n10, c10, by omega, by go_num, rfl, hE, hU, hO, hTR, hn10, HTL, HTP, HTR, HCY2⟩
              case measure => simp [intOf]; omega
            · have HCY2 := Lib.hid (HCY.out.shut HINJ.out hb hla hNa hh)
              have hcyc := HCY2.out.inv.cyc q (by simp)
              have HCYC := Lib.hid hcyc
              have hcn : corn (lastD c) c ≠ [] := by
                obtain ⟨k0, K, e1, _⟩ := closed_ring (cyc_closed HSY.out hcyc HEA.out).1
                rw [e1]; simp
              have hn0 : 0 < nc := by
                rw [← hnc, HEA.out.1]
                cases q with
                | nil => simp at hla
                | cons a q => simp
              have HTB := Lib.hid (show cs.length + 1 ≤ ne from by have := HCY2.out.count; rw [List.length_append] at this; simpa using this)
              have HCRN := Lib.hid (fun (k : Nat) (a e b : Edg) (hk : k < nc) h1 h2 h3 => corner_pts HSY.out hcyc HEA.out (k := k) (a := a) (e := e) (b := b) (by rw [hnc]; exact hk) (by rw [hnc]; exact h1) h2 (by rw [hnc]; exact h3))
              have HCO := Lib.hid (corners_any c AC nc cC wr hnc (by omega) hatC HCRN.out)
              have hcl5 := (corn_sub c (lastD c)).length_le
              rw [List.length_map, hnc] at hcl5
              obtain ⟨m5, hm5⟩ : ∃ m5, (corn (lastD c) c).length = m5 := ⟨_, rfl⟩
              have HM5 := Lib.hid hm5
              have h50 : 0 < m5 := by rw [← hm5]; exact List.length_pos_iff.2 hcn
              rw [hm5] at hcl5
              have hncb : nc ≤ ne := by rw [← hnc]; exact hcl
              clear hb hla hNa hh hatC hnc hcl hC hcyc hcn hm5
              go_wp2_with fail
              refine HCO.out.mono ?_
              rintro e w5 ⟨v, rfl, hE5, own5⟩
              obtain ⟨A5, c5, rfl, _, at5⟩ := own5.at (n := m5) (by rw [List.length_map]; exact HM5.out) (by omega)
              have HBG := Lib.hid (begun_any (corn (lastD c) c) A5 m5 c5 w5 HM5.out (by omega) at5 h50)
              clear own5 at5
              go_wp2_with fail
              refine HBG.out.mono ?_
              rintro e w6 ⟨v, t, rfl, hE6, ht, hleast, own6⟩
              have hrl : (rot t (corn (lastD c) c)).length = m5 := by rw [rot_length (by rw [HM5.out]; omega)]; exact HM5.out
              obtain ⟨A6, c6, rfl, _, _⟩ := own6.at (n := m5) (by rw [List.length_map]; exact hrl) (by omega)
              have HRA := Lib.hid (show RingAt E q (rot t (corn (lastD c) c)) from ⟨c, t, HEA.out, by rw [HM5.out]; exact ht, rfl, hleast.rot (by rw [HM5.out]; exact ht)⟩)
              have HRR := Lib.hid (show RowR w6 ((A6, m5, c6), rot t (corn (lastD c) c)) from ⟨hrl, by dsimp only; omega, (fun e => by dsimp only at e; rw [e] at hrl; simp at hrl; omega), EL.BoxAt.of_own own6⟩)
              clear own6 hleast hrl ht
              generalize rot t (corn (lastD c) c) = R at *
              have hE56 := hE5.trans hE6
              have HIN := Lib.hid (insert_any T ((A6, m5, c6), R) A10 n10 c10 w6 HTL.out hn10 (hO.ext hE56).at (fun t ht => ((hT t ht).1.ext hE56).first) HRR.out.first)
              have hTR := Lib.hid (fun t ht => (hT t ht).1.ext hE56)
              have hUR := hU.ext hE56
              have hER := hE.trans hE56
              clear hE5 hE6 hE56 hU hO hT hE
              go_wp2_with fail
              refine HIN.out.mono ?_
              rintro e w7 ⟨v, rfl, hE7, own7⟩
              have hpm := insS_perm keyT ((A6, m5, c6), R) T
              have hln : (insS keyT ((A6, m5, c6), R) T).length = n10 + 1 := by rw [hpm.length_eq, List.length_cons, HTL.out]
              have HLN := Lib.hid hln
              have hnb : n10 + 1 ≤ 300000000 := by
                have h1 := HTP.out.2.1.length_eq
                rw [List.length_map, HTL.out, HTP.out.1] at h1
                have := HTB.out
                omega
              obtain ⟨A7, c7, rfl, _, _⟩ := own7.at (n := n10 + 1) (by rw [List.length_map]; exact hln) (by omega)
              have HB7 := Lib.hid (EL.BoxAt.of_own own7)
              have HPM := Lib.hid hpm
              have hU7 := hUR.ext hE7
              have hE9 := hER.trans hE7
              have HT7 := Lib.hid (fun t (ht : t ∈ insS keyT ((A6, m5, c6), R) T) => show RowR w7 t from by
                rcases List.mem_cons.1 (HPM.out.subset ht) with rfl | ht
                · exact HRR.out.ext hE7
                · exact (hTR.out t ht).ext hE7)
              clear own7 hpm hln
              go_wp2
              go_roundw
              case rel => exact ⟨i0 + 1, cs ++ [q], Rs ++ [R], insS keyT ((A6, m5, c6), R) T, used, A7, n10 + 1, c7, by omega, by go_num, by go_num, hE9, hU7, HB7.out, HT7.out, hnb, HLN, Lib.hid ⟨by rw [List.length_append, List.length_append, HTP.out.1]; rfl, ((HPM.out.map _).trans ((HTP.out.2.1.cons R).trans (List.perm_append_singleton R Rs).symm)), insS_sorted keyT _ T HTP.out.2.2⟩, Lib.hid (fun k' q' hq' => by
                rcases Nat.lt_or_ge k' cs.length with h | h
                · rw [List.getElem?_append_left h] at hq'
                  obtain ⟨t', h1, h2⟩ := HTR.out k' q' hq'
                  exact ⟨t', by rw [List.getElem?_append_left (by rw [HTP.out.1]; exact h)]; exact h1, h2⟩
                · rw [List.getElem?_append_right h] at hq'
                  have h0 : k' - cs.length = 0 := by have := (List.getElem?_eq_some_iff.1 hq').1; simp at this; omega
                  rw [h0] at hq'
                  simp at hq'
                  subst hq'
                  exact ⟨_, by rw [List.getElem?_append_right (by rw [HTP.out.1]; exact h), HTP.out.1, h0]; rfl, HRA.out⟩), HCY2⟩
              case measure => simp [intOf]; omega
      · have di : ((i0 : Int) < (ne : Int)) = False := eq_false (by omega)
        have hin : i0 = ne := by omega
        have HOUT := Lib.hid (show OutOf (inL l) (T.map fun t => t.2) from by
          rw [← HSL.out]
          refine out_of HSY.out (cs := cs) (Rs := Rs) HCY.out.inv.cyc ?_ ?_ HTP.out.1 HTR.out HTP.out.2.1 (by rw [List.pairwise_map]; exact HTP.out.2.2)
          · have := HCY.out.inv.nodup; rwa [List.append_nil] at this
          · exact fun j hj => HCY.out.done j (by rw [HNE.out] at hj; omega))
        clear hin
        have HE2 := Lib.hid (hE1.trans hE)
        have HAT := Lib.hid hO.at
        go_wp2
        exact bodyPost_ret (v := .tuple #[.slice A10 n10 c10, .int .i64 0]) (by simp [results, Tryz.results7, go_sem, List.size_toArray]) rfl ⟨_, 0, rfl, HE2.out, L, HR.out, .inl ⟨HL.out, rfl, A10, n10, c10, T, rfl, HTL.out, hn10, HAT.out, hT, HOUT.out⟩⟩
end Go.Proofs.YtkjpcjmbhpfelaaGreat
