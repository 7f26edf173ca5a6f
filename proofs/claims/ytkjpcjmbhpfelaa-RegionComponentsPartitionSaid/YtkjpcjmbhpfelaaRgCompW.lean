/- Components of the program: the walk. -/
import Derived.Test.YtkjpcjmbhpfelaaRgCompF
set_option linter.unusedVariables false
set_option linter.unusedSimpArgs false
namespace Go.Proofs.Ytkjpcjmbhpfelaa
open Go.RowKit Go.Par Go.Reg

theorem bool_zeros {cs : Array Value} {N : Nat} (h : cs = madeCells boolE.zero.cells (N * 1)) : ∀ (j : Nat) (v : Value), (boolE.cells (List.replicate N false))[j]? = some v → cs[j]? = some v := fun j v hv => by
  obtain ⟨i, o, x, hx, hv2, rfl, ho⟩ := boolE.cells_at' hv
  have ho1 : o < 1 := ho
  have hi := (List.getElem?_eq_some_iff.1 hx).1
  rw [List.length_replicate] at hi
  rw [List.getElem?_replicate, if_pos hi] at hx
  injection hx with hx
  subst hx
  have e1 : boolE.size = 1 := rfl
  have hz : boolE.zero.cells = #[.bool false] := rfl
  have h0 : o = 0 := by omega
  subst h0
  have hve : v = .bool false := by simpa [boolE] using hv2.symm
  subst hve
  rw [h, e1, hz, Nat.mul_one, Nat.mul_one, Nat.add_zero]
  simp [madeCells, hi, Nat.mod_one]
set_option maxRecDepth 100000 in
set_option maxHeartbeats 6400000 in
theorem components_any (l : List R4) (A : Option Addr) (n c : Nat) (w : World) (hn : l.length = n) (hb : n ≤ 1024) (hA : rectE.At w A l) :
    Calls Try.prog 37 #[.slice A n c] w fun e w' => ∃ v er, e = .returned (.tuple #[v, .int .i64 er]) ∧ Ext w w' ∧ CompRes l v er w' := by
  have H := Lib.hid (New_any l A n c w hn hb hA)
  have HWI := Lib.hid (inL_win l)
  clear hn hA
  go_enter Try.func37, Try.ntmps37
  go_wp2_with fail
  refine H.out.mono ?_
  rintro e w1 ⟨v, er, L, rfl, hE1, hr, hres⟩
  have HR := Lib.hid hr
  obtain ⟨k1, rfl, hown⟩ | ⟨k1, rfl, rfl⟩ := hres
  rotate_left
  · clear hr
    go_wp2
    exact bodyPost_ret (v := .tuple #[.slice none 0 0, .int .i64 5]) (by simp [results, Try.results37, go_sem, List.size_toArray]) rfl ⟨_, 5, rfl, hE1, L, HR.out, .inr ⟨k1, rfl, rfl⟩⟩
  · obtain ⟨m, hm⟩ : ∃ m, L.length = m := ⟨_, rfl⟩
    obtain ⟨A1, c1, rfl, _, hat⟩ := hown.at hm (by omega)
    rw [hm] at k1
    have HM := Lib.hid hm
    obtain ⟨cs, hcs0, hcs, hmk⟩ := EL.make boolE m m (Nat.le_refl _) (by omega)
    have hz := bool_zeros hcs0
    have hmk' : ∀ W, (Instr.makeSlice 72 (.int .i64 (m : Int)) (.int .i64 (m : Int))).run Try.prog W = .ok (.slice (some ⟨W.heap.size, 0, none⟩) m m) (W.alloc (.cells cs 4)) := hmk
    have HS0 := Lib.hid (SeenOk.start L)
    rw [hm] at HS0
    have hE2 := Ext.alloc w1 (.cells cs 4)
    have hownS : boolE.Own (w1.alloc (.cells cs 4)) w1.heap.size (.slice (some ⟨w1.heap.size, 0, none⟩) m m) (List.replicate m false) :=
      EL.Own.mk (by simp) (Nat.le_refl _) (Box.new w1 4 cs) (Nat.le_refl _) (by unfold maxLen; omega) hcs hz
    clear hr hown hm hmk hz hcs0 hcs
    go_wp2_with fail
    obtain ⟨g0, hg0⟩ : ∃ g0, w1.heap.size = g0 := ⟨_, rfl⟩
    have HG0 := Lib.hid hg0
    rw [hg0] at hownS ⊢
    clear hg0 hmk'
    go_loopw [7, 28] (fun s i wr => ∃ (j : Nat) (ss : List (Option Addr × Nat × Nat)) (ms : List Nat) (C : List (List R4)) (seen : List Bool), j ≤ m ∧ i = .int .i64 j ∧ Ext w1 wr ∧ boolE.Own wr g0 (.slice (some ⟨g0, 0, none⟩) m m) seen ∧ slE.Own wr (g0 + 1) s ss ∧ Hid (ss.length ≤ j) ∧ RowsBox wr ss C ∧ Hid (SeenOk L j [] seen) ∧ Hid (Mins L j ms) ∧ Hid (CompsOf L ms C)) (fun _ i _ => m - (intOf i).toNat)
    case atStart => exact ⟨0, [], [], [], _, Nat.zero_le _, rfl, hE2, hownS, EL.Own.nil _ _, Lib.hid (Nat.le_refl _), RowsBox.nil _, HS0, Lib.hid (Mins.start L), Lib.hid (CompsOf.start L)⟩
    case round =>
      clear hE2 hownS HS0
      obtain ⟨j, ss, ms, C, seen, hj, rfl, hE, hseen, hown, HSL, hrows, HSE, HMI, HCO⟩ := hrel
      by_cases hlt : j < m
      · have dj : ((j : Int) < (m : Int)) = True := eq_true (by omega)
        obtain ⟨b, hbj⟩ : ∃ b, seen[j]? = some b := ⟨_, List.getElem?_eq_getElem (by rw [HSE.out.1, HM.out]; exact hlt)⟩
        have cb := hseen.cell (i := j) (j := 0) (x := b) hbj rfl
        rw [show boolE.size = 1 from rfl, Nat.mul_one, Nat.add_zero] at cb
        cases b
        · have HLS := Lib.hid (HSE.out.first hbj (by rw [HM.out]; exact hlt)).2.2
          have HMI2 := Lib.hid (HMI.out.yes (by rw [HM.out]; exact hlt) HLS.out)
          obtain ⟨⟨x0, x1, x2, x3⟩, hr⟩ : ∃ q, L[j]? = some q := ⟨_, List.getElem?_eq_getElem (by rw [HM.out]; omega)⟩
          have HFT := Lib.hid (FloodTo.start HSE.out hbj hr)
          obtain ⟨bb, o, rfl⟩ := hat.addr hr
          obtain ⟨e0, e1, e2, e3⟩ := rect_cell hat hr
          have fb := hseen.frozen (i := j)
          have hsl := hseen.lt
          obtain ⟨cur, hz1, hz2, hbx, hz3⟩ := hseen.opened
          clear hz1 hz2 hz3
          have hset := hseen.setAt (i := j) (j := 0) (x := false) (y := true) (v := .bool true) hbj (by decide) rfl
          rw [show boolE.size = 1 from rfl, Nat.mul_one, Nat.add_zero] at hset
          have hEs := hE.setNew (b := g0) (by rw [← HG0.out]; exact Nat.le_refl _) j (.bool true)
          have hown1 := own_set (i := j) (u := .bool true) hown hbx (by decide)
          have hrows1 := hrows.set (i := j) (u := .bool true) hbx
          have hbx1 := hbx.set j (.bool true)
          have hsz := size_set wr ⟨g0, j, none⟩ (.bool true)
          dsimp only at e0 e1 e2 e3
          replace e0 := hEs.cell e0
          replace e1 := hEs.cell e1
          replace e2 := hEs.cell e2
          replace e3 := hEs.cell e3
          have hP : rectE.Own ((wr.setCell ⟨g0, j, none⟩ (.bool true)).alloc (.cells #[.int .i64 x0, .int .i64 x1, .int .i64 x2, .int .i64 x3] 29)) (wr.setCell ⟨g0, j, none⟩ (.bool true)).heap.size (.slice (some ⟨(wr.setCell ⟨g0, j, none⟩ (.bool true)).heap.size, 0, none⟩) 1 1) [(x0, x1, x2, x3)] :=
            EL.Own.mk rfl (Nat.le_refl _) (Box.new _ _ _) (Nat.le_refl _) (by unfold maxLen; omega) rfl (fun j v hv => by
              have := List.getElem?_eq_some_iff.1 hv
              rw [Array.getElem?_eq_some_iff]
              exact ⟨this.1, this.2⟩)
          rw [hsz] at hP
          have HZ := Lib.hid hsz
          have HB0 := Lib.hid (show g0 < wr.heap.size from hsl)
          clear hsz hsl hr hbj hbx hseen hown hrows HSE HMI
          go_wp2_with fail
          have hbt := But.of_ext (b := g0) (Ext.alloc (wr.setCell ⟨g0, j, none⟩ (.bool true)) (.cells #[.int .i64 x0, .int .i64 x1, .int .i64 x2, .int .i64 x3] 29))
          replace hset := hset.ext (Ext.alloc _ (.cells #[.int .i64 x0, .int .i64 x1, .int .i64 x2, .int .i64 x3] 29))
          obtain ⟨B0, hB0⟩ : ∃ B0, wr.heap.size = B0 := ⟨_, rfl⟩
          rw [hB0] at hP HB0 HZ ⊢
          clear hB0 fb cb e0 e1 e2 e3 hE
          generalize hW1 : wr.setCell ⟨g0, j, none⟩ (.bool true) = W1 at *
          clear hW1
          go_loopw [9, 10] (fun pv i wq => ∃ (t : Nat) (J : List Nat) (P : List R4) (sn : List Bool), i = .int .i64 t ∧ But g0 W1 wq ∧ boolE.Own wq g0 (.slice (some ⟨g0, 0, none⟩) m m) sn ∧ rectE.Own wq B0 pv P ∧ t ≤ P.length ∧ Hid (FloodTo L j J P sn t 0)) (fun _ i _ => m - (intOf i).toNat)
          case atStart => exact ⟨0, _, _, _, rfl, hbt, hset, hP, Nat.zero_le _, HFT⟩
          case round =>
            clear hbt hset hP HFT
            obtain ⟨t, J, P, sn, rfl, hbt, hseen, hP, htp, HFT⟩ := hrel
            have hPL : P.length ≤ m := by rw [← HM.out]; exact HFT.out.len.1
            obtain ⟨np, hnp⟩ : ∃ np, P.length = np := ⟨_, rfl⟩
            have HNP := Lib.hid hnp
            rw [hnp] at htp hPL
            by_cases hlt2 : t < np
            · have dt : ((t : Int) < (np : Int)) = True := eq_true (by omega)
              obtain ⟨gp, cap, rfl, hgp, hcap⟩ := hP.head (by omega)
              rw [hnp] at hP ⊢
              clear hnp hcap
              go_wp2_with fail
              go_loopw [9, 51] (fun pv i wz => ∃ (q : Nat) (J : List Nat) (P : List R4) (sn : List Bool), q ≤ m ∧ i = .int .i64 q ∧ But g0 W1 wz ∧ boolE.Own wz g0 (.slice (some ⟨g0, 0, none⟩) m m) sn ∧ rectE.Own wz B0 pv P ∧ t < P.length ∧ Hid (FloodTo L j J P sn t q)) (fun _ i _ => m - (intOf i).toNat)
              case atStart => exact ⟨0, J, P, sn, Nat.zero_le _, rfl, hbt, hseen, hP, by rw [HNP.out]; exact hlt2, HFT⟩
              case round =>
                clear hbt hseen hP HFT hPL htp hgp dt hlt2 HNP
                obtain ⟨q, J, P, sn, hq, rfl, hbt, hseen, hP, htp, HFT⟩ := hrel
                have hPL : P.length ≤ m := by rw [← HM.out]; exact HFT.out.len.1
                obtain ⟨gp, cap, rfl, hgp, hcap⟩ := hP.head (by omega)
                obtain ⟨np, hnp⟩ : ∃ np, P.length = np := ⟨_, rfl⟩
                have HNP := Lib.hid hnp
                rw [hnp] at hP hPL htp ⊢
                clear hcap
                have hEz : Ext w1 wr := hEs.but hbt (by rw [HG0.out]; exact Nat.le_refl _)
                by_cases hlt3 : q < m
                · have dq : ((q : Int) < (m : Int)) = True := eq_true (by omega)
                  obtain ⟨sb, hsb⟩ : ∃ b, sn[q]? = some b := ⟨_, List.getElem?_eq_getElem (by rw [HFT.out.len.2, HM.out]; exact hlt3)⟩
                  obtain ⟨⟨r0, r1, r2, r3⟩, hr⟩ : ∃ r, L[q]? = some r := ⟨_, List.getElem?_eq_getElem (by rw [HM.out]; exact hlt3)⟩
                  obtain ⟨⟨y0, y1, y2, y3⟩, hy⟩ : ∃ r, P[t]? = some r := ⟨_, List.getElem?_eq_getElem (by rw [hnp]; exact htp)⟩
                  obtain ⟨e0, e1, e2, e3⟩ := rect_cell hat hr
                  dsimp only at e0 e1 e2 e3
                  replace e0 := hEz.cell e0
                  replace e1 := hEz.cell e1
                  replace e2 := hEz.cell e2
                  replace e3 := hEz.cell e3
                  have cs := hseen.cell (i := q) (j := 0) (x := sb) hsb rfl
                  rw [show boolE.size = 1 from rfl, Nat.mul_one, Nat.add_zero] at cs
                  have p0 := hP.cell (i := t) (j := 0) (x := (y0, y1, y2, y3)) hy rfl
                  have p1 := hP.cell (i := t) (j := 1) (x := (y0, y1, y2, y3)) hy rfl
                  have p2 := hP.cell (i := t) (j := 2) (x := (y0, y1, y2, y3)) hy rfl
                  have p3 := hP.cell (i := t) (j := 3) (x := (y0, y1, y2, y3)) hy rfl
                  rw [show rectE.size = 4 from rfl] at p0 p1 p2 p3
                  rw [Nat.add_zero] at p0
                  have HR := Lib.hid hr
                  have HY := Lib.hid hy
                  have HSB := Lib.hid hsb
                  have b12 := Box.new wr 29 #[.int .i64 r0, .int .i64 r1, .int .i64 r2, .int .i64 r3]
                  have HGS := Lib.hid (show g0 < wr.heap.size from hseen.lt)
                  clear hr hy hsb hnp
                  cases sb
                  · have HTC := Lib.hid (fun W => touch_any y0 y1 y2 y3 r0 r1 r2 r3 W)
                    obtain ⟨tb, htb⟩ : ∃ tb, touchS (y0, y1, y2, y3) (r0, r1, r2, r3) = tb := ⟨_, rfl⟩
                    rw [htb] at HTC
                    have HTB := Lib.hid htb
                    clear htb
                    go_wp2_with fail
                    apply wp_region_par' 13 (by kernel_rfl) (by kernel_rfl) rfl
                    simp only [List.take_succ_cons, List.take_zero, List.drop_succ_cons, List.drop_zero]
                    generalize hW : World.drew _ = W
                    have hEW : Ext wr W := by rw [← hW]; exact (Ext.alloc _ _).trans (Ext.drew _)
                    have b12' : Box W wr.heap.size 29 #[.int .i64 r0, .int .i64 r1, .int .i64 r2, .int .i64 r3] := by rw [← hW]; exact b12.drew
                    clear hW b12
                    have z0 := fun z : Later W => z.cell (hEW.cell cs)
                    have z1 := fun z : Later W => z.cell (hEW.cell p0)
                    have z2 := fun z : Later W => z.cell (hEW.cell p1)
                    have z3 := fun z : Later W => z.cell (hEW.cell p2)
                    have z4 := fun z : Later W => z.cell (hEW.cell p3)
                    have z5 := fun z : Later W => (b12'.later z).cell
                    iterate 13
                      refine parW_step rfl (fun K hK => ?_)
                      apply Exists.intro
                      refine ⟨fun z => ?_, ?_⟩
                      focus
                        go_simp
                        first
                          | rfl
                          | with_reducible exact calls_val (HTC.out _)
                      go_simp
                      refine hK _ ?_
                      clear hK K
                    refine parW_end (fun z => ?_)
                    have hEz2 := hEW.later z
                    replace b12' := b12'.later z
                    clear z0 z1 z2 z3 z4 z5 cs p0 p1 p2 p3 e0 e1 e2 e3
                    replace hbt := hbt.trans (But.of_ext hEz2)
                    replace hseen := hseen.ext hEz2
                    replace hP := hP.ext hEz2
                    generalize wr.heap.size = B12 at *
                    generalize z.val = Z at *
                    clear z hEz2 hEW hEz
                    cases tb
                    · have HF2 := Lib.hid (HFT.out.far HY.out HR.out HTB.out)
                      go_wp2
                      go_roundw
                      case rel => exact ⟨q + 1, J, P, sn, by omega, by go_num, hbt, hseen, hP, by rw [HNP.out]; exact htp, HF2⟩
                      case measure => simp [intOf]; omega
                    · have HF2 := Lib.hid (HFT.out.take HSB.out HY.out HR.out HTB.out)
                      have fz := hseen.frozen (i := q)
                      have cz := hseen.cell (i := q) (j := 0) (x := false) HSB.out rfl
                      obtain ⟨cur2, hz1, hz2, hbz, hz3⟩ := hseen.opened
                      clear hz1 hz2 hz3
                      have hset := hseen.setAt (i := q) (j := 0) (x := false) (y := true) (v := .bool true) HSB.out (by decide) rfl
                      rw [show boolE.size = 1 from rfl, Nat.mul_one, Nat.add_zero] at hset cz
                      have hP3 := own_set (i := q) (u := .bool true) hP hbz (by decide)
                      have hbt3 := hbt.set q (.bool true)
                      have b13 := b12'.far (p := ⟨g0, q, none⟩) (by have := HGS.out; exact fun e => by dsimp only at e; omega) (.bool true)
                      have c13 := b13.cell
                      have hEa := Ext.alloc (Z.setCell ⟨g0, q, none⟩ (.bool true)) (.cells #[.int .i64 r0, .int .i64 r1, .int .i64 r2, .int .i64 r3] 29)
                      have hownA := hP3.ext hEa
                      have hbt4 := hbt3.trans (But.of_ext hEa)
                      have hseen4 := hset.ext hEa
                      have hrow := EL.rowOne (E := rectE) (x := (r0, r1, r2, r3)) (Box.new (Z.setCell ⟨g0, q, none⟩ (.bool true)) 29 #[.int .i64 r0, .int .i64 r1, .int .i64 r2, .int .i64 r3]) rfl
                      rw [size_set Z ⟨g0, q, none⟩ (.bool true)] at hrow
                      have hsz4 := hbt4.size
                      rw [HZ.out] at hsz4
                      have hlen : P.length + ([(r0, r1, r2, r3)] : List R4).length ≤ 1000000000 := by rw [HNP.out]; simp only [List.length_singleton]; omega
                      have HBT := Lib.hid hbt4
                      have HSN := Lib.hid hseen4
                      clear hbt hseen hP hset hP3 hbt3 hbz hbt4 hseen4 b12' b13 hEa
                      go_wp2_with (at_builtin; refine EL.wpApp rectE rfl _ _ rfl B0 _ _ P [(r0, r1, r2, r3)] rfl rfl hownA hrow hlen hsz4 ?_; intro v1 W2 own1 gr1 _)
                      have hbt5 := but_grown HBT.out hownA (by rw [HZ.out]; exact Nat.le_refl _) gr1
                      have hseen5 := own_kept HSN.out hownA (by decide) gr1
                      go_roundw
                      case rel => exact ⟨q + 1, _, _, _, by omega, by go_num, hbt5, hseen5, own1, by rw [List.length_append, HNP.out]; omega, HF2⟩
                      case measure => simp [intOf]; omega
                  · have HF2 := Lib.hid (HFT.out.skip HSB.out)
                    go_wp2_with fail
                    apply wp_region_par' 13 (by kernel_rfl) (by kernel_rfl) rfl
                    simp only [List.take_succ_cons, List.take_zero, List.drop_succ_cons, List.drop_zero]
                    generalize hW : World.drew _ = W
                    have hEW : Ext wr W := by rw [← hW]; exact (Ext.alloc _ _).trans (Ext.drew _)
                    clear hW b12
                    have z0 := fun z : Later W => z.cell (hEW.cell cs)
                    iterate 13
                      refine parW_step rfl (fun K hK => ?_)
                      apply Exists.intro
                      refine ⟨fun z => ?_, ?_⟩
                      focus
                        go_simp
                        first
                          | rfl
                          | fail
                      go_simp
                      refine hK _ ?_
                      clear hK K
                    refine parW_end (fun z => ?_)
                    have hEz2 := hEW.later z
                    clear z0 cs p0 p1 p2 p3 e0 e1 e2 e3
                    replace hbt := hbt.trans (But.of_ext hEz2)
                    replace hseen := hseen.ext hEz2
                    replace hP := hP.ext hEz2
                    generalize z.val = Z at *
                    clear z hEz2 hEW hEz
                    go_wp2
                    go_roundw
                    case rel => exact ⟨q + 1, J, P, sn, by omega, by go_num, hbt, hseen, hP, by rw [HNP.out]; exact htp, HF2⟩
                    case measure => simp [intOf]; omega
                · have dq : ((q : Int) < (m : Int)) = False := eq_false (by omega)
                  have HF2 := Lib.hid (HFT.out.next (by rw [HM.out]; omega))
                  clear hEz hnp
                  go_wp2
                  go_roundw
                  case rel => exact ⟨t + 1, J, P, sn, by go_num, hbt, hseen, hP, by rw [HNP.out]; exact htp, HF2⟩
                  case measure => simp [intOf]; omega
            · have dt : ((t : Int) < (np : Int)) = False := eq_false (by omega)
              have HFE := Lib.hid (HFT.out.end (by rw [hnp]; omega))
              have hEq : Ext w1 wr := hEs.but hbt (by rw [HG0.out]; exact Nat.le_refl _)
              obtain ⟨AP, cP, rfl, _, hatP⟩ := hP.at hnp (by omega)
              have HNW := Lib.hid (New_any P AP np cP _ hnp (by omega) hatP)
              have hown := hown1.but hbt (Nat.lt_succ_self _)
              have hrows := hrows1.but hbx1 hbt
              clear hnp hP hatP hbt HFT hown1 hrows1 hbx1
              go_wp2_with fail
              refine HNW.out.mono ?_
              rintro e w5 ⟨v5, er5, M, rfl, hE5, hrM, hresM⟩
              have HSM := Lib.hid (part_small HR.out HWI.out HFE.out.2.2.2 hrM)
              obtain ⟨_, rfl, hownM⟩ | ⟨kM, rfl, rfl⟩ := hresM
              rotate_left
              · exact absurd HSM.out (by rw [HM.out]; omega)
              have HCO2 := Lib.hid (HCO.out.snoc HFE.out.2.1 hrM)
              obtain ⟨nM, hnM⟩ : ∃ nM, M.length = nM := ⟨_, rfl⟩
              have hlM : nM ≤ 1024 := by rw [← hnM]; have := HSM.out; rw [HM.out] at this; omega
              obtain ⟨AM, cM, rfl, _, _⟩ := hownM.at hnM (by omega)
              have hbM := EL.BoxAt.of_own hownM
              replace hEq := hEq.trans hE5
              replace hown := hown.ext hE5
              replace hseen := hseen.ext hE5
              have hrows2 := (hrows.ext hE5).snoc (c := cM) hnM (by omega) hbM
              clear hownM hnM hrM HNW hrows hE5 hbM HSM
              have hEa := hEq.trans (Ext.alloc w5 (.cells #[.slice AM nM cM] 22))
              have hownA := hown.ext (Ext.alloc w5 (.cells #[.slice AM nM cM] 22))
              have hseenA := hseen.ext (Ext.alloc w5 (.cells #[.slice AM nM cM] 22))
              have hrowsA := hrows2.ext (Ext.alloc w5 (.cells #[.slice AM nM cM] 22))
              have hrow := EL.rowOne (E := slE) (x := (AM, nM, cM)) (Box.new w5 22 #[.slice AM nM cM]) rfl
              have hsz : g0 + 1 ≤ (w5.alloc (.cells #[.slice AM nM cM] 22)).heap.size := hseenA.lt
              have hlen : ss.length + ([(AM, nM, cM)] : List (Option Addr × Nat × Nat)).length ≤ 1000000000 := by have := HSL.out; simp only [List.length_singleton]; omega
              clear hseen hown hrows2 hEq
              go_wp2_with (at_builtin; refine EL.wpApp slE rfl _ _ rfl (g0 + 1) _ _ ss [(AM, nM, cM)] rfl rfl hownA hrow hlen hsz ?_; intro v1 W2 own1 gr1 _)
              have hE6 := growExt hEa hownA (by rw [HG0.out]; omega) gr1
              have hrows3 := hrowsA.grown hownA gr1
              have hseen5 := own_kept hseenA hownA (by decide) gr1
              go_roundw
              case rel => exact ⟨j + 1, _, _, _, _, by omega, by go_num, hE6, hseen5, own1, Lib.hid (by have := HSL.out; simp; omega), hrows3, Lib.hid HFE.out.2.2.1, HMI2, HCO2⟩
              case measure => simp [intOf]; omega
        · obtain ⟨hs1, hs2⟩ := HSE.out.skip hbj
          have HS1 := Lib.hid hs1
          have HMI2 := Lib.hid (HMI.out.no hs2)
          clear hs1 hs2 hbj
          go_wp2
          go_roundw
          case rel => exact ⟨j + 1, ss, ms, C, seen, by omega, by go_num, hE, hseen, hown, Lib.hid (by have := HSL.out; omega), hrows, HS1, HMI2, HCO⟩
          case measure => simp [intOf]; omega
      · have dj : ((j : Int) < (m : Int)) = False := eq_false (by omega)
        have HJM := Lib.hid (show j = L.length by rw [HM.out]; omega)
        have HMI2 := Lib.hid (show Mins L L.length ms from by rw [← HJM.out]; exact HMI.out)
        obtain ⟨A9, c9, rfl, _, hat9⟩ := hown.at (n := ss.length) rfl (by have := HSL.out; omega)
        go_wp2
        exact bodyPost_ret (v := .tuple #[.slice A9 ss.length c9, .int .i64 0]) (by simp [results, Try.results37, go_sem, List.size_toArray]) rfl ⟨_, 0, rfl, hE1.trans hE, L, HR.out, .inl ⟨by rw [HM.out]; exact k1, rfl, A9, c9, ss, ms, C, rfl, by have := HSL.out; omega, hat9, hrows.rows, HMI2.out, HCO.out⟩⟩
end Go.Proofs.Ytkjpcjmbhpfelaa
