/- The reference: runs. -/
import Derived.Test.YtkjpcjmbhpfelaaGreatRgRef
set_option linter.unusedVariables false
set_option linter.unusedSimpArgs false
namespace Go.Proofs.YtkjpcjmbhpfelaaGreat
open Go.RowKit Go.Par Go.Reg

theorem inL_filter (l : List R4) (x y : Int) : inL (l.filter (inRow y)) x y = inL l x y := by
  rw [Bool.eq_iff_iff, inL_iff, inL_iff]
  constructor
  · rintro ⟨r, hr, h⟩; exact ⟨r, (List.mem_filter.1 hr).1, h⟩
  · rintro ⟨r, hr, h⟩
    refine ⟨r, List.mem_filter.2 ⟨hr, ?_⟩, h⟩
    unfold hasR at h
    unfold inRow
    simp only [Bool.and_eq_true, decide_eq_true_eq, Bool.not_eq_true'] at h ⊢
    simp [h]
set_option maxRecDepth 100000 in
set_option maxHeartbeats 3200000 in
theorem runs_any (a b : List R4) (A1 A2 A3 : Option Addr) (n1 c1 n2 c2 M c3 : Nat) (way y : Int) (keep : Bool → Bool → Bool) (xs : List Int) (w : World) (hn1 : a.length = n1) (hn2 : b.length = n2) (hb1 : n1 ≤ 1000000) (hb2 : n2 ≤ 1000000) (hM : xs.length = M) (hMb : M ≤ 1000000)
    (h1 : rectE.At w A1 a) (h2 : rectE.At w A2 b) (h3 : intE.At w A3 xs) (hcut : Cuts xs (fun x => keepS keep a b x y) false) (hw : Way way keep) :
    Calls Tryz.prog 78 #[.slice A1 n1 c1, .slice A2 n2 c2, .int .i64 way, .slice A3 M c3, .int .i64 y] w fun e w' => ∃ v R, e = .returned v ∧ Ext w w' ∧ arrE.Own w' w.heap.size v R ∧ R.length ≤ M ∧ OKR R ∧ ∀ x, inRuns R x = keepS keep a b x y := by
  have HA := Lib.hid (fun (W : World) (k : Ext w W) => at_any a A1 n1 c1 y W hn1 (by omega) (h1.ext k))
  have HB := Lib.hid (fun (W : World) (k : Ext w W) => at_any b A2 n2 c2 y W hn2 (by omega) (h2.ext k))
  have HLA := Lib.hid (show (a.filter (inRow y)).length ≤ n1 from by rw [← hn1]; exact List.length_filter_le _ _)
  have HLB := Lib.hid (show (b.filter (inRow y)).length ≤ n2 from by rw [← hn2]; exact List.length_filter_le _ _)
  have HCUT := Lib.hid hcut
  have HM := Lib.hid hM
  have HW := Lib.hid hw
  clear hn1 hn2 h1 h2 hcut hM hw
  have hE0 := Ext.alloc w (.cells #[] 59)
  have hown0 := EL.Own.made (E := arrE) w
  go_enter Tryz.func78, Tryz.ntmps78
  go_wp2_with fail
  refine (HA.out _ hE0).mono ?_
  rintro e w1 ⟨v1, rfl, k1, hown1⟩
  obtain ⟨m1, hm1⟩ : ∃ m, (a.filter (inRow y)).length = m := ⟨_, rfl⟩
  have hm1b : m1 ≤ n1 := hm1 ▸ HLA.out
  obtain ⟨A4, c4, rfl, _, _⟩ := hown1.at hm1 (by omega)
  have hat4 := EL.BoxAt.of_own hown1
  have HM1 := Lib.hid hm1
  replace hown0 := hown0.ext k1
  replace k1 := hE0.trans k1
  clear hown1 hm1 hE0
  go_wp2_with fail
  refine (HB.out _ k1).mono ?_
  rintro e w3 ⟨v2, rfl, k2, hown2⟩
  obtain ⟨m2, hm2⟩ : ∃ m, (b.filter (inRow y)).length = m := ⟨_, rfl⟩
  have hm2b : m2 ≤ n2 := hm2 ▸ HLB.out
  obtain ⟨A5, c5, rfl, _, _⟩ := hown2.at hm2 (by omega)
  have hat5 := EL.BoxAt.of_own hown2
  have HM2 := Lib.hid hm2
  replace hat4 := hat4.ext k2
  have hE3 := k1.trans k2
  replace hown0 := hown0.ext k2
  have HIS := Lib.hid (fun (W : World) (x : Int) (k4 : rectE.BoxAt W A4 (a.filter (inRow y))) (k5 : rectE.BoxAt W A5 (b.filter (inRow y))) => is_any (a.filter (inRow y)) (b.filter (inRow y)) A4 A5 m1 c4 m2 c5 way x y keep W HM1.out HM2.out (by omega) (by omega) k4.at k5.at HW.out)
  simp only [inL_filter] at HIS
  clear hown2 hm2 k1 k2
  go_wp2_with fail
  go_loopw [11, 14, 15] (fun s i _ wr => ∃ (k : Nat) (R : List Run), (k < M ∨ (k = 0 ∧ M = 0)) ∧ i = .int .i64 k ∧ Ext w wr ∧ rectE.BoxAt wr A4 (a.filter (inRow y)) ∧ rectE.BoxAt wr A5 (b.filter (inRow y)) ∧ arrE.Own wr w.heap.size s R ∧ R.length ≤ k ∧ Hid (RunsTo xs (fun x => keepS keep a b x y) k R)) (fun _ i _ _ => M - (intOf i).toNat)
  case atStart => exact ⟨0, [], by omega, rfl, hE3, hat4, hat5, hown0, Nat.le_refl _, Lib.hid (RunsTo.start HCUT.out)⟩
  case round =>
    clear hE3 hat4 hat5 hown0
    obtain ⟨k, R, hk, rfl, hE, hat4, hat5, hown, hRk, HR⟩ := hrel
    have q1 : IntKind.i64.wrap ((k : Int) + 1) = (k : Int) + 1 := IntWalk.i64_in _ (by omega)
    by_cases hlt : k + 1 < M
    · have dk : ((k : Int) + 1 < (M : Int)) = True := eq_true (by omega)
      obtain ⟨lo, hlo⟩ : ∃ q, xs[k]? = some q := ⟨_, List.getElem?_eq_getElem (by rw [HM.out]; omega)⟩
      obtain ⟨hi, hhi⟩ : ∃ q, xs[k + 1]? = some q := ⟨_, List.getElem?_eq_getElem (by rw [HM.out]; omega)⟩
      obtain ⟨bb, o, rfl⟩ := h3.addr hlo
      have e0 := hE.cell (int_cell h3 hlo)
      have e1 := hE.cell (int_cell h3 hhi)
      have HLO := Lib.hid hlo
      have HHI := Lib.hid hhi
      have HIS' := Lib.hid (fun (W : World) => HIS.out W lo)
      obtain ⟨kv, hkv⟩ : ∃ kv, keepS keep a b lo y = kv := ⟨_, rfl⟩
      have HT := Lib.hid hkv
      have hkv' : keep (inL a lo y) (inL b lo y) = kv := hkv
      simp only [hkv'] at HIS'
      have k1 : k < M := by omega
      have n1' : (0 : Int) ≤ (k : Int) + 1 := by omega
      have n2' : ((k : Int) + 1).toNat = k + 1 := by omega
      clear hlo hhi hk hkv hkv'
      go_wp2_with fail
      refine (HIS'.out _ hat4 hat5).mono ?_
      rintro e Z ⟨rfl, hEz⟩
      replace e0 := hEz.cell e0
      replace e1 := hEz.cell e1
      replace hE := hE.trans hEz
      replace hown := hown.ext hEz
      replace hat4 := hat4.ext hEz
      replace hat5 := hat5.ext hEz
      clear hEz
      cases kv
      · have HR2 := Lib.hid (HR.out.skip HCUT.out HLO.out HHI.out HT.out)
        go_wp2
        go_roundw
        case rel => exact ⟨k + 1, R, .inl hlt, by go_num, hE, hat4, hat5, hown, by omega, HR2⟩
        case measure => simp [intOf]; omega
      · rcases List.eq_nil_or_concat R with e | ⟨R', ⟨a0, l0⟩, e⟩
        · subst e
          obtain ⟨A6, c6, rfl, _, _⟩ := hown.len
          have HR2 := Lib.hid (HR.out.push HCUT.out HLO.out HHI.out HT.out (fun r hr => by cases hr))
          go_wp2_with fail
          go_quiet (fail)
          generalize hW : World.drewN _ _ = W
          have hEW : Ext Z W := by rw [← hW]; exact (Ext.refl _).drewN _
          clear hW
          replace e0 := hEW.cell e0
          replace e1 := hEW.cell e1
          replace hE := hE.trans hEW
          replace hown := hown.ext hEW
          replace hat4 := hat4.ext hEW
          replace hat5 := hat5.ext hEW
          go_wp2_with fail
          apply wp_region_par' 12 (by kernel_rfl) (by kernel_rfl) rfl
          simp only [List.take_succ_cons, List.take_zero, List.drop_succ_cons, List.drop_zero]
          generalize hW2 : World.drew _ = W2
          have hEW2 : Ext W W2 := by rw [← hW2]; exact Ext.drew _
          clear hW2
          have z0 := fun z : Later W2 => z.cell (hEW2.cell e0)
          have z1 := fun z : Later W2 => z.cell (hEW2.cell e1)
          iterate 11
            refine parW_step rfl (fun K hK => ?_)
            apply Exists.intro
            refine ⟨fun z => ?_, ?_⟩
            focus
              go_simp
              first
                | rfl
                | fail
            go_simp
            refine hK _ ?_
            clear hK K
          refine parW_newRow (t := 59) (n := 1) (cs := #[.int .i64 lo, .int .i64 hi]) rfl rfl rfl (by simp) (fun w1 => by kernel_rfl) ?_
          refine parW_fin (fun z => ?_)
          rintro v1 ⟨b0, rfl, hb0, hbx⟩ hp
          clear hp
          have hEz := hEW2.later z
          clear z0 z1
          replace hE := hE.trans hEz
          replace hown := hown.ext hEz
          replace hat4 := hat4.ext hEz
          replace hat5 := hat5.ext hEz
          have hrow := EL.rowOne (E := arrE) (x := (lo, hi)) hbx rfl
          generalize z.val = Z2 at *
          clear z hEz hEW2 hEW
          have hsz := hE.size
          go_wp2_with (at_builtin; refine EL.wpApp arrE rfl _ _ rfl w.heap.size _ _ [] [(lo, hi)] rfl rfl hown hrow (by simp) hsz ?_; intro v1 W1 own1 gr1 _)
          have hE4 := growExt hE hown (Nat.le_refl _) gr1
          replace hat4 := hat4.grown hown (by decide) gr1
          replace hat5 := hat5.grown hown (by decide) gr1
          go_roundw
          case rel => exact ⟨k + 1, _, .inl hlt, by go_num, hE4, hat4, hat5, own1, by simp, HR2⟩
          case measure => simp [intOf]; omega
        · rw [List.concat_eq_append] at e
          subst e
          obtain ⟨g, cap, rfl, hgB, hcap⟩ := hown.head (by simp)
          obtain ⟨m, hm⟩ : ∃ m, R'.length = m := ⟨_, rfl⟩
          have hlen : (R' ++ [(a0, l0)]).length = m + 1 := by simp [hm]
          have y0 := hown.cell (i := m) (j := 1) (x := (a0, l0)) (by rw [← hm]; simp) rfl
          have yf := hown.frozen (i := m * 2 + 1)
          have e2s : arrE.size = 2 := rfl
          rw [e2s] at y0
          have hmk : m + 1 ≤ k := by rw [← hlen]; exact hRk
          obtain ⟨N2, hN2⟩ : ∃ N2, (R' ++ [(a0, l0)]).length = N2 := ⟨_, rfl⟩
          have hN2m : N2 = m + 1 := by rw [← hN2, hlen]
          rw [hN2] at hown hcap ⊢
          have w1' : IntKind.i64.wrap ((N2 : Int) - 1) = (m : Int) := (IntWalk.i64_in _ (by omega)).trans (by omega)
          have p0 : 0 < N2 := by omega
          have p1 : m < N2 := by omega
          have HN2' := Lib.hid hN2
          have HN2m := Lib.hid hN2m
          have HM2 := Lib.hid hm
          clear hN2 hN2m hlen hm e2s hRk
          by_cases hfl : l0 = lo
          · subst hfl
            have HR2 := Lib.hid (RunsTo.grow HR.out HCUT.out HLO.out HHI.out HT.out)
            have d1 : (l0 == l0) = true := by simp
            go_wp2_with fail
            go_quiet (fail)
            generalize hW : World.drewN _ _ = W
            have hEW : Ext Z W := by rw [← hW]; exact (Ext.refl _).drewN _
            clear hW
            replace e0 := hEW.cell e0
            replace e1 := hEW.cell e1
            replace hE := hE.trans hEW
            replace hown := hown.ext hEW
            replace hat4 := hat4.ext hEW
            replace hat5 := hat5.ext hEW
            replace y0 := hEW.cell y0
            clear yf hEW
            go_wp2_with fail
            apply wp_region_par' 10 (by kernel_rfl) (by kernel_rfl) rfl
            simp only [List.take_succ_cons, List.take_zero, List.drop_succ_cons, List.drop_zero]
            generalize hW2 : World.drew _ = W2
            have hEW2 : Ext W W2 := by rw [← hW2]; exact Ext.drew _
            clear hW2
            have z0 := fun z : Later W2 => z.cell (hEW2.cell e0)
            have z1 := fun z : Later W2 => z.cell (hEW2.cell e1)
            iterate 10
              refine parW_step rfl (fun K hK => ?_)
              apply Exists.intro
              refine ⟨fun z => ?_, ?_⟩
              focus
                go_simp
                first
                  | rfl
                  | fail
              go_simp
              refine hK _ ?_
              clear hK K
            refine parW_end (fun z => ?_)
            have hEz := hEW2.later z
            clear z0 z1
            replace y0 := hEz.cell y0
            replace hE := hE.trans hEz
            replace hown := hown.ext hEz
            replace hat4 := hat4.ext hEz
            replace hat5 := hat5.ext hEz
            generalize z.val = Z2 at *
            clear z hEz hEW2
            have yf := hown.frozen (i := m * 2 + 1)
            have hset := hown.setAt (i := m) (j := 1) (x := (a0, l0)) (y := (a0, hi)) (v := .int .i64 hi) (by rw [← HM2.out]; simp) (by decide) rfl
            have e3 : (R' ++ [(a0, l0)]).set m (a0, hi) = R' ++ [(a0, hi)] := by rw [← HM2.out]; exact set_last _ _ _
            rw [e3] at hset
            have hBx : ∃ cu, Box Z2 g 59 cu := by
              obtain ⟨cu, _, _, h, _⟩ := hown.opened
              exact ⟨cu, h⟩
            obtain ⟨cu, hBx⟩ := hBx
            replace hat4 := hat4.set (F := arrE) (i := m * 2 + 1) (u := .int .i64 hi) hBx (by decide)
            replace hat5 := hat5.set (F := arrE) (i := m * 2 + 1) (u := .int .i64 hi) hBx (by decide)
            have hE4 := hE.setNew (b := g) hgB (m * 2 + 1) (.int .i64 hi)
            have HSET := Lib.hid hset
            clear hset e3 hown hBx
            go_wp2
            go_roundw
            case rel => exact ⟨k + 1, R' ++ [(a0, hi)], .inl hlt, by go_num, hE4, hat4, hat5, HSET.out, by rw [List.length_append, HM2.out]; simp; omega, HR2⟩
            case measure => simp [intOf]; omega
          · have HR2 := Lib.hid (HR.out.push HCUT.out HLO.out HHI.out HT.out (fun r hr => by
              rw [List.getLast?_append] at hr
              simp at hr
              subst hr
              exact hfl))
            have d1 : (l0 == lo) = false := by simpa using hfl
            have d2 : (l0 = lo) = False := eq_false hfl
            have HLL := Lib.hid (show (R' ++ [(a0, l0)]).length + ([(lo, hi)] : List Run).length ≤ 1000000000 from by rw [HN2'.out, HN2m.out]; simp; omega)
            clear hfl
            go_wp2_with fail
            go_quiet (fail)
            generalize hW : World.drewN _ _ = W
            have hEW : Ext Z W := by rw [← hW]; exact (Ext.refl _).drewN _
            clear hW
            replace e0 := hEW.cell e0
            replace e1 := hEW.cell e1
            replace hE := hE.trans hEW
            replace hown := hown.ext hEW
            replace hat4 := hat4.ext hEW
            replace hat5 := hat5.ext hEW
            go_wp2_with fail
            apply wp_region_par' 12 (by kernel_rfl) (by kernel_rfl) rfl
            simp only [List.take_succ_cons, List.take_zero, List.drop_succ_cons, List.drop_zero]
            generalize hW2 : World.drew _ = W2
            have hEW2 : Ext W W2 := by rw [← hW2]; exact Ext.drew _
            clear hW2
            have z0 := fun z : Later W2 => z.cell (hEW2.cell e0)
            have z1 := fun z : Later W2 => z.cell (hEW2.cell e1)
            iterate 11
              refine parW_step rfl (fun K hK => ?_)
              apply Exists.intro
              refine ⟨fun z => ?_, ?_⟩
              focus
                go_simp
                first
                  | rfl
                  | fail
              go_simp
              refine hK _ ?_
              clear hK K
            refine parW_newRow (t := 59) (n := 1) (cs := #[.int .i64 lo, .int .i64 hi]) rfl rfl rfl (by simp) (fun w1 => by kernel_rfl) ?_
            refine parW_fin (fun z => ?_)
            rintro v1 ⟨b0, rfl, hb0, hbx⟩ hp
            clear hp
            have hEz := hEW2.later z
            clear z0 z1
            replace hE := hE.trans hEz
            replace hown := hown.ext hEz
            replace hat4 := hat4.ext hEz
            replace hat5 := hat5.ext hEz
            have hrow := EL.rowOne (E := arrE) (x := (lo, hi)) hbx rfl
            generalize z.val = Z2 at *
            clear z hEz hEW2 hEW
            have hsz := hE.size
            go_wp2_with (at_builtin; refine EL.wpApp arrE rfl _ _ rfl w.heap.size _ _ (R' ++ [(a0, l0)]) [(lo, hi)] rfl rfl hown hrow HLL.out hsz ?_; intro v1 W1 own1 gr1 _)
            have hE4 := growExt hE hown (Nat.le_refl _) gr1
            replace hat4 := hat4.grown hown (by decide) gr1
            replace hat5 := hat5.grown hown (by decide) gr1
            go_roundw
            case rel => exact ⟨k + 1, _, .inl hlt, by go_num, hE4, hat4, hat5, own1, by rw [List.length_append, HN2'.out, HN2m.out]; simp; omega, HR2⟩
            case measure => simp [intOf]; omega
    · have dk : ((k : Int) + 1 < (M : Int)) = False := eq_false (by omega)
      obtain ⟨A6, c6, rfl, _, _⟩ := hown.len
      have HEND := Lib.hid (HR.out.end HCUT.out (by rw [HM.out]; omega) (hk.imp (fun h => by rw [HM.out]; exact h) (fun h => List.eq_nil_of_length_eq_zero (by rw [HM.out]; exact h.2))))
      go_wp2
      go_ret
      exact ⟨_, R, rfl, hE, hown, by omega, HEND.out⟩
end Go.Proofs.YtkjpcjmbhpfelaaGreat
