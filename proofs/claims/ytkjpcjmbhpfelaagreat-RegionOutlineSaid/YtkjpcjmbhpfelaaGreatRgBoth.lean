/- both: the runs of the columns that keep lets by. -/
import Derived.Test.YtkjpcjmbhpfelaaGreatRgRow
import Derived.Test.YtkjpcjmbhpfelaaGreatRgCon
set_option linter.unusedVariables false
set_option linter.unusedSimpArgs false
namespace Go.Par
theorem EL.rowBox {P : Program} {α : Type} {E : EL P α} {w : World} {b n : Nat} {cs : Array Value} {l : List α} (h : Box w b E.t cs) (hc : cs.toList = E.cells l) (hn : l.length = n) (hb : n ≤ 17592186044416) : E.Row w (.slice (some ⟨b, 0, none⟩) n n) l :=
  ⟨_, _, by rw [hn], by rw [hn]; exact Nat.le_refl _, by rw [hn]; exact hb, EL.At.box h fun j v hv => by rw [← hc] at hv; simpa using hv⟩
end Go.Par
namespace Go.Proofs.YtkjpcjmbhpfelaaGreat
open Go.RowKit Go.Par Go.Reg

theorem ends_append (l m : List Run) : ends (l ++ m) = ends l ++ ends m := List.flatMap_append
theorem ends_len (l : List Run) : (ends l).length = 2 * l.length := by
  induction l with
  | nil => rfl
  | cons r l ih =>
    have e : ends (r :: l) = r.1 :: r.2 :: ends l := rfl
    rw [e]; simp only [List.length_cons, ih]; omega
/-- keep: a function that only reckons -/
def KeepF (f : FuncId) (keep : Bool → Bool → Bool) : Prop :=
  (∀ args w, (callFunc f args).run Tryz.prog w = .ok (.enter f args) w) ∧ ∀ (p q : Bool) (W : World), Calls Tryz.prog f #[.bool p, .bool q] W fun e w' => e = .returned (.bool (keep p q)) ∧ W = w'
theorem either_keep : KeepF 29 (fun p q => p || q) := by
  refine ⟨enters_of Tryz.func29 (by kernel_rfl) rfl, fun p q W => ?_⟩
  show Calls Tryz.prog 29 #[.bool p, .bool q] W _
  cases p
  all_goals
    go_enter Tryz.func29, Tryz.ntmps29
    go_wp2
    go_ret
    exact ⟨ret_eq (by simp), rfl⟩
theorem sub_keep : KeepF 31 (fun p q => p && !q) := by
  refine ⟨enters_of Tryz.func31 (by kernel_rfl) rfl, fun p q W => ?_⟩
  show Calls Tryz.prog 31 #[.bool p, .bool q] W _
  cases p
  all_goals
    cases q
    all_goals
      go_enter Tryz.func31, Tryz.ntmps31
      go_wp2
      go_ret
      exact ⟨ret_eq (by simp), rfl⟩
set_option maxRecDepth 100000 in
set_option maxHeartbeats 3200000 in
theorem both_any (a b : List Run) (A1 A2 : Option Addr) (n1 c1 n2 c2 : Nat) (f : FuncId) (keep : Bool → Bool → Bool) (w : World) (hn1 : a.length = n1) (hn2 : b.length = n2) (hc1 : n1 ≤ c1) (hc2 : n2 ≤ c2) (hb1 : n1 ≤ 400000) (hb2 : n2 ≤ 400000)
    (h1 : runE.At w A1 a) (h2 : runE.At w A2 b) (hK : KeepF f keep) (hk0 : keep false false = false) :
    Calls Tryz.prog 46 #[.slice A1 n1 c1, .slice A2 n2 c2, .func (.func f) #[] #[]] w fun e w' => ∃ v R, e = .returned v ∧ Ext w w' ∧ runE.Own w' w.heap.size v R ∧ R.length ≤ 2 * (n1 + n2) ∧ OKR R ∧ ∀ x, inRuns R x = keep (inRuns a x) (inRuns b x) := by
  obtain ⟨eg, hK⟩ := hK
  have HK := Lib.hid hK
  have HN1 := Lib.hid hn1
  have HN2 := Lib.hid hn2
  have HK0 := Lib.hid hk0
  clear hK hn1 hn2 hk0
  have HCON := Lib.hid (fun (W : World) (bb : Nat) (k : Ext w W) (hB : Box W bb 85 #[.slice A1 n1 c1, .slice A2 n2 c2]) => Concat_any [a, b] [(A1, n1, c1), (A2, n2, c2)] (some ⟨bb, 0, none⟩) 2 2 W rfl (by omega) (EL.At.box hB fun j v hv => by simpa [EL.cells, slRE] using hv) ⟨rfl, fun i l hl => by
    match i with
    | 0 => simp at hl; subst hl; exact ⟨A1, n1, c1, rfl, HN1.out, hc1, by omega, h1.ext k⟩
    | 1 => simp at hl; subst hl; exact ⟨A2, n2, c2, rfl, HN2.out, hc2, by omega, h2.ext k⟩
    | i + 2 => simp at hl⟩ (by unfold lenS; simp; rw [HN1.out, HN2.out]; omega))
  have HWA := Lib.hid (fun (W : World) (x : Int) (k : Ext w W) => within_any a A1 n1 c1 x W HN1.out (by omega) (h1.ext k))
  have HWB := Lib.hid (fun (W : World) (x : Int) (k : Ext w W) => within_any b A2 n2 c2 x W HN2.out (by omega) (h2.ext k))
  have HLEN := Lib.hid (show (a ++ b).length = n1 + n2 from by rw [List.length_append, HN1.out, HN2.out])
  clear h1 h2
  have hE0 := Ext.alloc w (.cells #[.slice A1 n1 c1, .slice A2 n2 c2] 85)
  have b0 := Box.new w 85 #[.slice A1 n1 c1, .slice A2 n2 c2]
  go_enter Tryz.func46, Tryz.ntmps46
  go_wp2_with fail
  refine (HCON.out _ _ hE0 b0).mono ?_
  rintro e w1 ⟨v, rfl, hE1, hown⟩
  have hef : [a, b].flatten = a ++ b := by simp
  rw [hef] at hown
  replace hE1 := hE0.trans hE1
  obtain ⟨N, hN⟩ : ∃ N, n1 + n2 = N := ⟨_, rfl⟩
  rw [hN] at HLEN
  have HNN := Lib.hid hN
  have hNb : N ≤ 800000 := by omega
  obtain ⟨A3, c3, rfl, hNc, hat⟩ := hown.at HLEN.out (by omega)
  clear hown hef hE0 b0 hN
  go_wp2_with fail
  go_loopw [7, 18] (fun s i wr => ∃ k : Nat, k ≤ N ∧ i = .int .i64 k ∧ Ext w1 wr ∧ intE.Own wr w1.heap.size s (ends ((a ++ b).take k))) (fun _ i _ => N - (intOf i).toNat)
  case atStart => exact ⟨0, Nat.zero_le _, rfl, Ext.refl _, EL.Own.nil _ _⟩
  case round =>
    obtain ⟨k, hk, rfl, hE, hown⟩ := hrel
    by_cases hlt : k < N
    · have dk : ((k : Int) < (N : Int)) = True := eq_true (by omega)
      obtain ⟨⟨f0, t0⟩, hlk⟩ : ∃ q, (a ++ b)[k]? = some q := ⟨_, List.getElem?_eq_getElem (by rw [HLEN.out]; exact hlt)⟩
      obtain ⟨bb, o, rfl⟩ := hat.addr hlk
      obtain ⟨e0, e1⟩ := run_cell hat hlk
      replace e0 := hE.cell e0
      replace e1 := hE.cell e1
      dsimp only at e0 e1
      have HT := Lib.hid (show ends ((a ++ b).take (k + 1)) = ends ((a ++ b).take k) ++ [f0, t0] from by rw [take_snocG hlk, ends_append]; rfl)
      have hll : (ends ((a ++ b).take k)).length + ([f0, t0] : List Int).length ≤ 1000000000 := by
        rw [ends_len, List.length_take]; simp; omega
      have HLL := Lib.hid hll
      generalize hen : ends ((a ++ b).take k) = en at *
      clear hlk hll hen
      have hEa := (hE.trans (Ext.alloc wr (.cells #[.int .i64 f0, .int .i64 t0] 92))).trans (Ext.alloc _ (.cells #[.int .i64 f0, .int .i64 t0] 3))
      have hownA := (hown.ext (Ext.alloc wr (.cells #[.int .i64 f0, .int .i64 t0] 92))).ext (Ext.alloc _ (.cells #[.int .i64 f0, .int .i64 t0] 3))
      have hrow := EL.rowBox (E := intE) (l := [f0, t0]) (n := 2) (Box.at1 (w := wr) (o := .cells #[.int .i64 f0, .int .i64 t0] 92) (t := 3) (cs := #[.int .i64 f0, .int .i64 t0])) rfl rfl (by omega)
      have hsz := hEa.size
      clear hown
      go_wp2_with (at_builtin; refine EL.wpApp intE rfl _ _ rfl w1.heap.size _ _ en [f0, t0] rfl rfl hownA hrow HLL.out hsz ?_; intro v1 W1 own1 gr1 _)
      have hE2 := growExt hEa hownA (Nat.le_refl _) gr1
      go_roundw
      case rel => exact ⟨k + 1, by omega, by go_num, hE2, by rw [HT.out]; exact own1⟩
      case measure => simp [intOf]; omega
    · have dk : ((k : Int) < (N : Int)) = False := eq_false (by omega)
      have hek : ends ((a ++ b).take k) = ends (a ++ b) := by rw [List.take_of_length_le (by rw [HLEN.out]; omega)]
      rw [hek] at hown
      have HEL := Lib.hid (show (ends (a ++ b)).length ≤ 10000000 from by rw [ends_len, HLEN.out]; omega)
      have HELN := Lib.hid (show (ends (a ++ b)).length = 2 * N from by rw [ends_len, HLEN.out])
      clear hek
      have HS1 := Lib.hid (sortInts_any hown HEL.out)
      obtain ⟨A4, c4, rfl, _, _⟩ := hown.len
      go_wp2_with fail
      refine HS1.out.mono ?_
      rintro e w2 ⟨rfl, ys, hp, hs, hown2, hg2⟩
      have hE2 := growExt (hE1.trans hE) hown hE1.size hg2
      have HP := Lib.hid hp
      have HYL := Lib.hid (show ys.length ≤ 10000000 from by rw [hp.length_eq]; exact HEL.out)
      have HS2 := Lib.hid (compInts_any hown2 HYL.out hs)
      have hown2' := hown2
      have hlen2 := hp.length_eq
      clear hp hs hg2 hown hE HS1
      go_wp2_with fail
      refine HS2.out.mono ?_
      rintro e w3 ⟨v3, xs, rfl, hxs, hxm, hxl, hown3, hg3⟩
      have hE3 := growExt hE2 hown2' hE1.size hg3
      obtain ⟨M, hM⟩ : ∃ M, xs.length = M := ⟨_, rfl⟩
      have HM := Lib.hid hM
      have hMN : M ≤ 2 * N := by rw [← hM, ← HELN.out, ← hlen2]; exact hxl
      have hmem : ∀ v, v ∈ ends a ∨ v ∈ ends b → v ∈ xs := fun v hv => by
        rw [hxm, HP.out.mem_iff, ends_append, List.mem_append]
        exact hv
      have hcut := cuts_runs hxs HK0.out (fun v hv => hmem v (.inl hv)) (fun v hv => hmem v (.inr hv))
      have HCUT := Lib.hid hcut
      obtain ⟨A5, c5, rfl, hMc5, hat5⟩ := hown3.at hM (by omega)
      clear hxs hxm hxl hown3 hg3 hmem hcut hM hlen2 hown2 hown2' hE2 HS2 HYL HP
      go_wp2_with fail
      go_loopw [10, 11] (fun s i wr => ∃ (k : Nat) (R : List Run), (k < M ∨ (k = 0 ∧ M = 0)) ∧ i = .int .i64 k ∧ Ext w3 wr ∧ runE.Own wr w3.heap.size s R ∧ R.length ≤ k ∧ Hid (RunsTo xs (keepR keep a b) k R)) (fun _ i _ => M - (intOf i).toNat)
      case atStart => exact ⟨0, [], by omega, rfl, Ext.refl _, EL.Own.nil _ _, Nat.le_refl _, Lib.hid (RunsTo.start HCUT.out)⟩
      case round =>
        obtain ⟨k, R, hk, rfl, hE, hown, hRk, HR⟩ := hrel
        have q1 : IntKind.i64.wrap ((k : Int) + 1) = (k : Int) + 1 := IntWalk.i64_in _ (by omega)
        by_cases hlt : k + 1 < M
        · have dk : ((k : Int) + 1 < (M : Int)) = True := eq_true (by omega)
          obtain ⟨lo, hlo⟩ : ∃ q, xs[k]? = some q := ⟨_, List.getElem?_eq_getElem (by rw [HM.out]; omega)⟩
          obtain ⟨hi, hhi⟩ : ∃ q, xs[k + 1]? = some q := ⟨_, List.getElem?_eq_getElem (by rw [HM.out]; omega)⟩
          obtain ⟨bb, o, rfl⟩ := hat5.addr hlo
          have e0 := hE.cell (int_cell hat5 hlo)
          have e1 := hE.cell (int_cell hat5 hhi)
          have HLO := Lib.hid hlo
          have HHI := Lib.hid hhi
          have HWA' := Lib.hid (fun (W : World) (kk : Ext w W) => HWA.out W lo kk)
          have HWB' := Lib.hid (fun (W : World) (kk : Ext w W) => HWB.out W lo kk)
          have HT := Lib.hid (show keepR keep a b lo = keep (inRuns a lo) (inRuns b lo) from rfl)
          generalize inRuns a lo = p at *
          generalize inRuns b lo = q at *
          have HKV := Lib.hid (fun W => HK.out p q W)
          generalize keep p q = kv at *
          have k1 : k < M := by omega
          have n1 : (0 : Int) ≤ (k : Int) + 1 := by omega
          have n2 : ((k : Int) + 1).toNat = k + 1 := by omega
          clear hlo hhi hk
          have hEw := hE3.trans hE
          go_wp2_with fail
          apply wp_region_par' 15 (by kernel_rfl) (by kernel_rfl) rfl
          simp only [List.take_succ_cons, List.take_zero, List.drop_succ_cons, List.drop_zero]
          generalize hW : World.drew _ = W
          have hEW : Ext wr W := by rw [← hW]; exact Ext.drew _
          clear hW
          have z0 := fun z : Later W => z.cell (hEW.cell e0)
          replace hEw := hEw.trans hEW
          iterate 15
            refine parW_step rfl (fun K hK => ?_)
            apply Exists.intro
            refine ⟨fun z => ?_, ?_⟩
            focus
              go_simp
              first
                | rfl
                | with_reducible exact calls_val (HWA'.out _ (hEw.later z))
                | with_reducible exact calls_val (HWB'.out _ (hEw.later z))
                | with_reducible exact calls_same (HKV.out _)
            go_simp
            refine hK _ ?_
            clear hK K
          refine parW_end (fun z => ?_)
          have hEz := hEW.later z
          clear z0 hEw
          replace e0 := hEz.cell e0
          replace e1 := hEz.cell e1
          replace hE := hE.trans hEz
          replace hown := hown.ext hEz
          clear hEz hEW
          generalize z.val = Z at *
          clear z
          cases kv
          · have HR2 := Lib.hid (HR.out.skip HCUT.out HLO.out HHI.out HT.out)
            go_wp2
            go_roundw
            case rel => exact ⟨k + 1, R, .inl hlt, by go_num, hE, hown, by omega, HR2⟩
            case measure => simp [intOf]; omega
          · rcases List.eq_nil_or_concat R with e | ⟨R', ⟨a0, l0⟩, e⟩
            · subst e
              obtain ⟨A6, c6, rfl, _, _⟩ := hown.len
              have HR2 := Lib.hid (HR.out.push HCUT.out HLO.out HHI.out HT.out (fun r hr => by cases hr))
              go_wp2_with fail
              go_quiet (fail)
              generalize hW : World.drewN _ _ = W
              have hEW : Ext Z W := by rw [← hW]; exact (Ext.refl _).drewN _
              clear hW
              replace e0 := hEW.cell e0
              replace e1 := hEW.cell e1
              replace hE := hE.trans hEW
              replace hown := hown.ext hEW
              go_wp2_with fail
              apply wp_region_par' 12 (by kernel_rfl) (by kernel_rfl) rfl
              simp only [List.take_succ_cons, List.take_zero, List.drop_succ_cons, List.drop_zero]
              generalize hW2 : World.drew _ = W2
              have hEW2 : Ext W W2 := by rw [← hW2]; exact Ext.drew _
              clear hW2
              have z0 := fun z : Later W2 => z.cell (hEW2.cell e0)
              have z1 := fun z : Later W2 => z.cell (hEW2.cell e1)
              iterate 11
                refine parW_step rfl (fun K hK => ?_)
                apply Exists.intro
                refine ⟨fun z => ?_, ?_⟩
                focus
                  go_simp
                  first
                    | rfl
                    | fail
                go_simp
                refine hK _ ?_
                clear hK K
              refine parW_newRow (t := 92) (n := 1) (cs := #[.int .i64 lo, .int .i64 hi]) rfl rfl rfl (by simp) (fun w1 => by kernel_rfl) ?_
              refine parW_fin (fun z => ?_)
              rintro v1 ⟨b0, rfl, hb0, hbx⟩ hp
              clear hp
              have hEz := hEW2.later z
              clear z0 z1
              replace hE := hE.trans hEz
              replace hown := hown.ext hEz
              have hrow := EL.rowOne (E := runE) (x := (lo, hi)) hbx rfl
              generalize z.val = Z2 at *
              clear z hEz hEW2 hEW
              have hsz := hE.size
              go_wp2_with (at_builtin; refine EL.wpApp runE rfl _ _ rfl w3.heap.size _ _ [] [(lo, hi)] rfl rfl hown hrow (by simp) hsz ?_; intro v1 W1 own1 gr1 _)
              have hE4 := growExt hE hown (Nat.le_refl _) gr1
              go_roundw
              case rel => exact ⟨k + 1, _, .inl hlt, by go_num, hE4, own1, by simp, HR2⟩
              case measure => simp [intOf]; omega
            · rw [List.concat_eq_append] at e
              subst e
              obtain ⟨g, cap, rfl, hgB, hcap⟩ := hown.head (by simp)
              obtain ⟨m, hm⟩ : ∃ m, R'.length = m := ⟨_, rfl⟩
              have hlen : (R' ++ [(a0, l0)]).length = m + 1 := by simp [hm]
              have y0 := hown.cell (i := m) (j := 1) (x := (a0, l0)) (by rw [← hm]; simp) rfl
              have yf := hown.frozen (i := m * 2 + 1)
              have e2s : runE.size = 2 := rfl
              rw [e2s] at y0
              have hmk : m + 1 ≤ k := by rw [← hlen]; exact hRk
              obtain ⟨N2, hN2⟩ : ∃ N2, (R' ++ [(a0, l0)]).length = N2 := ⟨_, rfl⟩
              have hN2m : N2 = m + 1 := by rw [← hN2, hlen]
              rw [hN2] at hown hcap ⊢
              have w1' : IntKind.i64.wrap ((N2 : Int) - 1) = (m : Int) := (IntWalk.i64_in _ (by omega)).trans (by omega)
              have p0 : 0 < N2 := by omega
              have p1 : m < N2 := by omega
              have HN2' := Lib.hid hN2
              have HN2m := Lib.hid hN2m
              have HM2 := Lib.hid hm
              clear hN2 hN2m hlen hm e2s hRk
              by_cases hfl : l0 = lo
              · subst hfl
                have HR2 := Lib.hid (RunsTo.grow HR.out HCUT.out HLO.out HHI.out HT.out)
                have d1 : (l0 == l0) = true := by simp
                go_wp2_with fail
                go_quiet (fail)
                generalize hW : World.drewN _ _ = W
                have hEW : Ext Z W := by rw [← hW]; exact (Ext.refl _).drewN _
                clear hW
                replace e0 := hEW.cell e0
                replace e1 := hEW.cell e1
                replace hE := hE.trans hEW
                replace hown := hown.ext hEW
                replace y0 := hEW.cell y0
                clear yf hEW
                have yf := hown.frozen (i := m * 2 + 1)
                have hset := hown.setAt (i := m) (j := 1) (x := (a0, l0)) (y := (a0, hi)) (v := .int .i64 hi) (by rw [← HM2.out]; simp) (by decide) rfl
                have e3 : (R' ++ [(a0, l0)]).set m (a0, hi) = R' ++ [(a0, hi)] := by rw [← HM2.out]; exact set_last _ _ _
                rw [e3] at hset
                have hE4 := hE.setNew (b := g) hgB (m * 2 + 1) (.int .i64 hi)
                have HSET := Lib.hid hset
                clear hset e3 hown
                go_wp2
                go_roundw
                case rel => exact ⟨k + 1, R' ++ [(a0, hi)], .inl hlt, by go_num, hE4, HSET.out, by rw [List.length_append, HM2.out]; simp; omega, HR2⟩
                case measure => simp [intOf]; omega
              · have HR2 := Lib.hid (HR.out.push HCUT.out HLO.out HHI.out HT.out (fun r hr => by
                  rw [List.getLast?_append] at hr
                  simp at hr
                  subst hr
                  exact hfl))
                have d1 : (l0 == lo) = false := by simpa using hfl
                have d2 : (l0 = lo) = False := eq_false hfl
                have HLL := Lib.hid (show (R' ++ [(a0, l0)]).length + ([(lo, hi)] : List Run).length ≤ 1000000000 from by rw [HN2'.out, HN2m.out]; simp; omega)
                clear hfl
                go_wp2_with fail
                go_quiet (fail)
                generalize hW : World.drewN _ _ = W
                have hEW : Ext Z W := by rw [← hW]; exact (Ext.refl _).drewN _
                clear hW
                replace e0 := hEW.cell e0
                replace e1 := hEW.cell e1
                replace hE := hE.trans hEW
                replace hown := hown.ext hEW
                go_wp2_with fail
                apply wp_region_par' 12 (by kernel_rfl) (by kernel_rfl) rfl
                simp only [List.take_succ_cons, List.take_zero, List.drop_succ_cons, List.drop_zero]
                generalize hW2 : World.drew _ = W2
                have hEW2 : Ext W W2 := by rw [← hW2]; exact Ext.drew _
                clear hW2
                have z0 := fun z : Later W2 => z.cell (hEW2.cell e0)
                have z1 := fun z : Later W2 => z.cell (hEW2.cell e1)
                iterate 11
                  refine parW_step rfl (fun K hK => ?_)
                  apply Exists.intro
                  refine ⟨fun z => ?_, ?_⟩
                  focus
                    go_simp
                    first
                      | rfl
                      | fail
                  go_simp
                  refine hK _ ?_
                  clear hK K
                refine parW_newRow (t := 92) (n := 1) (cs := #[.int .i64 lo, .int .i64 hi]) rfl rfl rfl (by simp) (fun w1 => by kernel_rfl) ?_
                refine parW_fin (fun z => ?_)
                rintro v1 ⟨b0, rfl, hb0, hbx⟩ hp
                clear hp
                have hEz := hEW2.later z
                clear z0 z1
                replace hE := hE.trans hEz
                replace hown := hown.ext hEz
                have hrow := EL.rowOne (E := runE) (x := (lo, hi)) hbx rfl
                generalize z.val = Z2 at *
                clear z hEz hEW2 hEW
                have hsz := hE.size
                go_wp2_with (at_builtin; refine EL.wpApp runE rfl _ _ rfl w3.heap.size _ _ (R' ++ [(a0, l0)]) [(lo, hi)] rfl rfl hown hrow HLL.out hsz ?_; intro v1 W1 own1 gr1 _)
                have hE4 := growExt hE hown (Nat.le_refl _) gr1
                go_roundw
                case rel => exact ⟨k + 1, _, .inl hlt, by go_num, hE4, own1, by rw [List.length_append, HN2'.out, HN2m.out]; simp; omega, HR2⟩
                case measure => simp [intOf]; omega
        · have dk : ((k : Int) + 1 < (M : Int)) = False := eq_false (by omega)
          obtain ⟨A6, c6, rfl, _, _⟩ := hown.len
          have HEND := Lib.hid (HR.out.end HCUT.out (by rw [HM.out]; omega) (hk.imp (fun h => by rw [HM.out]; exact h) (fun h => List.eq_nil_of_length_eq_zero (by rw [HM.out]; exact h.2))))
          have hw3 := hE3.size
          go_wp2
          go_ret
          exact ⟨_, R, rfl, hE3.trans hE, hown.lower hw3, by rw [HNN.out]; omega, HEND.out.1, HEND.out.2⟩
end Go.Proofs.YtkjpcjmbhpfelaaGreat
