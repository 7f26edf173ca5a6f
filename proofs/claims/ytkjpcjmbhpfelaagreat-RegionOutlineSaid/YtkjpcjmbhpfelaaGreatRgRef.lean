/- The reference: edges, at, Contains, is, like. -/
import Derived.Test.YtkjpcjmbhpfelaaGreatRgPut
import Derived.Deep.MidRow
set_option linter.unusedVariables false
set_option linter.unusedSimpArgs false
namespace Go.Proofs.YtkjpcjmbhpfelaaGreat
open Go.RowKit Go.Par Go.Reg

theorem edgesX_append (l m : List R4) : edgesX (l ++ m) = edgesX l ++ edgesX m := List.flatMap_append
theorem edgesX_one (r : R4) : edgesX [r] = if rectEmptyS r then [] else [r.1, r.2.2.1] := by simp [edgesX]
set_option maxRecDepth 100000 in
set_option maxHeartbeats 1600000 in
theorem rEdges_any (l : List R4) (A : Option Addr) (n c : Nat) (v1 v2 : Value) (S1 S2 : Int → Prop) (w : World) (hn : l.length = n) (hnb : n ≤ 1000000) (hA : rectE.At w A l) (h1 : SetV S1 v1 w) (h2 : SetV S2 v2 w) :
    Calls Tryz.prog 21 #[.slice A n c, v1, v2] w fun e w' => ∃ u1 u2, e = .returned (.tuple #[u1, u2]) ∧ Ext w w' ∧ SetV (fun x => S1 x ∨ x ∈ edgesX l) u1 w' ∧ SetV (fun y => S2 y ∨ y ∈ edgesY l) u2 w' := by
  have HN := Lib.hid hn
  have HEM := Lib.hid (fun a b c d W => rectEmpty_any a b c d W)
  clear hn
  go_enter Tryz.func21, Tryz.ntmps21
  go_wp2_with fail
  go_loopw [1, 2, 8] (fun a b i wr => ∃ k : Nat, k ≤ n ∧ i = .int .i64 k ∧ Ext w wr ∧ SetV (fun x => S1 x ∨ x ∈ edgesX (l.take k)) a wr ∧ SetV (fun y => S2 y ∨ y ∈ edgesY (l.take k)) b wr) (fun _ _ i _ => n - (intOf i).toNat)
  case atStart => exact ⟨0, Nat.zero_le _, rfl, Ext.refl _, h1.congr fun x => by simp [edgesX], h2.congr fun x => by simp [edgesY]⟩
  case round =>
    clear h1 h2
    obtain ⟨k, hk, rfl, hE, ha, hb⟩ := hrel
    by_cases hlt : k < n
    · have dk : ((k : Int) < (n : Int)) = True := eq_true (by omega)
      obtain ⟨⟨x0, x1, x2, x3⟩, hlk⟩ : ∃ q, l[k]? = some q := ⟨_, List.getElem?_eq_getElem (by rw [HN.out]; exact hlt)⟩
      obtain ⟨b, o, rfl⟩ := hA.addr hlk
      obtain ⟨e0, e1, e2, e3⟩ := rect_cell hA hlk
      replace e0 := hE.cell e0
      replace e1 := hE.cell e1
      replace e2 := hE.cell e2
      replace e3 := hE.cell e3
      dsimp only at e0 e1 e2 e3
      have HX := Lib.hid (show edgesX (l.take (k + 1)) = edgesX (l.take k) ++ edgesX [(x0, x1, x2, x3)] from by rw [take_snocG hlk, edgesX_append])
      have HY := Lib.hid (show edgesY (l.take (k + 1)) = edgesY (l.take k) ++ edgesY [(x0, x1, x2, x3)] from by rw [take_snocG hlk, edgesY_append])
      generalize edgesX (l.take k) = EX at *
      generalize edgesY (l.take k) = EY at *
      clear hlk
      go_wp2_with fail
      refine (HEM.out x0 x1 x2 x3 _).mono ?_
      rintro e wx ⟨rfl, hE1⟩
      replace e0 := hE1.cell e0
      replace e1 := hE1.cell e1
      replace e2 := hE1.cell e2
      replace e3 := hE1.cell e3
      replace ha := SetV.stable _ _ _ _ ha hE1
      replace hb := SetV.stable _ _ _ _ hb hE1
      replace hE := hE.trans hE1
      clear hE1
      cases hem : rectEmptyS (x0, x1, x2, x3)
      · have hbd := empty_false hem
        dsimp only at hbd
        have HX2 := Lib.hid (show edgesX [(x0, x1, x2, x3)] = [x0, x2] from by rw [edgesX_one, hem]; rfl)
        have HY2 := Lib.hid (show edgesY [(x0, x1, x2, x3)] = [x1, x3] from by rw [edgesY_one, hem]; rfl)
        clear hem
        go_wp2_with fail
        apply wp_region_par' 13 (by kernel_rfl) (by kernel_rfl) rfl
        simp only [List.take_succ_cons, List.take_zero, List.drop_succ_cons, List.drop_zero]
        generalize hW : World.drew _ = W5
        have hEW : Ext wx W5 := by rw [← hW]; exact Ext.drew _
        clear hW
        have z0 := fun z : Later W5 => z.cell (hEW.cell e0)
        have z1 := fun z : Later W5 => z.cell (hEW.cell e2)
        iterate 6
          refine parW_step rfl (fun K hK => ?_)
          apply Exists.intro
          refine ⟨fun z => ?_, ?_⟩
          focus
            go_simp
            first
              | rfl
              | fail
          go_simp
          refine hK _ ?_
          clear hK K
        refine parW_rel rfl (SetV.stable (fun x => (fun x => S1 x ∨ x ∈ EX) x ∨ x = x0)) (fun x => ?_) ?_
        · have hc := put_any _ _ x0 x.val (SetV.stable _ _ _ _ ha (hEW.later x)) (by omega)
          simp only [Giv]
          go_simp
          exact calls_rel hc
        iterate 5
          refine parW_step rfl (fun K hK => ?_)
          apply Exists.intro
          refine ⟨fun z => ?_, ?_⟩
          focus
            go_simp
            first
              | rfl
              | fail
          go_simp
          refine hK _ ?_
          clear hK K
        refine parW_rel rfl (SetV.stable (fun x => ((fun x => S1 x ∨ x ∈ EX) x ∨ x = x0) ∨ x = x2)) (fun x => ?_) ?_
        · intro v1 hv1
          have g1 := hv1 (show Nat.testBit _ _ = true from by kernel_rfl)
          have hc := put_any _ _ x2 x.val g1 (by omega)
          simp only [Giv]
          go_simp
          exact calls_rel hc
        refine parW_fin (fun z => ?_)
        rintro v1 hv1 v2 hv2 hp
        simp only [Act.put, List.setIfInBounds_toArray, List.set_cons_succ, List.set_cons_zero]
        clear hv1 hp
        have hEz := hEW.later z
        clear z0 z1
        replace e1 := hEz.cell e1
        replace e3 := hEz.cell e3
        replace hb := SetV.stable _ _ _ _ hb hEz
        replace hE := hE.trans hEz
        have HV := Lib.hid hv2
        clear hEz hEW e0 e2 ha hv2
        generalize z.val = Z5 at *
        clear z wx
        generalize Z5 = wx at *
        go_wp2_with fail
        apply wp_region_par' 13 (by kernel_rfl) (by kernel_rfl) rfl
        simp only [List.take_succ_cons, List.take_zero, List.drop_succ_cons, List.drop_zero]
        generalize hW : World.drew _ = W6
        have hEW : Ext wx W6 := by rw [← hW]; exact Ext.drew _
        clear hW
        have z0 := fun z : Later W6 => z.cell (hEW.cell e1)
        have z1 := fun z : Later W6 => z.cell (hEW.cell e3)
        iterate 6
          refine parW_step rfl (fun K hK => ?_)
          apply Exists.intro
          refine ⟨fun z => ?_, ?_⟩
          focus
            go_simp
            first
              | rfl
              | fail
          go_simp
          refine hK _ ?_
          clear hK K
        refine parW_rel rfl (SetV.stable (fun x => (fun x => S2 x ∨ x ∈ EY) x ∨ x = x1)) (fun x => ?_) ?_
        · have hc := put_any _ _ x1 x.val (SetV.stable _ _ _ _ hb (hEW.later x)) (by omega)
          simp only [Giv]
          go_simp
          exact calls_rel hc
        iterate 5
          refine parW_step rfl (fun K hK => ?_)
          apply Exists.intro
          refine ⟨fun z => ?_, ?_⟩
          focus
            go_simp
            first
              | rfl
              | fail
          go_simp
          refine hK _ ?_
          clear hK K
        refine parW_rel rfl (SetV.stable (fun x => ((fun x => S2 x ∨ x ∈ EY) x ∨ x = x1) ∨ x = x3)) (fun x => ?_) ?_
        · intro v1 hv1
          have g1 := hv1 (show Nat.testBit _ _ = true from by kernel_rfl)
          have hc := put_any _ _ x3 x.val g1 (by omega)
          simp only [Giv]
          go_simp
          exact calls_rel hc
        refine parW_fin (fun z => ?_)
        rintro v1 hv1 v2 hv2 hp
        simp only [Act.put, List.setIfInBounds_toArray, List.set_cons_succ, List.set_cons_zero]
        clear hv1 hp
        have hEz := hEW.later z
        clear z0 z1
        have hva := SetV.stable _ _ _ _ HV.out hEz
        replace hE := hE.trans hEz
        clear hEz hEW
        generalize z.val = Z6 at *
        clear z
        have HVA := Lib.hid hva
        have HVB := Lib.hid hv2
        clear hva hv2 e1 e3 hb
        go_wp2
        go_roundw
        case rel => exact ⟨k + 1, by omega, by go_num, hE, HVA.out.congr fun x => by rw [HX.out, HX2.out]; simp [or_assoc], HVB.out.congr fun x => by rw [HY.out, HY2.out]; simp [or_assoc]⟩
        case measure => simp [intOf]; omega
      · have HX2 := Lib.hid (show edgesX [(x0, x1, x2, x3)] = [] from by rw [edgesX_one, hem]; rfl)
        have HY2 := Lib.hid (show edgesY [(x0, x1, x2, x3)] = [] from by rw [edgesY_one, hem]; rfl)
        clear hem
        go_wp2
        go_roundw
        case rel => exact ⟨k + 1, by omega, by go_num, hE, ha.congr fun x => by rw [HX.out, HX2.out, List.append_nil], hb.congr fun x => by rw [HY.out, HY2.out, List.append_nil]⟩
        case measure => simp [intOf]; omega
    · have dk : ((k : Int) < (n : Int)) = False := eq_false (by omega)
      have HF := Lib.hid (show l.take k = l from List.take_of_length_le (by rw [HN.out]; omega))
      rw [HF.out] at ha hb
      have HA' := Lib.hid ha
      have HB' := Lib.hid hb
      clear ha hb
      go_wp2
      exact bodyPost_ret (v := .tuple #[_, _]) (by simp [results, Tryz.results21, go_sem]) rfl ⟨_, _, rfl, hE, HA'.out, HB'.out⟩
set_option maxRecDepth 100000 in
set_option maxHeartbeats 1600000 in
theorem at_any (l : List R4) (A : Option Addr) (n c : Nat) (y : Int) (w : World) (hn : l.length = n) (hnb : n ≤ 1000000) (hA : rectE.At w A l) :
    Calls Tryz.prog 90 #[.slice A n c, .int .i64 y] w fun e w' => ∃ v, e = .returned v ∧ Ext w w' ∧ rectE.Own w' w.heap.size v (l.filter (inRow y)) := by
  have HN := Lib.hid hn
  have HEM := Lib.hid (fun a b c d W => rectEmpty_any a b c d W)
  clear hn
  have hE0 := Ext.alloc w (.cells #[] 34)
  have hown0 := EL.Own.made (E := rectE) w
  go_enter Tryz.func90, Tryz.ntmps90
  go_wp2_with fail
  go_loopw [5, 6] (fun s i wr => ∃ k : Nat, k ≤ n ∧ i = .int .i64 k ∧ Ext w wr ∧ rectE.Own wr w.heap.size s ((l.take k).filter (inRow y))) (fun _ i _ => n - (intOf i).toNat)
  case atStart => exact ⟨0, Nat.zero_le _, rfl, hE0, by rw [List.take_zero]; exact hown0⟩
  case round =>
    clear hE0 hown0
    obtain ⟨k, hk, rfl, hE, hown⟩ := hrel
    by_cases hlt : k < n
    · have dk : ((k : Int) < (n : Int)) = True := eq_true (by omega)
      obtain ⟨⟨x0, x1, x2, x3⟩, hlk⟩ : ∃ q, l[k]? = some q := ⟨_, List.getElem?_eq_getElem (by rw [HN.out]; exact hlt)⟩
      obtain ⟨b, o, rfl⟩ := hA.addr hlk
      obtain ⟨e0, e1, e2, e3⟩ := rect_cell hA hlk
      replace e0 := hE.cell e0
      replace e1 := hE.cell e1
      replace e2 := hE.cell e2
      replace e3 := hE.cell e3
      dsimp only at e0 e1 e2 e3
      have HT := Lib.hid (show (l.take (k + 1)).filter (inRow y) = (l.take k).filter (inRow y) ++ [(x0, x1, x2, x3)].filter (inRow y) from by rw [take_snocG hlk, List.filter_append])
      have HLE := Lib.hid (show ((l.take k).filter (inRow y)).length ≤ k from Nat.le_trans (List.length_filter_le _ _) (List.length_take_le _ _))
      generalize hraw : (l.take k).filter (inRow y) = raw at *
      clear hlk hraw
      go_wp2_with fail
      refine (HEM.out x0 x1 x2 x3 _).mono ?_
      rintro e w1 ⟨rfl, hE1⟩
      replace e0 := hE1.cell e0
      replace e1 := hE1.cell e1
      replace e2 := hE1.cell e2
      replace e3 := hE1.cell e3
      have hEa := hE.trans hE1
      have hownA := hown.ext hE1
      clear hE1 hown hE
      cases hin : inRow y (x0, x1, x2, x3)
      · have HX := Lib.hid (show [(x0, x1, x2, x3)].filter (inRow y) = [] from by simp [hin])
        cases hem : rectEmptyS (x0, x1, x2, x3)
        · have hni : ¬ (x1 ≤ y ∧ y < x3) := fun ⟨h1, h2⟩ => by
            have : inRow y (x0, x1, x2, x3) = true := by simp [inRow, hem, h1, h2]
            rw [this] at hin; cases hin
          clear hin hem
          by_cases h1 : x1 ≤ y
          · have d1 : (x1 ≤ y) = True := eq_true h1
            have d2 : (y < x3) = False := eq_false (by omega)
            clear h1 hni
            go_wp2
            go_roundw
            case rel => exact ⟨k + 1, by omega, by go_num, hEa, by rw [HT.out, HX.out, List.append_nil]; exact hownA⟩
            case measure => simp [intOf]; omega
          · have d1 : (x1 ≤ y) = False := eq_false h1
            clear h1 hni
            go_wp2
            go_roundw
            case rel => exact ⟨k + 1, by omega, by go_num, hEa, by rw [HT.out, HX.out, List.append_nil]; exact hownA⟩
            case measure => simp [intOf]; omega
        · clear hin hem
          go_wp2
          go_roundw
          case rel => exact ⟨k + 1, by omega, by go_num, hEa, by rw [HT.out, HX.out, List.append_nil]; exact hownA⟩
          case measure => simp [intOf]; omega
      · have HX := Lib.hid (show [(x0, x1, x2, x3)].filter (inRow y) = [(x0, x1, x2, x3)] from by simp [hin])
        have hem : rectEmptyS (x0, x1, x2, x3) = false := by
          cases h : rectEmptyS (x0, x1, x2, x3)
          · rfl
          · unfold inRow at hin; rw [h] at hin; cases hin
        have h1 : x1 ≤ y ∧ y < x3 := by
          simp only [inRow, Bool.and_eq_true, Bool.not_eq_true', decide_eq_true_eq] at hin
          exact ⟨hin.1.2, hin.2⟩
        rw [hem]
        clear hin hem
        have d1 : (x1 ≤ y) = True := eq_true h1.1
        have d2 : (y < x3) = True := eq_true h1.2
        clear h1
        have hEb := hEa.trans (Ext.alloc w1 (.cells #[.int .i64 x0, .int .i64 x1, .int .i64 x2, .int .i64 x3] 34))
        have hownB := hownA.ext (Ext.alloc w1 (.cells #[.int .i64 x0, .int .i64 x1, .int .i64 x2, .int .i64 x3] 34))
        have hrow := EL.rowOne (E := rectE) (x := (x0, x1, x2, x3)) (Box.new w1 34 #[.int .i64 x0, .int .i64 x1, .int .i64 x2, .int .i64 x3]) rfl
        have hsz := hEb.size
        have hll : raw.length + 1 ≤ 1000000000 := by have := HLE.out; omega
        go_wp2_with (at_builtin; refine EL.wpApp rectE rfl _ _ rfl w.heap.size _ _ raw [(x0, x1, x2, x3)] rfl rfl hownB hrow hll hsz ?_; intro v1 W1 own1 gr1 _)
        have hE2 := growExt hEb hownB (Nat.le_refl _) gr1
        go_roundw
        case rel => exact ⟨k + 1, by omega, by go_num, hE2, by rw [HT.out, HX.out]; exact own1⟩
        case measure => simp [intOf]; omega
    · have dk : ((k : Int) < (n : Int)) = False := eq_false (by omega)
      have HT := Lib.hid (show l.take k = l from List.take_of_length_le (by rw [HN.out]; omega))
      rw [HT.out] at hown
      go_wp2
      go_ret
      exact ⟨_, rfl, hE, hown⟩
set_option maxHeartbeats 1600000 in
theorem rContains_any (l : List R4) (A : Option Addr) (n c : Nat) (x y : Int) (w : World) (hn : l.length = n) (hnb : n ≤ 17592186044416) (hA : rectE.At w A l) :
    Calls Tryz.prog 64 #[.slice A n c, .int .i64 x, .int .i64 y] w fun e w' => e = .returned (.bool (inL l x y)) ∧ Ext w w' := by
  have HN := Lib.hid hn
  have HH := Lib.hid (fun a b c d W => rectHas_any a b c d x y W)
  clear hn
  go_enter Tryz.func64, Tryz.ntmps64
  go_wp2_with fail
  go_loopw [7] (fun i wr => ∃ k : Nat, k ≤ n ∧ i = .int .i64 k ∧ Ext w wr ∧ Hid (inL (l.take k) x y = false)) (fun i _ => n - (intOf i).toNat)
  case atStart => exact ⟨0, Nat.zero_le _, rfl, Ext.refl _, Lib.hid (by simp [inL])⟩
  case round =>
    obtain ⟨k, hk, rfl, hE, HF⟩ := hrel
    by_cases hlt : k < n
    · have dk : ((k : Int) < (n : Int)) = True := eq_true (by omega)
      obtain ⟨⟨x0, x1, x2, x3⟩, hlk⟩ : ∃ q, l[k]? = some q := ⟨_, List.getElem?_eq_getElem (by rw [HN.out]; exact hlt)⟩
      obtain ⟨b, o, rfl⟩ := hA.addr hlk
      obtain ⟨e0, e1, e2, e3⟩ := rect_cell hA hlk
      replace e0 := hE.cell e0
      replace e1 := hE.cell e1
      replace e2 := hE.cell e2
      replace e3 := hE.cell e3
      dsimp only at e0 e1 e2 e3
      have HT := Lib.hid (show inL (l.take (k + 1)) x y = hasR (x0, x1, x2, x3) x y from by
        have h0 := HF.out
        rw [take_snocG hlk]
        unfold inL at h0 ⊢
        rw [List.any_append, h0]; simp)
      have HIN := Lib.hid (show hasR (x0, x1, x2, x3) x y = true → inL l x y = true from fun h => inL_iff.2 ⟨_, List.mem_of_getElem? hlk, h⟩)
      have HH' := Lib.hid (fun W => HH.out x0 x1 x2 x3 W)
      rw [← has_eq] at HH'
      clear hlk
      go_wp2_with fail
      refine (HH'.out _).mono ?_
      rintro e w1 ⟨rfl, hE1⟩
      have hE2 := hE.trans hE1
      cases hh : hasR (x0, x1, x2, x3) x y
      · go_wp2
        go_roundw
        case rel => exact ⟨k + 1, by omega, by go_num, hE2, Lib.hid (by rw [HT.out, hh])⟩
        case measure => simp [intOf]; omega
      · have HR := Lib.hid (HIN.out hh)
        go_wp2
        go_ret
        exact ⟨ret_eq (by rw [HR.out]; rfl), hE2⟩
    · have dk : ((k : Int) < (n : Int)) = False := eq_false (by omega)
      have HR := Lib.hid (show inL l x y = false from by have := HF.out; rw [List.take_of_length_le (by rw [HN.out]; omega)] at this; exact this)
      go_wp2
      go_ret
      exact ⟨ret_eq (by rw [HR.out]; rfl), hE⟩
/-- the reference's ways -/
def Way (way : Int) (keep : Bool → Bool → Bool) : Prop := (way = 1 ∧ keep = fun p q => p || q) ∨ (way = 2 ∧ keep = fun p q => p && q) ∨ (way = 3 ∧ keep = fun p q => p && !q)
theorem Way.zero {way : Int} {keep : Bool → Bool → Bool} (h : Way way keep) : keep false false = false := by
  rcases h with ⟨_, rfl⟩ | ⟨_, rfl⟩ | ⟨_, rfl⟩ <;> rfl
set_option maxHeartbeats 3200000 in
theorem is_any (a b : List R4) (A1 A2 : Option Addr) (n1 c1 n2 c2 : Nat) (way x y : Int) (keep : Bool → Bool → Bool) (w : World) (hn1 : a.length = n1) (hn2 : b.length = n2) (hb1 : n1 ≤ 1000000) (hb2 : n2 ≤ 1000000) (h1 : rectE.At w A1 a) (h2 : rectE.At w A2 b) (hw : Way way keep) :
    Calls Tryz.prog 91 #[.slice A1 n1 c1, .slice A2 n2 c2, .int .i64 way, .int .i64 x, .int .i64 y] w fun e w' => e = .returned (.bool (keep (inL a x y) (inL b x y))) ∧ Ext w w' := by
  have HA := Lib.hid (fun (W : World) (k : Ext w W) => rContains_any a A1 n1 c1 x y W hn1 (by omega) (h1.ext k))
  have HB := Lib.hid (fun (W : World) (k : Ext w W) => rContains_any b A2 n2 c2 x y W hn2 (by omega) (h2.ext k))
  clear hn1 hn2 h1 h2
  generalize inL a x y = p at *
  generalize inL b x y = q at *
  rcases hw with ⟨rfl, rfl⟩ | ⟨rfl, rfl⟩ | ⟨rfl, rfl⟩
  all_goals
    go_enter Tryz.func91, Tryz.ntmps91
    go_wp2_with fail
    refine (HA.out _ (Ext.refl _)).mono ?_
    rintro e w1 ⟨rfl, k1⟩
    cases p
    all_goals
      go_wp2_with ((go_at_call 64; with_reducible refine (HB.out _ k1).mono ?_); rintro e w9 ⟨rfl, k9⟩; replace k1 := k1.trans k9; clear k9)
      go_ret
      exact ⟨ret_eq (by simp), k1⟩
def arrE : EL Tryz.prog Run where
  enc := fun r => [.int .i64 r.1, .int .i64 r.2]
  size := 2
  t := 59
  st := 75
  zero := .agg #[.int .i64 0, .int .i64 0]
  bytes := 16
  len := fun _ => rfl
  one := fun x v hv => by simp at hv; rcases hv with rfl | rfl <;> rfl
  pos := by decide
  und := Tryz.underlying75
  info := by kernel_rfl
  zsize := rfl
  small := by decide
theorem arr_cell {w : World} {b o : Nat} {l : List Run} (h : arrE.At w (some ⟨b, o, none⟩) l) {k : Nat} {r : Run} (hk : l[k]? = some r) :
    w.cell? ⟨b, o + k * 2, none⟩ = some (.int .i64 r.1) ∧ w.cell? ⟨b, o + k * 2 + 1, none⟩ = some (.int .i64 r.2) :=
  ⟨h.cellAt (j := 0) hk rfl, h.cellAt (j := 1) hk rfl⟩
theorem arr_load (w : World) (b o : Nat) (x y : Value) (h0 : w.cell? ⟨b, o, none⟩ = some x) (h1 : w.cell? ⟨b, o + 1, none⟩ = some y) : (Instr.loadAt 59 (.pointer (some ⟨b, o, none⟩))).run Tryz.prog w = .ok (.agg #[x, y]) w :=
  run_loadAt_mid w b o 59 [x, y] _ (fun j v hv => by
    match j with
    | 0 => simp at hv; subst hv; exact h0
    | 1 => simp at hv; subst hv; exact h1
    | j + 2 => simp at hv) Tryz.underlying59 rfl (by kernel_rfl)
theorem eqArr (a b c d : Int) (w : World) : (Op.equalIn 10000 59 (.agg #[.int .i64 a, .int .i64 b]) (.agg #[.int .i64 c, .int .i64 d])).run Tryz.prog w = .ok (a == c && b == d) w := by
  have u3 := Tryz.underlying3
  have a3 := Tryz.isAgg3
  have z3 := Tryz.sizeOf3
  rw [show (10000 : Nat) = 9999 + 1 from rfl, Op.equalIn]
  simp only [Sem.run_bind, run_underlying Tryz.underlying59, Result.andThen_ok]
  simp only [Std.Legacy.Range.forIn_eq_forIn_range', Std.Legacy.Range.size, Nat.sub_zero, Nat.add_sub_cancel, Nat.div_one, List.range'_succ, List.range'_zero, List.forIn_cons, List.forIn_nil]
  go_simp
  by_cases h1 : a = c <;> by_cases h2 : b = d <;> simp [h1, h2]
set_option maxRecDepth 100000 in
set_option maxHeartbeats 1600000 in
theorem like_any (l m : List Run) (A1 A2 : Option Addr) (c1 c2 n k : Nat) (w : World) (hn : l.length = n) (hk : m.length = k) (hb1 : n ≤ 17592186044416) (hb2 : k ≤ 17592186044416) (h1 : arrE.At w A1 l) (h2 : arrE.At w A2 m) :
    Calls Tryz.prog 79 #[.slice A1 n c1, .slice A2 k c2] w fun e w' => e = .returned (.bool (decide (l = m))) ∧ Ext w w' := by
  have HN := Lib.hid hn
  have HK := Lib.hid hk
  clear hn hk
  go_enter Tryz.func79, Tryz.ntmps79
  by_cases hnk : n = k
  · subst hnk
    have d1 : ((n : Int) == (n : Int)) = true := by simp
    go_wp2_with fail
    go_loopw [5] (fun i wr => ∃ j : Nat, j ≤ n ∧ i = .int .i64 j ∧ Ext w wr ∧ Hid (l.take j = m.take j)) (fun i _ => n - (intOf i).toNat)
    case atStart => exact ⟨0, Nat.zero_le _, rfl, Ext.refl _, Lib.hid (by simp)⟩
    case round =>
      obtain ⟨j, hj, rfl, hE, HT⟩ := hrel
      by_cases hlt : j < n
      · have dj : ((j : Int) < (n : Int)) = True := eq_true (by omega)
        obtain ⟨⟨x0, x1⟩, hlx⟩ : ∃ q, l[j]? = some q := ⟨_, List.getElem?_eq_getElem (by rw [HN.out]; exact hlt)⟩
        obtain ⟨⟨y0, y1⟩, hly⟩ : ∃ q, m[j]? = some q := ⟨_, List.getElem?_eq_getElem (by rw [HK.out]; exact hlt)⟩
        obtain ⟨b, o, rfl⟩ := h1.addr hlx
        obtain ⟨b', o', rfl⟩ := h2.addr hly
        obtain ⟨e0, e1⟩ := arr_cell h1 hlx
        obtain ⟨f0, f1⟩ := arr_cell h2 hly
        replace e0 := hE.cell e0
        replace f0 := hE.cell f0
        replace e1 := hE.cell e1
        replace f1 := hE.cell f1
        dsimp only at e0 e1 f0 f1
        have HX := Lib.hid hlx
        have HY := Lib.hid hly
        clear hlx hly
        by_cases hxy : x0 = y0 ∧ x1 = y1
        · obtain ⟨rfl, rfl⟩ := hxy
          have HS := Lib.hid (show l.take (j + 1) = m.take (j + 1) from by
            rw [List.take_add_one, List.take_add_one, HX.out, HY.out, HT.out])
          go_wp2_with fail
          apply wp_region_par' 9 (by kernel_rfl) (by kernel_rfl) rfl
          simp only [List.take_succ_cons, List.take_zero, List.drop_succ_cons, List.drop_zero]
          generalize hW : World.drew _ = W
          have hEW : Ext wr W := by rw [← hW]; exact Ext.drew _
          clear hW
          have z0 := fun z : Later W => z.cell (hEW.cell e0)
          have z1 := fun z : Later W => z.cell (hEW.cell e1)
          have z2 := fun z : Later W => z.cell (hEW.cell f0)
          have z3 := fun z : Later W => z.cell (hEW.cell f1)
          have zq := fun W => eqArr x0 x1 x0 x1 W
          iterate 9
            refine parW_step rfl (fun K hK => ?_)
            apply Exists.intro
            refine ⟨fun z => ?_, ?_⟩
            focus
              go_simp
              first
                | rfl
                | fail
            go_simp
            refine hK _ ?_
            clear hK K
          refine parW_end (fun z => ?_)
          replace hE := (hE.trans hEW).later z
          clear z0 z1 z2 z3 zq
          generalize z.val = Z at *
          clear z hEW
          go_wp2
          go_roundw
          case rel => exact ⟨j + 1, by omega, by go_num, hE, HS⟩
          case measure => simp [intOf]; omega
        · have d2 : (decide (x0 = y0) && decide (x1 = y1)) = false := by
            rw [Bool.eq_false_iff]; intro e; apply hxy; simpa using e
          have d3 : (¬x0 = y0 ∨ ¬x1 = y1) = True := eq_true (by omega)
          have d4 : ((!decide (x0 = y0)) || (!decide (x1 = y1))) = true := by
            simpa using d3
          have HS := Lib.hid (show ¬ l = m from fun e => hxy (by
            have h1 := HX.out
            rw [e, HY.out] at h1
            injection h1 with h1
            simp only [Prod.mk.injEq] at h1
            exact ⟨h1.1.symm, h1.2.symm⟩))
          have HXY := Lib.hid hxy
          clear hxy
          go_wp2_with fail
          apply wp_region_par' 9 (by kernel_rfl) (by kernel_rfl) rfl
          simp only [List.take_succ_cons, List.take_zero, List.drop_succ_cons, List.drop_zero]
          generalize hW : World.drew _ = W
          have hEW : Ext wr W := by rw [← hW]; exact Ext.drew _
          clear hW
          have z0 := fun z : Later W => z.cell (hEW.cell e0)
          have z1 := fun z : Later W => z.cell (hEW.cell e1)
          have z2 := fun z : Later W => z.cell (hEW.cell f0)
          have z3 := fun z : Later W => z.cell (hEW.cell f1)
          have zq := fun W => eqArr x0 x1 y0 y1 W
          iterate 9
            refine parW_step rfl (fun K hK => ?_)
            apply Exists.intro
            refine ⟨fun z => ?_, ?_⟩
            focus
              go_simp
              first
                | rfl
                | fail
            go_simp
            refine hK _ ?_
            clear hK K
          refine parW_end (fun z => ?_)
          replace hE := (hE.trans hEW).later z
          clear z0 z1 z2 z3 zq
          generalize z.val = Z at *
          clear z hEW
          go_wp2
          all_goals first
            | (go_ret; exact ⟨ret_eq (by rw [decide_eq_false HS.out]; rfl), hE⟩)
            | (rename_i hh; exact absurd (by simpa using hh) HXY.out)
      · have HS := Lib.hid (show l = m from by
          have := HT.out
          rwa [List.take_of_length_le (by rw [HN.out]; omega), List.take_of_length_le (by rw [HK.out]; omega)] at this)
        have d3 : ((j : Int) < (n : Int)) = False := eq_false (by omega)
        go_wp2
        go_ret
        exact ⟨ret_eq (by rw [decide_eq_true HS.out]; rfl), hE⟩
  · have d1 : ((n : Int) == (k : Int)) = false := by simp; omega
    have HS := Lib.hid (show ¬ l = m from fun e => hnk (by rw [← HN.out, ← HK.out, e]))
    clear hnk
    go_wp2
    go_ret
    exact ⟨ret_eq (by rw [decide_eq_false HS.out]; rfl), Ext.refl _⟩
end Go.Proofs.YtkjpcjmbhpfelaaGreat
