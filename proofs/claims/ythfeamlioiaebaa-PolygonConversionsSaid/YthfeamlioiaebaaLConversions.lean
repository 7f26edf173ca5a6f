/- PolygonConversions: for every slice of polylines, every slice of slices of points and every point the function returns true, and all that was there is as it was. -/
import Derived.Test.YthfeamlioiaebaaOpenY
import Derived.Test.YthfeamlioiaebaaRowsEq
import Derived.Test.YthfeamlioiaebaaLBounds
set_option linter.unusedVariables false
set_option linter.unusedSimpArgs false
namespace Go.Proofs.Ythfeamlioiaebaa
open Go.ChangeShapes Go.WideShapes Go.ChangeAt Go.RowKit Go.Par Go.Deep Go.Joins

/-- a row of rows that the call has made -/
def RR (L : List (List P2)) : VP := fun v w => ∃ vs B, OwnR w B v vs ∧ Elems w B vs L
theorem RR.stable (L : List (List P2)) : Stable (RR L) := fun _ _ _ ⟨vs, B, h1, h2⟩ he => ⟨vs, B, h1.ext he, h2.ext he⟩
theorem RR.rings {L : List (List P2)} {v : Value} {w : World} (h : RR L v w) (hb : L.length ≤ 17592186044416) : Rings w v L := by
  obtain ⟨vs, B, h1, h2⟩ := h
  exact h1.rings h2.rows hb
theorem RR.rows {L : List (List P2)} {v u : Value} {w : World} (hv : RR L v w) (hu : RR L u w) (hb : L.length ≤ 1000000) :
    ∃ A B c d, v = .slice A L.length c ∧ u = .slice B L.length d ∧ Calls Try.prog 36 #[.slice A L.length c, .slice B L.length d] w fun e w' => e = .returned (.bool true) ∧ Ext w w' := by
  obtain ⟨A, c, rfl, _, _, hA⟩ := hv.rings (by omega)
  obtain ⟨B, d, rfl, _, _, hB⟩ := hu.rings (by omega)
  obtain ⟨vs, B', _, h2⟩ := hv
  refine ⟨A, B, c, d, rfl, rfl, Rows_any L A B c d _ w rfl hb (fun r hr => ?_) hA hB⟩
  obtain ⟨i, hi⟩ := List.mem_iff_getElem?.1 hr
  exact (h2.2 i r hi).1
set_option maxRecDepth 100000 in
set_option maxHeartbeats 800000 in
theorem polygonConversions_any (Y : List (List P2)) (AY : Option Addr) (cY : Nat) (L : List (List P2)) (A : Option Addr) (c : Nat) (bx by_ : Int) (w : World) (hcY : Y.length ≤ 17592186044416) (hY : PolysAt w AY Y) (hc : L.length ≤ 17592186044416) (hL : RingsAt w A L) :
    Calls Try.prog 9 #[.slice AY Y.length cY, .slice A L.length c, .agg #[.int .i64 bx, .int .i64 by_]] w fun e w' => e = .returned (.bool true) ∧ Ext w w' := by
  have HF := Lib.hid (fun W (h : Ext w W) => few_any L A c W hc (hL.ext h))
  have HT := Lib.hid (fun (hf : fewL L = true) W (h : Ext w W) => Translate_any L A c bx by_ W (Nat.le_trans (fewL_len hf).1 (by decide)) (Nat.le_trans (fewL_len hf).2 (by decide)) (hL.ext h))
  have HU := Lib.hid (fun (hf : fewL L = true) W (h : Ext w W) => rTranslate_any L A c bx by_ W (Nat.le_trans (fewL_len hf).1 (by decide)) (Nat.le_trans (fewL_len hf).2 (by decide)) (hL.ext h))
  obtain ⟨m, hm⟩ : ∃ m, m = L.length := ⟨_, rfl⟩
  rw [← hm] at HF HT HU hc ⊢
  have HM := Lib.hid hm
  clear hm
  obtain ⟨n, hn⟩ : ∃ n, n = Y.length := ⟨_, rfl⟩
  rw [← hn] at hcY ⊢
  have HN := Lib.hid hn
  clear hn
  go_enter Try.func9, Try.ntmps9
  by_cases h40 : n ≤ 40
  · have d0 : ¬ (40 : Int) < (n : Int) := by omega
    go_wp2_with fail
    refine (HF.out _ (Ext.alloc _ _)).mono ?_
    rintro e w1 ⟨rfl, hE1⟩
    have B1 := (Box.new w 24 #[.int .i64 bx, .int .i64 by_]).ext hE1
    have hE := (Ext.alloc w _).trans hE1
    clear hE1
    cases hf : fewL L
    · go_wp2_with fail
      refine (example_any _).mono ?_
      rintro e w2 ⟨rfl, hE2⟩
      go_wp2
      go_ret
      exact ⟨rfl, hE.trans hE2⟩
    have HT' := Lib.hid (HT.out hf)
    have HU' := Lib.hid (HU.out hf)
    clear HT HU
    go_wp2_with fail
    go_loopw [7] (fun i wr => ∃ k : Nat, k ≤ n ∧ i = .int .i64 k ∧ Ext w1 wr ∧ ∀ r ∈ Y.take k, r.length ≤ 200) (fun i _ => n - (intOf i).toNat)
    case atStart => exact ⟨0, Nat.zero_le _, rfl, Ext.refl w1, fun r hr => by simp at hr⟩
    case round =>
      obtain ⟨k, hk, rfl, hEr, hsm⟩ := hrel
      have HSM := Lib.hid hsm
      clear hsm
      by_cases hlt : k < n
      · obtain ⟨r, hlk⟩ : ∃ r, Y[k]? = some r := ⟨_, List.getElem?_eq_getElem (by rw [← HN.out]; exact hlt)⟩
        obtain ⟨b, o, rfl, hcell⟩ := hY (fun e => by rw [e] at hlk; simp at hlk)
        obtain ⟨v, q, c0, c1, A1, c1', rfl, hlc, hlb, hP⟩ := hcell k r hlk
        have e0 := (hE.trans hEr).cell c0
        have hsn : Y.take (k + 1) = Y.take k ++ [r] := by rw [List.take_add_one, hlk]; rfl
        obtain ⟨t, ht⟩ : ∃ t, t = r.length := ⟨_, rfl⟩
        rw [← ht] at e0
        have HTT := Lib.hid ht
        have HSN := Lib.hid hsn
        clear hlk hcell c0 c1 hP ht hsn hlc hlb
        by_cases h2 : t ≤ 200
        · have d2 : ¬ (200 : Int) < (t : Int) := by omega
          go_wp2
          go_roundw
          case rel =>
            refine ⟨k + 1, by omega, by go_num, hEr, fun x hx => ?_⟩
            have hs := HSN.out
            rw [hs] at hx
            rcases List.mem_append.1 hx with h | h
            · exact HSM.out x h
            · simp only [List.mem_singleton] at h
              subst h
              rw [← HTT.out]; exact h2
          case measure => simp [intOf]; omega
        · have d2 : (200 : Int) < (t : Int) := by omega
          go_wp2_with fail
          refine (example_any _).mono ?_
          rintro e w2 ⟨rfl, hE2⟩
          go_wp2
          go_ret
          exact ⟨rfl, (hE.trans hEr).trans hE2⟩
      · have hE2 := hE.trans hEr
        have hall : ∀ r ∈ Y, r.length ≤ 1000000 := fun r hr => by
          have e : Y.take k = Y := List.take_of_length_le (by rw [← HN.out]; omega)
          have := HSM.out r (by rw [e]; exact hr)
          omega
        have B2 := B1.ext hEr
        have kB := B2.lcell
        have HA := Lib.hid (fun W (h : Ext w W) => From_any Y AY cY n W HN.out (by omega) hall (hY.ext h))
        have HB := Lib.hid (fun W (h : Ext w W) => rFrom_any Y AY cY n W HN.out (by omega) hall (hY.ext h))
        clear hall kB
        go_wp2_with fail
        apply wp_region_par' 17 (by kernel_rfl) (by kernel_rfl) rfl
        simp only [List.take_succ_cons, List.take_zero, List.drop_succ_cons, List.drop_zero]
        generalize hW : World.drew _ = W
        have hEW : Ext w W := by rw [← hW]; exact hE2.trans (Ext.drew _)
        have BW : Box W w.heap.size 24 #[.int .i64 bx, .int .i64 by_] := by rw [← hW]; exact B2.drew
        clear hW
        have kW := BW.lcell
        iterate 1
          refine parW_step rfl (fun K hK => ?_)
          apply Exists.intro
          refine ⟨fun z => ?_, ?_⟩
          focus
            go_simp
            first
              | rfl
              | rfl
          go_simp
          refine hK _ ?_
          clear hK K
        refine parW_rel rfl (RR.stable (fromS Y)) (fun x => ?_) ?_
        · have hc := (HA.out x.val (hEW.later x)).mono (R' := fun e w' => ∃ v, e = .returned v ∧ Ext x.val w' ∧ RR (fromS Y) v w') fun e w' ⟨v, vs, h1, h2, h3, h4⟩ => ⟨v, h1, h2, vs, _, h3, h4⟩
          simp only [Giv]
          go_simp
          exact calls_rel hc
        iterate 1
          refine parW_step rfl (fun K hK => ?_)
          apply Exists.intro
          refine ⟨fun z => ?_, ?_⟩
          focus
            go_simp
            first
              | rfl
              | rfl
          go_simp
          refine hK _ ?_
          clear hK K
        refine parW_rel rfl (RR.stable (fromS Y)) (fun x => ?_) ?_
        · intro v0 hv0
          have hc := (HB.out x.val (hEW.later x)).mono (R' := fun e w' => ∃ v, e = .returned v ∧ Ext x.val w' ∧ RR (fromS Y) v w') fun e w' ⟨v, vs, h1, h2, h3, h4⟩ => ⟨v, h1, h2, vs, _, h3, h4⟩
          simp only [Giv]
          go_simp
          exact calls_rel hc
        refine parW_giv (c := .bool true) (fun x => ?_) ?_
        · intro v1 hv1 v2 hv2
          have g1 := hv1 (show Nat.testBit _ _ = true from by kernel_rfl)
          have g2 := hv2 (show Nat.testBit _ _ = true from by kernel_rfl)
          obtain ⟨Aa, Ab, ca, cb, rfl, rfl, hc⟩ := RR.rows g1 g2 (by unfold fromS; exact Nat.le_trans (List.length_filter_le _ _) (by rw [← HN.out]; omega))
          simp only [Giv]
          go_simp
          exact calls_val hc
        iterate 3
          refine parW_step rfl (fun K hK => ?_)
          apply Exists.intro
          refine ⟨fun z => ?_, ?_⟩
          focus
            go_simp
            first
              | rfl
              | rfl
          go_simp
          refine hK _ ?_
          clear hK K
        refine parW_rel rfl (RR.stable (transL L (bx, by_))) (fun x => ?_) ?_
        · intro v1 hv1 v2 hv2
          have hc := (HT'.out x.val (hEW.later x)).mono (R' := fun e w' => ∃ v, e = .returned v ∧ Ext x.val w' ∧ RR (transL L (bx, by_)) v w') fun e w' ⟨v, vs, h1, h2, h3, h4⟩ => ⟨v, h1, h2, vs, _, h3, h4⟩
          simp only [Giv]
          go_simp
          exact calls_rel hc
        iterate 2
          refine parW_step rfl (fun K hK => ?_)
          apply Exists.intro
          refine ⟨fun z => ?_, ?_⟩
          focus
            go_simp
            first
              | rfl
              | rfl
          go_simp
          refine hK _ ?_
          clear hK K
        refine parW_rel rfl (RR.stable (transL L (bx, by_))) (fun x => ?_) ?_
        · intro v1 hv1 v2 hv2 v3 hv3
          have hc := (HU'.out x.val (hEW.later x)).mono (R' := fun e w' => ∃ v, e = .returned v ∧ Ext x.val w' ∧ RR (transL L (bx, by_)) v w') fun e w' ⟨v, vs, h1, h2, h3, h4⟩ => ⟨v, h1, h2, vs, _, h3, h4⟩
          simp only [Giv]
          go_simp
          exact calls_rel hc
        refine parW_giv (c := .bool true) (fun x => ?_) ?_
        · intro v1 hv1 v2 hv2 v3 hv3 v4 hv4
          have g1 := hv3 (show Nat.testBit _ _ = true from by kernel_rfl)
          have g2 := hv4 (show Nat.testBit _ _ = true from by kernel_rfl)
          obtain ⟨Aa, Ab, ca, cb, rfl, rfl, hc⟩ := RR.rows g1 g2 (by have := (fewL_len hf).1; unfold transL; split <;> simp <;> omega)
          simp only [Giv]
          go_simp
          exact calls_val hc
        iterate 4
          refine parW_step rfl (fun K hK => ?_)
          apply Exists.intro
          refine ⟨fun z => ?_, ?_⟩
          focus
            go_simp
            first
              | rfl
              | with_reducible exact calls_val (example_any _)
          go_simp
          refine hK _ ?_
          clear hK K
        refine parW_fin (fun z => ?_)
        rintro v1 hv1 v2 hv2 v3 hv3 v4 hv4 hp
        simp only [Act.put, List.setIfInBounds_toArray, List.set_cons_succ, List.set_cons_zero]
        go_wp2
        go_ret
        exact ⟨rfl, hEW.later z⟩
  · have d0 : (40 : Int) < (n : Int) := by omega
    go_wp2_with fail
    refine (example_any _).mono ?_
    rintro e w2 ⟨rfl, hE2⟩
    go_wp2
    go_ret
    exact ⟨rfl, (Ext.alloc _ _).trans hE2⟩
end Go.Proofs.Ythfeamlioiaebaa
