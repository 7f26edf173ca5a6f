/- The program's ConvexHull. -/
import Derived.Test.YthfeamlioiaebaaGHull
import Derived.Test.YthfeamlioiaebaaSort3
import Derived.Test.YthfeamlioiaebaaCompact
import Derived.Test.YthfeamlioiaebaaChain
set_option linter.unusedVariables false
set_option linter.unusedSimpArgs false
namespace Go.Proofs.Ythfeamlioiaebaa
open Go.RowKit Go.Par Go.Sort

/-- append to a row that is full: a new row -/
theorem wpList_app3 {w : World} {b n m cap : Nat} {l r : List P2} {sv : Value} (ty : TypeId) (h1 : ∀ j u, (ptCells l)[j]? = some u → w.cell? ((⟨b, 0, none⟩ : Addr).add j) = some u) (hn : n = l.length)
    (hm : Pts w sv r) (hmr : m = r.length) (h0 : 0 < m) (hb : n + m ≤ 1000000000) :
    ∃ v' w', (Builtin.append_ #[38, 38] ty #[.slice (some ⟨b, 0, none⟩) n n, sv]).run Try.prog w = .ok v' w' ∧ Own w' w.heap.size v' (l ++ r) ∧ Ext w w' := by
  subst hn
  subst hmr
  obtain ⟨i0, hi, hz0, hz1, hz2⟩ := info_parts info_pt
  obtain ⟨k1, k2, ⟨⟨c, rfl⟩, hm0⟩ | ⟨ad, c, rfl, h3⟩⟩ := hm.src
  · omega
  · obtain ⟨v', w', hr, ho, hg⟩ := run_append_arg_grows (P := Try.prog) (w := w) 38 ty 24 i0 (.agg #[.int .i64 0, .int .i64 0]) 2 16 Try.underlying38 hi hz0 hz1 hz2 rfl (by decide) ⟨b, 0, none⟩ l.length l.length (ptCells l) (ptCells_length l) h1 ad r.length c (ptCells r) k1 h3 (by omega) (by unfold maxLen; omega) (by omega)
    refine ⟨v', w', hr, ?_, ⟨hg.os, hg.tape, hg.output, hg.size, fun k hk => hg.block k hk (by simp)⟩⟩
    unfold Own
    rw [List.length_append, ptCells_append]
    exact ho
theorem own_but {w w' : World} {B g : Nat} {v : Value} {l : List P2} (h : Own w B v l) (hb : But g w w') (hg : g < B) : Own w' B v l := by
  refine ⟨h.1, ?_⟩
  rcases h.2 with ⟨e, h0⟩ | ⟨g', cap, cur, e, hb', hh, rest⟩
  · exact .inl ⟨e, h0⟩
  · exact .inr ⟨g', cap, cur, e, hb', (hb.block g' (Box.lt (t := 24) (cs := cur) hh) (by omega)).trans hh, rest⟩
theorem compact_len : ∀ (l : List P2), (compactS l).length ≤ l.length
  | [] => Nat.le_refl _
  | [_] => Nat.le_refl _
  | a :: b :: t => by
    have := compact_len (b :: t)
    unfold compactS
    split
    · simp only [List.length_cons] at this ⊢; omega
    · simp only [List.length_cons] at this ⊢; omega
theorem sReverse_full {w : World} {B g n cap : Nat} {l : List P2} (h : Own w B (.slice (some ⟨g, 0, none⟩) n cap) l) (hn : n ≤ 1000000) :
    Calls Try.prog 68 #[.slice (some ⟨g, 0, none⟩) n cap] w fun e w' => e = .returned (.tuple #[]) ∧ Own w' B (.slice (some ⟨g, 0, none⟩) n cap) l.reverse ∧ But g w w' := by
  have := sReverse_any h 0 cap (Nat.zero_le _) hn
  simpa only [Nat.zero_mul, Nat.sub_zero, List.take_zero, List.drop_zero, List.nil_append] using this
theorem hullP_len {S : List P2} (hS : S.Pairwise ltS) (h : 5 ≤ (chainR S).length + (chainR S.reverse).length) : 2 ≤ (chainR S).length ∧ 2 ≤ (chainR S.reverse).length := by
  cases S with
  | nil => exact absurd h (by decide)
  | cons s0 S' =>
    rcases List.eq_nil_or_concat S' with rfl | ⟨S2, sm, e⟩
    · exfalso
      have : (chainR [s0]).length + (chainR [s0].reverse).length = 2 := rfl
      omega
    · rw [List.concat_eq_append] at e
      subst e
      have hlt : s0 ≠ sm := lt_ne ((List.pairwise_cons.1 hS).1 sm (by simp))
      obtain ⟨D2, d1, _⟩ := chain_facts hS (s0 := s0) (sm := sm) (S' := S2 ++ [sm]) (S'' := s0 :: S2) rfl (by simp) hlt
      obtain ⟨U2, u1, _⟩ := chain_back hS (s0 := s0) (sm := sm) (S' := S2 ++ [sm]) (S'' := s0 :: S2) rfl (by simp) hlt
      rw [d1, u1]
      simp
theorem rev_take (D : List P2) : D.reverse.take (D.length - 1) = D.tail.reverse := by
  cases D with
  | nil => rfl
  | cons a t => simp
set_option maxRecDepth 100000 in
set_option maxHeartbeats 800000 in
theorem ConvexHull_any (l : List P2) (A : Option Addr) (c n : Nat) (w : World) (hn : n = l.length) (hlc : n ≤ c) (hc : n ≤ 1000000) (hP : PtsAt w A l) :
    Calls Try.prog 47 #[.slice A n c] w fun e w' => ∃ v, e = .returned v ∧ Ext w w' ∧ Own w' w.heap.size v (hullS l) := by
  have HN := Lib.hid hn
  have HC := Lib.hid (fun W (h : Ext w W) => Clone_any l A c W (by rw [← hn]; exact hlc) (by rw [← hn]; exact hc) (hP.ext h))
  rw [← hn] at HC
  have HS := Lib.hid (show hullS l = if validL [l] then hullG l else [] from rfl)
  clear hn
  go_enter Try.func47, Try.ntmps47
  go_wp2_with fail
  refine (valid_one l A c n _ _ HN.out hlc (by omega) (Box.new _ _ _) (hP.ext (Ext.alloc _ _))).mono ?_
  rintro e w1 ⟨rfl, hE1⟩
  have hE := (Ext.alloc _ _).trans hE1
  clear hE1
  cases hv : validL [l]
  · have E := Lib.hid (show hullS l = [] from by rw [HS.out, hv]; rfl)
    go_wp2
    go_ret
    exact ⟨_, rfl, hE, by rw [E.out]; exact Own.nil w1 _⟩
  · have E := Lib.hid (show hullS l = hullG l from by rw [HS.out, hv]; rfl)
    have HV := Lib.hid (valid_all hv)
    clear hv HS
    go_wp2_with fail
    refine (HC.out _ hE).mono ?_
    rintro e w2 ⟨v, rfl, hE2, hown⟩
    replace hown := hown.lower hE.size
    replace hE := hE.trans hE2
    clear hE2 HC
    by_cases h0 : n = 0
    · have hl0 : l = [] := List.eq_nil_of_length_eq_zero (by rw [← HN.out]; exact h0)
      have E0 := Lib.hid (show hullS l = [] from by rw [hl0]; rfl)
      obtain ⟨A2, c2, rfl, _, _⟩ := hown.at HN.out.symm (by omega)
      subst h0
      clear hown hl0
      have HSN := Lib.hid (fun W => sort_none A2 c2 (.func (.func 80) #[] #[]) W)
      have HCN := Lib.hid (fun W => sCompact_small A2 c2 0 W (by omega))
      have HCH := Lib.hid (fun W => chain_any [] A2 c2 0 W rfl (by omega) (PtsAt.nil W A2) (fun p hp => by cases hp))
      have HRV := Lib.hid (fun W => sReverse_empty A2 c2 W)
      go_wp2_with fail
      refine (HSN.out _).mono ?_
      rintro e w3 ⟨rfl, rfl⟩
      go_wp2_with fail
      refine (HCN.out _).mono ?_
      rintro e w3 ⟨rfl, rfl⟩
      go_wp2_with fail
      refine (HCH.out _).mono ?_
      rintro e w3 ⟨v, rfl, hE3, hown3⟩
      obtain ⟨A3, c3, rfl, _, _⟩ := hown3.at (n := 0) rfl (by omega)
      clear hown3
      go_wp2_with fail
      refine (HRV.out _).mono ?_
      rintro e w4 ⟨rfl, rfl⟩
      go_wp2_with fail
      refine (HCH.out _).mono ?_
      rintro e w5 ⟨v, rfl, hE5, hown5⟩
      obtain ⟨A5, c5, rfl, _, _⟩ := hown5.at (n := 0) rfl (by omega)
      clear hown5
      go_wp2
      go_ret
      exact ⟨_, rfl, (hE.trans hE3).trans hE5, by rw [E0.out]; exact Own.nil _ _⟩
    · obtain ⟨g, cap, rfl, hg, hcap⟩ := hown.head (by rw [← HN.out]; omega)
      rw [← HN.out] at hown hcap ⊢
      have HSO := Lib.hid (sort_any hown hc)
      clear hown
      go_wp2_with fail
      refine HSO.out.mono ?_
      rintro e w3 ⟨rfl, l1, hperm, hsort, hown, hbut⟩
      replace hE := hE.but hbut hg
      have HCO := Lib.hid (sCompact_any hown hc)
      have HLP := Lib.hid (hperm)
      have HLS := Lib.hid (hsort)
      clear hown hbut HSO hperm hsort
      go_wp2_with fail
      refine HCO.out.mono ?_
      rintro e w4 ⟨m, rfl, hown, hbut⟩
      replace hE := hE.but hbut hg
      have hm := (own_open hown).choose_spec.1
      have hmn : m ≤ 1000000 := by
        have h1 := compact_len l1
        have h2 := HLP.out.length_eq
        have h3 := HN.out
        omega
      have hv1 : ∀ p ∈ l1, validS p = true := fun p hp => HV.out p (HLP.out.mem_iff.1 hp)
      have hso : l1.Pairwise (fun a b => ¬ ltS b a) := HLS.out.imp_of_mem fun ha hb h => by
        rw [less_lt (hv1 _ hb) (hv1 _ ha)] at h
        exact of_decide_eq_false h
      have hSS := compact_sorted l1 hso
      have hmem : ∀ p, p ∈ compactS l1 ↔ p ∈ l := fun p => (compact_mem l1 p).trans HLP.out.mem_iff
      have HM := Lib.hid (hull_main HV.out hSS hmem)
      have HSS := Lib.hid hSS
      have hvS : ∀ p ∈ compactS l1, validS p = true := fun p hp => HV.out p ((hmem p).1 hp)
      have HVS := Lib.hid hvS
      clear hv1 hso hSS hmem hvS HCO HLP HLS
      generalize compactS l1 = S at *
      have HMS := Lib.hid hm
      obtain ⟨A2, c2, hv2, _, hpts⟩ := hown.at hm.symm (by omega)
      simp only [Value.slice.injEq] at hv2
      obtain ⟨rfl, _, rfl⟩ := hv2
      have HC1 := Lib.hid (chain_any S _ cap m w4 HMS.out hmn hpts HVS.out)
      have hgl := own_lt hown
      clear hpts hm
      go_wp2_with fail
      refine HC1.out.mono ?_
      rintro e w5 ⟨v1, rfl, hE5, hown1⟩
      replace hown := hown.ext hE5
      have HRV := Lib.hid (sReverse_full hown hmn)
      replace hE := hE.trans hE5
      clear HC1 hE5 hown hbut
      go_wp2_with fail
      refine HRV.out.mono ?_
      rintro e w6 ⟨rfl, hown, hbut⟩
      replace hE := hE.but hbut hg
      replace hown1 := own_but hown1 hbut hgl
      obtain ⟨A2, c2, hv2, _, hpts⟩ := hown.at (n := m) (by rw [List.length_reverse]; exact HMS.out.symm) (by omega)
      simp only [Value.slice.injEq] at hv2
      obtain ⟨rfl, _, rfl⟩ := hv2
      have HC2 := Lib.hid (chain_any S.reverse _ cap m w6 (by rw [List.length_reverse]; exact HMS.out) hmn hpts (fun p hp => HVS.out p (by simpa using hp)))
      clear hpts hown hbut HRV
      go_wp2_with fail
      refine HC2.out.mono ?_
      rintro e w7 ⟨v2, rfl, hE7, hown2⟩
      replace hE := hE.trans hE7
      replace hown1 := hown1.ext hE7
      clear HC2 hE7
      have hPL := hullP_len HSS.out
      have HPD := Lib.hid (show hullP S = if (chainR S).length + (chainR S.reverse).length < 5 then [] else (chainR S).tail.reverse ++ (chainR S.reverse).tail.reverse from rfl)
      have hl1 := chain_len S
      have hl2 := chain_len S.reverse
      rw [List.length_reverse, ← HMS.out] at hl2
      rw [← HMS.out] at hl1
      have ht1 := rev_take (chainR S)
      have ht2 := rev_take (chainR S.reverse)
      generalize chainR S = D at *
      generalize chainR S.reverse = U at *
      obtain ⟨n1, hn1⟩ : ∃ n1, n1 = D.length := ⟨_, rfl⟩
      obtain ⟨n2, hn2⟩ : ∃ n2, n2 = U.length := ⟨_, rfl⟩
      rw [← hn1] at hPL HPD hl1 ht1
      rw [← hn2] at hPL HPD hl2 ht2
      by_cases h5 : n1 + n2 < 5
      · have HE := Lib.hid (show hullS l = [] from by rw [E.out, ← HM.out, HPD.out, if_pos h5])
        obtain ⟨A1, c1, rfl, _, _⟩ := hown1.at (n := n1) (by rw [List.length_reverse]; exact hn1.symm) (by omega)
        obtain ⟨A2, c2, rfl, _, _⟩ := hown2.at (n := n2) (by rw [List.length_reverse]; exact hn2.symm) (by omega)
        have w1 : IntKind.i64.wrap ((n1 : Int) + (n2 : Int)) = (n1 : Int) + n2 := IntWalk.i64_in _ (by omega)
        have d5 : (n1 : Int) + n2 < 5 := by omega
        clear hn1 hn2 hown1 hown2 ht1 ht2 hPL
        go_wp2
        go_ret
        exact ⟨_, rfl, hE, by rw [HE.out]; exact Own.nil _ _⟩
      · have HE := Lib.hid (show hullS l = D.reverse.take (n1 - 1) ++ U.reverse.take (n2 - 1) from by rw [E.out, ← HM.out, HPD.out, if_neg h5, ht1, ht2])
        obtain ⟨q1, q2⟩ := hPL (by omega)
        obtain ⟨g1, cap1, rfl, hg1, hcap1⟩ := hown1.head (by rw [List.length_reverse]; omega)
        obtain ⟨g2, cap2, rfl, hg2, hcap2⟩ := hown2.head (by rw [List.length_reverse]; omega)
        have er1 : D.reverse.length = n1 := by rw [List.length_reverse]; exact hn1.symm
        have er2 : U.reverse.length = n2 := by rw [List.length_reverse]; exact hn2.symm
        rw [er1] at hown1 hcap1 ⊢
        rw [er2] at hown2 hcap2 ⊢
        clear er1 er2
        obtain ⟨i1, hi1⟩ : ∃ i1, i1 = n1 - 1 := ⟨_, rfl⟩
        obtain ⟨i2, hi2⟩ : ∃ i2, i2 = n2 - 1 := ⟨_, rfl⟩
        rw [← hi1, ← hi2] at HE
        have hc1 := own_cut hown1 (k := i1) (by omega)
        have hc2 := own_cut hown2 (k := i2) (by omega)
        have hk1 := (own_open hc1).choose_spec.1
        have hk2 := (own_open hc2).choose_spec.1
        have HK1 := Lib.hid hk1
        have HK2 := Lib.hid hk2
        generalize D.reverse.take i1 = d1 at *
        generalize U.reverse.take i2 = d2 at *
        have HB1 := Lib.hid hc1
        have HB2 := Lib.hid hc2
        have w0 : IntKind.i64.wrap ((n1 : Int) + (n2 : Int)) = (n1 : Int) + n2 := IntWalk.i64_in _ (by omega)
        have w1 : IntKind.i64.wrap ((n1 : Int) - 1) = (i1 : Int) := (IntWalk.i64_in _ (by omega)).trans (by omega)
        have w2 : IntKind.i64.wrap ((n2 : Int) - 1) = (i2 : Int) := (IntWalk.i64_in _ (by omega)).trans (by omega)
        have d5 : ((n1 : Int) + n2 < 5) = False := eq_false (by omega)
        have p1 : i1 ≤ cap1 := by omega
        have p2 : i2 ≤ cap2 := by omega
        have p3 : 0 < i2 := by omega
        have p4 : i1 + i2 ≤ 1000000000 := by omega
        clear hn1 hn2 hown1 hown2 ht1 ht2 hPL hi1 hi2 hk1 hk2 hc1 hc2 q1 q2 h5 hl1 hl2 hcap1 hcap2
        go_wp2_with fail
        apply wp_region_par' 14 (by kernel_rfl) (by kernel_rfl) rfl
        simp only [List.take_succ_cons, List.take_zero, List.drop_succ_cons, List.drop_zero]
        generalize hW : World.drew _ = W
        have hEW : Ext w7 W := by rw [← hW]; exact Ext.drew _
        clear hW
        iterate 13
          refine parW_step rfl (fun K hK => ?_)
          apply Exists.intro
          refine ⟨fun z => ?_, ?_⟩
          focus
            go_simp
            first
              | rfl
              | fail
          go_simp
          refine hK _ ?_
          clear hK K
        refine parW_rel rfl (ROwn.stable W.heap.size (d1 ++ d2)) (fun x => ?_) ?_
        · obtain ⟨v', w', hr, hown, hE2⟩ := wpList_app3 38 (w := x.val) (b := g1) (n := i1) (m := i2) (cap := cap2) (l := d1) (r := d2) (sv := .slice (some ⟨g2, 0, none⟩) i2 cap2)
            (fun j u hu => by
              have hB1 := HB1.out.ext (hEW.later x)
              obtain ⟨cur, _, _, hgg, _⟩ := own_open hB1
              have hBB : Box x.val g1 24 cur := hgg
              rw [Addr.add_lit, hBB.cell, Nat.zero_add]
              exact own_cell hB1 hgg hu) HK1.out
            (by
              obtain ⟨A, c, e, k1, k2, k3⟩ := (HB2.out.ext (hEW.later x)).pts (by rw [← HK2.out]; omega)
              rw [e]
              exact ⟨A, c, rfl, k1, k2, k3⟩) HK2.out p3 p4
          exact relStep_app rfl _ _ _ rfl rfl rfl hr hE2 ⟨hown.lower x.prop.size, Nat.le_trans x.prop.size hE2.size⟩
        refine parW_fin (fun z => ?_)
        rintro v ⟨hown, hsz⟩ hp
        clear hp
        have hEz := (hE.trans hEW).trans z.prop
        have hsw := (hE.trans hEW).size
        clear hE
        simp only [Act.put, List.setIfInBounds_toArray, List.set_cons_succ, List.set_cons_zero]
        go_wp2
        go_ret
        exact ⟨_, rfl, hEz, by rw [HE.out]; exact hown.lower hsw⟩
end Go.Proofs.Ythfeamlioiaebaa
