/- TileOrdersPermute: the walk. -/
import Derived.Test.YtefdheoalonbaaaMix
import Derived.Test.YtefdheoalonbaaaHilP
import Derived.Test.YtefdheoalonbaaaEx
set_option linter.unusedVariables false
set_option linter.unusedSimpArgs false
namespace Go.Proofs.Ytefdheoalonbaaa
open Go.RowKit Go.Par

abbrev rangeI (N : Nat) : List Int := (List.range N).map fun (k : Nat) => (k : Int)
theorem rangeI_mem {n : Nat} {x : Int} : x ∈ rangeI n ↔ 0 ≤ x ∧ x < n := by
  simp only [rangeI, List.mem_map, List.mem_range]
  constructor
  · rintro ⟨k, hk, rfl⟩; omega
  · rintro ⟨h1, h2⟩; exact ⟨x.toNat, by omega, by omega⟩
theorem rangeI_nodup (n : Nat) : (rangeI n).Nodup := nodup_map List.nodup_range (fun a b h => by omega)
theorem zOrd_perm {r : R4} {w h : Int} (hv : validT r w h = true) : (zOrd r w h).Perm (rangeI (allT r w h).length) := by
  rw [allT_length hv]
  unfold zOrd
  rw [hv, if_pos rfl, Nat.mul_comm]
  exact (zF_perm _ _).map _
set_option maxRecDepth 100000 in
set_option maxHeartbeats 1600000 in
theorem perm_any (l : List Int) (N : Nat) (A : Option Addr) (c : Nat) (w : World) (hN : N ≤ 256) (hp : l.Perm (rangeI N)) (hat : intE.At w A l) :
    Calls Try.prog 40 #[.slice A N c, .int .i64 N] w fun e w' => e = .returned (.bool true) ∧ Ext w w' := by
  have HP := Lib.hid hp
  have HL := Lib.hid (show l.length = N from by rw [hp.length_eq, List.length_map, List.length_range])
  clear hp
  go_enter Try.func40, Try.ntmps40
  go_wp2_with fail
  obtain ⟨W, hW, cs0, hcs0, hb0⟩ : ∃ W, W = w.alloc (.cells (Array.replicate 256 (.bool false)) 55) ∧ ∃ cs0 : Array Value, cs0 = Array.replicate 256 (.bool false) ∧ Box W w.heap.size 55 cs0 := ⟨_, rfl, _, rfl, Box.new _ _ _⟩
  have hEW : Ext w W := by rw [hW]; exact Ext.alloc _ _
  change Code.wp _ _ _ _ (w.alloc (.cells (Array.replicate 256 (.bool false)) 55))
  rw [← hW]
  clear hW
  have HS0 := Lib.hid (show cs0.size = 256 ∧ ∀ k : Nat, k < 256 → cs0[k]? = some (.bool (decide ((k : Int) ∈ l.take 0))) from by
    rw [hcs0]
    refine ⟨by simp, fun k hk => ?_⟩
    rw [Array.getElem?_replicate, if_pos hk]; simp)
  clear hcs0
  generalize hB6 : w.heap.size = B6 at *
  have hb6 : w.heap.size ≤ B6 := Nat.le_of_eq hB6
  clear hB6
  have hsz := hb0.lt
  go_loopw [10] (fun i wr => ∃ (j : Nat) (cs : Array Value), j ≤ N ∧ i = .int .i64 j ∧ Ext w wr ∧ Box wr B6 55 cs ∧ Hid (cs.size = 256 ∧ ∀ k : Nat, k < 256 → cs[k]? = some (.bool (decide ((k : Int) ∈ l.take j))))) (fun i _ => N - (intOf i).toNat)
  case atStart => exact ⟨0, cs0, Nat.zero_le _, rfl, hEW, hb0, HS0⟩
  case round =>
    obtain ⟨j, cs, hj, rfl, hE3, hb, HS⟩ := hrel
    by_cases hlt : j < N
    · have dj : ((j : Int) < (N : Int)) = True := eq_true (by omega)
      obtain ⟨x, hlx⟩ : ∃ q, l[j]? = some q := ⟨_, List.getElem?_eq_getElem (by rw [HL.out]; exact hlt)⟩
      obtain ⟨bb, o, rfl, hcell⟩ := hat (fun e => by rw [e] at hlx; simp at hlx)
      have e0 := hE3.cell (intE_cell hcell hlx)
      have hmem := rangeI_mem.1 (HP.out.mem_iff.1 (List.mem_of_getElem? hlx))
      have hnd := HP.out.nodup_iff.2 (rangeI_nodup N)
      obtain ⟨k, rfl⟩ : ∃ k : Nat, x = k := ⟨x.toNat, by omega⟩
      have hkm : k < N := by omega
      have hnot : (k : Int) ∉ l.take j := fun hin => by
        obtain ⟨i, hi⟩ := List.mem_iff_getElem?.1 hin
        rw [List.getElem?_take] at hi
        split at hi
        · next hij =>
          have := (List.pairwise_iff_getElem.1 hnd) i j (by rw [HL.out]; omega) (by rw [HL.out]; omega) hij
          obtain ⟨q1, q2⟩ := List.getElem?_eq_some_iff.1 hi
          obtain ⟨q3, q4⟩ := List.getElem?_eq_some_iff.1 hlx
          rw [q2, q4] at this
          exact this rfl
        · cases hi
      have ec : wr.cell? ⟨B6, k, none⟩ = some (.bool false) := by
        rw [hb.cell, HS.out.2 k (by omega), decide_eq_false hnot]
      have fc : wr.frozen? ⟨B6, k, none⟩ = false := hb.frozen k
      have HS' := Lib.hid (show (cs.setIfInBounds k (.bool true)).size = 256 ∧ ∀ i : Nat, i < 256 → (cs.setIfInBounds k (.bool true))[i]? = some (.bool (decide ((i : Int) ∈ l.take (j + 1)))) from by
        refine ⟨by rw [Array.size_setIfInBounds]; exact HS.out.1, fun i hi => ?_⟩
        rw [Array.getElem?_setIfInBounds, take_snocG hlx]
        by_cases hki : k = i
        · subst hki
          rw [if_pos rfl, if_pos (by rw [HS.out.1]; omega)]
          simp
        · rw [if_neg hki, HS.out.2 i hi]
          congr 2
          simp only [List.mem_append, List.mem_singleton, decide_eq_decide]
          constructor
          · exact .inl
          · rintro (h | h)
            · exact h
            · omega)
      have d1 : ((k : Int) < 0) = False := eq_false (by omega)
      have d2 : ((N : Int) ≤ (k : Int)) = False := eq_false (by omega)
      have d3 : k < 256 := by omega
      have d4 : (256 ≤ (k : Int)) = False := eq_false (by omega)
      clear hcell hlx hmem hnd hnot
      go_wp2_with fail
      go_roundw
      case rel => exact ⟨j + 1, _, by omega, by go_num, hE3.setNew (by omega) _ _, hb.set k (.bool true), HS'⟩
      case measure => simp [intOf]; omega
    · have dj : ((j : Int) < (N : Int)) = False := eq_false (by omega)
      have d5 : ((N : Int) == (N : Int)) = true := by simp
      go_wp2
      go_ret
      exact ⟨ret_eq rfl, hE3⟩
def pickS (ss : List BS) (o : List Int) : List BS := o.map fun i => ss.getD i.toNat ((0, 0, 0, 0), none, 0, 0)
theorem pickS_length (ss : List BS) (o : List Int) : (pickS ss o).length = o.length := by simp [pickS]
theorem pickS_snoc {ss : List BS} {o : List Int} {j m : Nat} {x : BS} (ho : o[j]? = some (m : Int)) (hx : ss[m]? = some x) : pickS ss (o.take (j + 1)) = pickS ss (o.take j) ++ [x] := by
  unfold pickS
  rw [take_snocG ho, List.map_append]
  simp only [List.map_cons, List.map_nil, Int.toNat_natCast, List.getD_eq_getElem?_getD, hx]
  rfl
theorem BmsOf.pick {w : World} {ss : List BS} {L : List BM} (h : BmsOf w ss L) {o : List Int} (ho : ∀ x ∈ o, 0 ≤ x ∧ x < L.length) : BmsOf w (pickS ss o) (pickB L o) := by
  refine ⟨by simp [pickS, pickB], fun i b hb => ?_⟩
  unfold pickB at hb
  rw [List.getElem?_map] at hb
  cases hx : o[i]? with
  | none => rw [hx] at hb; cases hb
  | some x =>
    rw [hx] at hb
    simp only [Option.map_some, Option.some.injEq] at hb
    obtain ⟨x0, x1⟩ := ho x (List.mem_of_getElem? hx)
    have hl : x.toNat < L.length := by omega
    rw [List.getD_eq_getElem?_getD, List.getElem?_eq_getElem hl] at hb
    obtain ⟨s, h1, h2⟩ := h.2 x.toNat b (by rw [List.getElem?_eq_getElem hl]; exact congrArg some hb)
    exact ⟨s, by unfold pickS; rw [List.getElem?_map, hx]; simp only [Option.map_some, List.getD_eq_getElem?_getD, h1]; rfl, h2⟩
/-- two rows of numbers in a slice of slices -/
def TwoR (B : Nat) (l1 l2 : List Int) (N : Nat) : VP := fun v w => ∃ b A1 c1 A2 c2, v = .slice (some ⟨b, 0, none⟩) 2 2 ∧ B ≤ b ∧ Box w b 49 #[.slice A1 N c1, .slice A2 N c2] ∧ intE.At w A1 l1 ∧ intE.At w A2 l2
theorem TwoR.stable (B : Nat) (l1 l2 : List Int) (N : Nat) : Stable (TwoR B l1 l2 N) := fun _ _ _ ⟨b, A1, c1, A2, c2, h1, h2, h3, h4, h5⟩ he => ⟨b, A1, c1, A2, c2, h1, h2, h3.ext he, h4.ext he, h5.ext he⟩
set_option maxRecDepth 100000 in
set_option maxHeartbeats 1600000 in
theorem tileOrdersPermute_any (x0 y0 x1 y1 wd ht : Int) (A : Option Addr) (c n : Nat) (l : List P4) (w : World) (hn : l.length = n) (hnc : n ≤ c) (hat : pixE.At w A l) (hw2 : wd ≤ 9223372036854775807) (hh2 : ht ≤ 9223372036854775807) :
    Calls Try.prog 11 #[.agg #[.int .i64 x0, .int .i64 y0, .int .i64 x1, .int .i64 y1, .slice A n c], .int .i64 wd, .int .i64 ht] w fun e w' => e = .returned (.bool true) ∧ Ext w w' := by
  have HF := Lib.hid (fun W => few_any x0 y0 x1 y1 wd ht W)
  generalize fewS (x0, y0, x1, y1) wd ht = f at *
  have b3 := Box.new w 34 #[.int .i64 x0, .int .i64 y0, .int .i64 x1, .int .i64 y1, .slice A n c]
  have hE := Ext.alloc w (.cells #[.int .i64 x0, .int .i64 y0, .int .i64 x1, .int .i64 y1, .slice A n c] 34)
  have HHN := Lib.hid hn
  clear hn
  go_enter Try.func11, Try.ntmps11
  by_cases h400 : 400 < n
  · have d1 : ((400 : Int) < (n : Int)) = True := eq_true (by omega)
    have d1' : 400 < n := h400
    go_wp2_with fail
    refine (example_any _).mono ?_
    rintro e w2 ⟨rfl, hE2⟩
    go_wp2
    go_ret
    exact ⟨rfl, hE.trans hE2⟩
  have d1 : ((400 : Int) < (n : Int)) = False := eq_false (by omega)
  go_wp2_with fail
  refine (HF.out _).mono ?_
  rintro e w1 ⟨rfl, hE1⟩
  replace b3 := b3.ext hE1
  replace hE := hE.trans hE1
  clear hE1 d1
  cases f
  · go_wp2_with fail
    refine (example_any _).mono ?_
    rintro e w2 ⟨rfl, hE2⟩
    go_wp2
    go_ret
    exact ⟨rfl, hE.trans hE2⟩
  have c3 := b3.cell
  cases hok : bmOk ((x0, y0, x1, y1), l)
  · have HB := Lib.hid (fun W (k : Ext w W) => SplitBad_any x0 y0 x1 y1 A c n l wd ht W HHN.out (by omega) (hat.ext k) hok)
    clear hok
    go_wp2_with fail
    refine (HB.out _ hE).mono ?_
    rintro e w2 ⟨rfl, hE2⟩
    go_wp2_with fail
    refine (example_any _).mono ?_
    rintro e w3 ⟨rfl, hE3⟩
    go_wp2
    go_ret
    exact ⟨ret_eq rfl, (hE.trans hE2).trans hE3⟩
  cases hv : validT (x0, y0, x1, y1) wd ht
  · have HB := Lib.hid (fun W (k : Ext w W) => SplitArg_any x0 y0 x1 y1 A c n l wd ht W HHN.out (by omega) (hat.ext k) hok hv)
    clear hok hv
    go_wp2_with fail
    refine (HB.out _ hE).mono ?_
    rintro e w2 ⟨rfl, hE2⟩
    go_wp2_with fail
    refine (example_any _).mono ?_
    rintro e w3 ⟨rfl, hE3⟩
    go_wp2
    go_ret
    exact ⟨ret_eq rfl, (hE.trans hE2).trans hE3⟩
  have HB := Lib.hid (fun W (k : Ext w W) => Split_any x0 y0 x1 y1 A c n l wd ht W HHN.out hnc (by omega) (hat.ext k) hok hv hw2 hh2)
  have HZ := Lib.hid (fun W => ZOrder_any x0 y0 x1 y1 wd ht W)
  have HH := Lib.hid (fun W => HilbertOrder_any x0 y0 x1 y1 wd ht W)
  have hz := zOrd_perm hv
  have hh := hilOrd_perm hv
  have hle := allT_le (x0, y0, x1, y1) wd ht
  have hNN : ((allT (x0, y0, x1, y1) wd ht).map (cropS ((x0, y0, x1, y1), l))).length = (allT (x0, y0, x1, y1) wd ht).length := by rw [List.length_map]
  have hN1 : 1 ≤ (allT (x0, y0, x1, y1) wd ht).length := by
    rw [allT_length hv]
    obtain ⟨f1, f2, f3, f4, f5, f6, f7, f8⟩ := dims hv
    exact Nat.mul_pos (by omega) (by omega)
  have HMX := Lib.hid (fun (m : List BM) (hm : m.Perm ((allT (x0, y0, x1, y1) wd ht).map (cropS ((x0, y0, x1, y1), l)))) => mixed_whole (s := ((x0, y0, x1, y1), l)) (w := wd) (h := ht) hok hv hm)
  have HCK := Lib.hid (fun (b : BM) (hb : b ∈ (allT (x0, y0, x1, y1) wd ht).map (cropS ((x0, y0, x1, y1), l))) => cut_ok (s := ((x0, y0, x1, y1), l)) hok wd ht b hb)
  have hem := (validT_true hv).1
  have har : areaR (x0, y0, x1, y1) ≤ 65536 := (bmOk_facts hok).2.1
  generalize (allT (x0, y0, x1, y1) wd ht).map (cropS ((x0, y0, x1, y1), l)) = L at *
  generalize (allT (x0, y0, x1, y1) wd ht).length = N at *
  generalize zOrd (x0, y0, x1, y1) wd ht = O1 at *
  generalize hilOrd (x0, y0, x1, y1) wd ht = O2 at *
  have HNN := Lib.hid hNN
  have HO1 := Lib.hid hz
  have HO2 := Lib.hid hh
  have HEM := Lib.hid hem
  clear hok hv hNN hz hh hem
  go_wp2_with fail
  refine (HB.out _ hE).mono ?_
  rintro e w2 ⟨v, ss, rfl, hE1, hown, hbms⟩
  have hsl : ss.length = N := by rw [hbms.1, HNN.out]
  obtain ⟨AS, cS, rfl, hSc, hatS⟩ := hown.at hsl (by omega)
  have HBM := Lib.hid hbms
  have HSL := Lib.hid hsl
  replace b3 := b3.ext hE1
  replace hE := hE.trans hE1
  have hatW := hat.ext hE
  clear hE1 c3 hown hbms hsl HB
  have c3 := b3.cell
  have d2 : ((N : Int) == 0) = false := by simp; omega
  have d2' : ¬ N = 0 := by omega
  go_wp2_with fail
  have HL1 := Lib.hid (show O1.length = N from by rw [HO1.out.length_eq, List.length_map, List.length_range])
  have HL2 := Lib.hid (show O2.length = N from by rw [HO2.out.length_eq, List.length_map, List.length_range])
  apply wp_region_par' 13 (by kernel_rfl) (by kernel_rfl) rfl
  simp only [List.take_succ_cons, List.take_zero, List.drop_succ_cons, List.drop_zero]
  generalize hW : World.drew _ = W
  have hEW : Ext w2 W := by rw [← hW]; exact Ext.drew _
  replace b3 := b3.ext hEW
  clear hW c3
  have k3 := b3.lcell
  iterate 4
    refine parW_step rfl (fun K hK => ?_)
    apply Exists.intro
    refine ⟨fun z => ?_, ?_⟩
    focus
      go_simp
      first
        | rfl
        | fail
    go_simp
    refine hK _ ?_
    clear hK K
  refine parW_rel rfl (IR.stable O1) (fun x => ?_) ?_
  · have hc := (HZ.out x.val).mono (R' := fun e w' => ∃ v, e = .returned v ∧ Ext x.val w' ∧ IR O1 v w') fun e w' ⟨v, h1, h2, h3⟩ => ⟨v, h1, h2, IR.of h3 (by rw [HL1.out]; omega)⟩
    simp only [Giv]
    go_simp
    exact calls_rel hc
  iterate 4
    refine parW_step rfl (fun K hK => ?_)
    apply Exists.intro
    refine ⟨fun z => ?_, ?_⟩
    focus
      go_simp
      first
        | rfl
        | fail
    go_simp
    refine hK _ ?_
    clear hK K
  refine parW_rel rfl (IR.stable O2) (fun x => ?_) ?_
  · intro v0 hv0
    have hc := (HH.out x.val).mono (R' := fun e w' => ∃ v, e = .returned v ∧ Ext x.val w' ∧ IR O2 v w') fun e w' ⟨v, h1, h2, h3⟩ => ⟨v, h1, h2, IR.of h3 (by rw [HL2.out]; omega)⟩
    simp only [Giv]
    go_simp
    exact calls_rel hc
  refine parW_rel rfl (TwoR.stable W.heap.size O1 O2 N) (fun x => ?_) ?_
  · intro v1 hv1 v2 hv2
    obtain ⟨A1, n1, c1, rfl, e1, g1⟩ := hv1 (show Nat.testBit _ _ = true from by kernel_rfl)
    obtain ⟨A2, n2, c2, rfl, e2, g2⟩ := hv2 (show Nat.testBit _ _ = true from by kernel_rfl)
    have q1 : n1 = N := by rw [← e1, HL1.out]
    have q2 : n2 = N := by rw [← e2, HL2.out]
    subst q1
    subst q2
    simp only [Giv]
    go_simp
    exact ⟨Ext.alloc _ _, _, _, _, _, _, rfl, x.prop.size, Box.new _ _ _, g1.ext (Ext.alloc _ _), g2.ext (Ext.alloc _ _)⟩
  refine parW_giv (c := .int .i64 2) (fun x => ?_) ?_
  · intro v1 hv1 v2 hv2 v3 hv3
    obtain ⟨b, A1, c1, A2, c2, rfl, _⟩ := hv3 (show Nat.testBit _ _ = true from by kernel_rfl)
    simp only [Giv]
    go_simp
  iterate 1
    refine parW_step rfl (fun K hK => ?_)
    apply Exists.intro
    refine ⟨fun z => ?_, ?_⟩
    focus
      go_simp
      first
        | rfl
        | fail
    go_simp
    refine hK _ ?_
    clear hK K
  refine parW_fin (fun z => ?_)
  rintro v1 hv1 v2 hv2 v3 ⟨b57, A1, c1, A2, c2, rfl, hb57, bx, g1, g2⟩ hp
  clear hp hv1 hv2
  simp only [Act.put, List.setIfInBounds_toArray, List.set_cons_succ, List.set_cons_zero]
  replace b3 := b3.later z
  replace hE := (hE.trans hEW).later z
  replace hatW := hatW.ext (hEW.later z)
  replace hatS := hatS.ext (hEW.later z)
  replace HBM := Lib.hid (HBM.out.of.ext (hEW.later z))
  generalize z.val = Z at *
  clear k3 z hEW hb57
  have HCH := Lib.hid (show ∀ k : Nat, k < 2 → ∃ Ao co Oo, Z.cell? ⟨b57, k, none⟩ = some (.slice Ao N co) ∧ intE.At Z Ao Oo ∧ Oo.Perm (rangeI N) from fun k hk => by
    rcases (by omega : k = 0 ∨ k = 1) with rfl | rfl
    · exact ⟨A1, c1, O1, by rw [bx.cell]; rfl, g1, HO1.out⟩
    · exact ⟨A2, c2, O2, by rw [bx.cell]; rfl, g2, HO2.out⟩)
  clear HO1 HO2 HL1 HL2 HZ HH g1 g2 bx A1 c1 A2 c2 HF
  go_wp2_with fail
  go_loopw [59] (fun i wr => ∃ k : Nat, k ≤ 2 ∧ i = .int .i64 k ∧ Ext Z wr) (fun i _ => 2 - (intOf i).toNat)
  case atStart => exact ⟨0, Nat.zero_le _, rfl, Ext.refl _⟩
  case round =>
    obtain ⟨k, hk, rfl, hE3⟩ := hrel
    by_cases hlt : k < 2
    · have dk : ((k : Int) < 2) = True := eq_true (by omega)
      obtain ⟨Ao, co, Oo, hcell, hato, hpo⟩ := HCH.out k hlt
      replace hcell := hE3.cell hcell
      replace hato := hato.ext hE3
      have HPO := Lib.hid hpo
      have HLO := Lib.hid (show Oo.length = N from by rw [hpo.length_eq, List.length_map, List.length_range])
      have HPM := Lib.hid (fun W (k : Ext wr W) => perm_any Oo N Ao co W hle hpo (hato.ext k))
      clear hpo
      go_wp2_with fail
      refine (HPM.out _ (Ext.refl _)).mono ?_
      rintro e w4 ⟨rfl, hE5⟩
      replace hato := hato.ext hE5
      replace hE3 := hE3.trans hE5
      clear hE5 hcell HPM dk
      go_wp2_with fail
      generalize hwo : w4 = wo at *
      go_loopw [11, 70] (fun s i wr => ∃ j : Nat, j ≤ N ∧ i = .int .i64 j ∧ Ext wo wr ∧ bmE.Own wr wo.heap.size s (pickS ss (Oo.take j))) (fun _ i _ => N - (intOf i).toNat)
      case atStart => exact ⟨0, Nat.zero_le _, rfl, Ext.refl _, EL.Own.nil _ _⟩
      case round =>
        obtain ⟨j, hj, rfl, hE5, hown⟩ := hrel
        by_cases hltj : j < N
        · have dj : ((j : Int) < (N : Int)) = True := eq_true (by omega)
          obtain ⟨x, hlx⟩ : ∃ q, Oo[j]? = some q := ⟨_, List.getElem?_eq_getElem (by rw [HLO.out]; exact hltj)⟩
          have hmem := rangeI_mem.1 (HPO.out.mem_iff.1 (List.mem_of_getElem? hlx))
          obtain ⟨m, rfl⟩ : ∃ m : Nat, x = m := ⟨x.toNat, by omega⟩
          have hmN : m < N := by omega
          obtain ⟨⟨⟨r0, r1, r2, r3⟩, A4, n4, c4⟩, hsx⟩ : ∃ q, ss[m]? = some q := ⟨_, List.getElem?_eq_getElem (by rw [HSL.out]; exact hmN)⟩
          have HPS := Lib.hid (pickS_snoc hlx hsx)
          obtain ⟨bo, oo, rfl, hco⟩ := hato (fun e => by rw [e] at hlx; simp at hlx)
          obtain ⟨bb, o, rfl, hcs⟩ := hatS (fun e => by rw [e] at hsx; simp at hsx)
          have i0 := hE5.cell (intE_cell hco hlx)
          obtain ⟨e0, e1, e2, e3, e4⟩ := bm_cells hcs hsx
          have hEE := hE3.trans hE5
          replace e0 := hEE.cell e0
          replace e1 := hEE.cell e1
          replace e2 := hEE.cell e2
          replace e3 := hEE.cell e3
          replace e4 := hEE.cell e4
          dsimp only at e0 e1 e2 e3 e4
          have hEX := Ext.alloc wr (.cells #[.int .i64 r0, .int .i64 r1, .int .i64 r2, .int .i64 r3, .slice A4 n4 c4] 34)
          have bX := Box.new wr 34 #[.int .i64 r0, .int .i64 r1, .int .i64 r2, .int .i64 r3, .slice A4 n4 c4]
          have hrow := bmE_one bX
          have hownX := hown.ext hEX
          have HLL := Lib.hid (show (pickS ss (Oo.take j)).length + ([((r0, r1, r2, r3), A4, n4, c4)] : List BS).length ≤ 1000000000 from by rw [pickS_length, List.length_take]; simp; omega)
          have hsz := (hE5.trans hEX).size
          clear hlx hsx hco hcs hmem bX
          go_wp2_with (at_builtin; refine EL.wpApp bmE rfl _ _ rfl wo.heap.size _ _ _ [((r0, r1, r2, r3), A4, n4, c4)] rfl rfl hownX hrow HLL.out hsz ?_; intro v1 W1 own1 gr1 _; have hE7 := growExt (hE5.trans hEX) hownX (Nat.le_refl _) gr1)
          go_roundw
          case rel => exact ⟨j + 1, by omega, by go_num, hE7, by rw [HPS.out]; exact own1⟩
          case measure => simp [intOf]; omega
        · have dj : ((j : Int) < (N : Int)) = False := eq_false (by omega)
          have htk : Oo.take j = Oo := List.take_of_length_le (by rw [HLO.out]; omega)
          rw [htk] at hown
          obtain ⟨AM, cM, rfl, hMc, hatM⟩ := hown.at (show (pickS ss Oo).length = N from by rw [pickS_length, HLO.out]) (by omega)
          have hEE := hE3.trans hE5
          have hrange : ∀ x ∈ Oo, 0 ≤ x ∧ x < L.length := fun x hx => by
            have := rangeI_mem.1 (HPO.out.mem_iff.1 hx)
            rw [HNN.out]; exact this
          have hbsM := (HBM.out.ext hEE).pick hrange
          have hperm : (pickB L Oo).Perm L := pickB_perm (by rw [HNN.out]; exact HPO.out)
          obtain ⟨hcode, hpx⟩ := HMX.out _ hperm
          have hallM : (pickB L Oo).all bmOk = true := List.all_eq_true.2 fun b hb => HCK.out b (hperm.mem_iff.1 hb)
          have HAS := Lib.hid (fun W => AsmMain_any x0 y0 x1 y1 AM cM N (pickS ss Oo) (pickB L Oo) W (by rw [pickS_length, HLO.out]) (by omega))
          have HPX := Lib.hid hpx
          have HCO := Lib.hid hcode
          have HBS := Lib.hid hbsM
          have HAL := Lib.hid hallM
          replace b3 := b3.ext hEE
          have c3 := b3.cell
          clear htk hown hpx hcode hrange hperm hbsM hallM
          go_wp2_with fail
          refine (HAS.out wr hatM HBS.out HEM.out har HAL.out).mono ?_
          rintro e w5 ⟨q0, q1, q2, q3, vj, rfl, hE7, h0, -⟩
          obtain ⟨hq, hownJ⟩ := h0 HCO.out
          rw [HCO.out]
          rw [HPX.out] at hownJ
          simp only [Prod.mk.injEq] at hq
          obtain ⟨rfl, rfl, rfl, rfl⟩ := hq
          obtain ⟨AJ, cJ, rfl, hJc, hatJ⟩ := hownJ.at HHN.out (by omega)
          have hEF := hEE.trans hE7
          have b3' := (b3.ext hE7).alloc (.cells #[.int .i64 q0, .int .i64 q1, .int .i64 q2, .int .i64 q3, .slice AJ n cJ] 34)
          clear c3 h0 hownJ HAS
          have c3 := b3'.cell
          have HEQ := Lib.hid (fun W (k1 : Ext w5 W) => BmEqual_any q0 q1 q2 q3 q0 q1 q2 q3 AJ A cJ c n n l l W HHN.out HHN.out (by omega) (by omega) (hatJ.ext k1) ((hatW.ext hEF).ext k1))
          go_wp2_with fail
          refine (HEQ.out _ (Ext.alloc _ _)).mono ?_
          first | rw [decide_eq_true rfl] | rw [show decide True = true from rfl]
          rintro e w6 ⟨rfl, hE8⟩
          go_wp2_with fail
          go_roundw
          case rel => exact ⟨k + 1, by omega, by go_num, (hEF.trans (Ext.alloc _ _)).trans hE8⟩
          case measure => simp [intOf]; omega
    · have dk : ((k : Int) < 2) = False := eq_false (by omega)
      go_wp2_with fail
      refine (example_any _).mono ?_
      rintro e w4 ⟨rfl, hE4⟩
      go_wp2
      go_ret
      exact ⟨rfl, (hE.trans hE3).trans hE4⟩
end Go.Proofs.Ytefdheoalonbaaa
