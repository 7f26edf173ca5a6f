/- The reference's ZOrder. -/
import Derived.Test.YtefdheoalonbaaaZLaw
import Derived.Test.YtefdheoalonbaaaHilO
import Derived.Test.YtefdheoalonbaaaTileRef2
set_option linter.unusedVariables false
set_option linter.unusedSimpArgs false
namespace Go.Proofs.Ytefdheoalonbaaa
open Go.RowKit Go.Par

theorem natL_length (l : List Nat) : (natL l).length = l.length := by simp [natL]
theorem natL_append (l m : List Nat) : natL (l ++ m) = natL l ++ natL m := by simp [natL]
theorem natL_get {l : List Nat} {j x : Nat} (h : l[j]? = some x) : (natL l)[j]? = some (x : Int) := by
  unfold natL; rw [List.getElem?_map, h]; rfl
theorem _root_.Go.Par.EL.Own.src0 {P : Program} {α : Type} {E : EL P α} {w : World} {l : List α} {A : Option Addr} {c n : Nat} (hat : E.At w A l) (hn : l.length = n) (hc : n ≤ c) (hb : n ≤ 17592186044416) : E.Row w (.slice A n c) l :=
  ⟨A, c, by rw [hn], by omega, by omega, hat⟩
theorem allT_len {r : R4} {w h : Int} (hv : validT r w h = true) : (allT r w h).length = (timesS (r.2.2.1 - r.1) w).toNat * (timesS (r.2.2.2 - r.2.1) h).toNat := by
  rw [allT_length hv, Nat.mul_comm]
theorem atZ_step {C i j x : Nat} {l : List Nat} (h : l[j]? = some x) (hk : keyS C x < keyS C i) (hj : j ≤ atZ C l i) : j + 1 ≤ atZ C l i := by
  rcases Nat.lt_or_ge j (atZ C l i) with h1 | h1
  · exact h1
  · have e : atZ C l i = j := by omega
    obtain ⟨hl, ex⟩ := List.getElem?_eq_some_iff.1 h
    have h2 := List.findIdx_getElem (p := fun x => !decide (keyS C x < keyS C i)) (xs := l) (w := by unfold atZ at e; rw [e]; exact hl)
    unfold atZ at e
    simp only [e, ex, Bool.not_eq_true', decide_eq_false_iff_not] at h2
    exact absurd hk h2
theorem atZ_stop {C i j x : Nat} {l : List Nat} (h : l[j]? = some x) (hk : ¬ keyS C x < keyS C i) (hj : j ≤ atZ C l i) : j = atZ C l i := by
  rcases Nat.lt_or_ge j (atZ C l i) with h1 | h1
  · have := List.not_of_lt_findIdx h1
    obtain ⟨hl, ex⟩ := List.getElem?_eq_some_iff.1 h
    rw [ex] at this
    simp at this
    exact absurd this (by simpa using hk)
  · omega
theorem natL_take (l : List Nat) (k : Nat) : natL (l.take k) = (natL l).take k := by unfold natL; rw [List.map_take]
theorem natL_drop (l : List Nat) (k : Nat) : natL (l.drop k) = (natL l).drop k := by unfold natL; rw [List.map_drop]
theorem int_drop {w : World} {b o : Nat} {l : List Int} (h : intE.At w (some ⟨b, o, none⟩) l) (k : Nat) : intE.At w (some ⟨b, o + k, none⟩) (l.drop k) := by
  have := h.drop k
  rwa [show intE.size = 1 from rfl, Nat.mul_one] at this
set_option maxRecDepth 100000 in
set_option maxHeartbeats 1600000 in
theorem rZOrder_any (x0 y0 x1 y1 wd ht : Int) (w : World) :
    Calls Try.prog 37 #[.agg #[.int .i64 x0, .int .i64 y0, .int .i64 x1, .int .i64 y1], .int .i64 wd, .int .i64 ht] w fun e w' => ∃ v, e = .returned v ∧ Ext w w' ∧ intE.Own w' w.heap.size v (zOrd (x0, y0, x1, y1) wd ht) := by
  have HV := Lib.hid (fun W => rTileValid_any x0 y0 x1 y1 wd ht W)
  have HCN := Lib.hid (fun W => rCount_any x0 y0 x1 y1 wd ht W)
  have HA := Lib.hid (show zOrd (x0, y0, x1, y1) wd ht = if validT (x0, y0, x1, y1) wd ht then natL (zF (timesS (x1 - x0) wd).toNat ((timesS (x1 - x0) wd).toNat * (timesS (y1 - y0) ht).toNat)) else [] from rfl)
  go_enter Try.func37, Try.ntmps37
  go_wp2_with fail
  refine (HV.out _).mono ?_
  rintro e w1 ⟨rfl, hE⟩
  have bR := (Box.new w 23 #[.int .i64 x0, .int .i64 y0, .int .i64 x1, .int .i64 y1]).ext hE
  replace hE := (Ext.alloc _ _).trans hE
  have cR := bR.cell
  cases hv : validT (x0, y0, x1, y1) wd ht
  · have HR := Lib.hid (show zOrd (x0, y0, x1, y1) wd ht = [] from by rw [HA.out, hv]; rfl)
    clear hv HA HV HCN
    go_wp2
    go_ret
    exact ⟨_, rfl, hE, by rw [HR.out]; exact EL.Own.nil _ _⟩
  · obtain ⟨f1, f2, f3, f4, f5, f6, f7, f8⟩ := dims hv
    obtain ⟨b1, b2, b3, b4, b5, b6⟩ := empty_false f1
    simp only at f4 f5 f6 f7 f8 b1 b2 b3 b4 b5 b6
    rw [hv, if_pos rfl] at HA
    have hlen := allT_len hv
    simp only at hlen
    rw [hlen] at HCN
    have q1 : IntKind.i64.wrap (x1 - x0) = x1 - x0 := IntWalk.i64_in _ (by omega)
    have HT := Lib.hid (fun W => times_any (x1 - x0) wd W (by omega) (by omega) f2)
    generalize timesS (x1 - x0) wd = Ci at *
    generalize timesS (y1 - y0) ht = Ri at *
    obtain ⟨C, rfl⟩ : ∃ C : Nat, Ci = C := ⟨Ci.toNat, by omega⟩
    obtain ⟨R, rfl⟩ : ∃ R : Nat, Ri = R := ⟨Ri.toNat, by omega⟩
    rw [Int.toNat_natCast, Int.toNat_natCast] at HA HCN hlen
    clear hv HV f1 f2 f3 b1 b2 b3 b4 b5 b6
    have g4 : 1 ≤ C := by omega
    have g5 : C ≤ 256 := by omega
    have g8 : C * R ≤ 256 := by
      have : ((C * R : Nat) : Int) = (C : Int) * (R : Int) := Int.natCast_mul _ _
      omega
    obtain ⟨N, hN⟩ : ∃ N, N = C * R := ⟨_, rfl⟩
    rw [← hN] at HA g8 HCN
    have HN := Lib.hid hN
    clear hN f4 f5 f6 f7 f8 hlen
    have d0 : ¬ C = 0 := by omega
    go_wp2_with fail
    refine (HT.out _).mono ?_
    rintro e w2 ⟨rfl, rfl⟩
    clear HT q1
    go_wp2_with fail
    clear cR
    go_loopw [8, 9, 10, 11] (fun s i _ _ wr => ∃ k : Nat, k ≤ N ∧ i = .int .i64 k ∧ Ext w1 wr ∧ intE.Own wr w1.heap.size s (natL (zF C k)) ∧ (k = 0 → s = .slice none 0 0)) (fun _ i _ _ _ => N - (intOf i).toNat)
    case atStart => exact ⟨0, Nat.zero_le _, rfl, Ext.refl _, EL.Own.nil _ _, fun _ => rfl⟩
    case round =>
      obtain ⟨k, hk, rfl, hE3, hown, hnil⟩ := hrel
      have bR3 := bR.ext hE3
      have cR := bR3.cell
      go_wp2_with fail
      refine (HCN.out _).mono ?_
      rintro e w3 ⟨rfl, hE4⟩
      clear cR bR3
      have hE34 := hE4
      replace hE4 := hE3.trans hE4
      by_cases hlt : k < N
      · have dk : ((k : Int) < (N : Int)) = True := eq_true (by omega)
        have hl := zF_length C k
        have HL := Lib.hid hl
        have HZ := Lib.hid (show zF C (k + 1) = insZ C (zF C k) k from rfl)
        have HMEM := Lib.hid (fun x (hx : x ∈ zF C k) => zF_mem.1 hx)
        generalize zF C k = l at *
        clear hl
        obtain ⟨A, c, rfl, hkc, hat⟩ := hown.at (show (natL l).length = k by rw [natL_length, HL.out]) (by omega)
        replace hat := hat.ext hE34
        have HK := Lib.hid (fun W => rmorton_any (k % C) (k / C) W (by have := Nat.mod_lt k g4; omega) (by have := Nat.div_le_self k C; omega))
        have a1 : ((k : Int).tmod (C : Int)) = ((k % C : Nat) : Int) := rfl
        have a3 : ((k : Int).tdiv (C : Int)) = ((k / C : Nat) : Int) := rfl
        have c1 : ((k : Int) % (C : Int)) = ((k % C : Nat) : Int) := rfl
        have c3 : ((k : Int) / (C : Int)) = ((k / C : Nat) : Int) := rfl
        have hkk : moS (k % C) (k / C) = keyS C k := rfl
        rw [hkk] at HK
        have hq2 := Nat.div_le_self k C
        clear hkk
        generalize k % C = p2 at *
        generalize k / C = q2 at *
        have e2 : IntKind.i64.wrap (q2 : Int) = (q2 : Int) := IntWalk.i64_in _ (by omega)
        obtain ⟨at_, hat_⟩ : ∃ a, a = atZ C l k := ⟨_, rfl⟩
        have HAT := Lib.hid hat_
        have hatl : at_ ≤ k := by rw [hat_]; unfold atZ; exact Nat.le_trans List.findIdx_le_length (by rw [HL.out]; exact Nat.le_refl _)
        clear hat_ hq2
        go_wp2_with fail
        generalize hwo : w3 = wo at *
        go_loopw [10] (fun a wr => ∃ j : Nat, j ≤ at_ ∧ a = .int .i64 j ∧ Ext wo wr) (fun a _ => k - (intOf a).toNat)
        case atStart => exact ⟨0, Nat.zero_le _, rfl, Ext.refl _⟩
        case round =>
          obtain ⟨j, hj, rfl, hE5⟩ := hrel
          by_cases hjk : j < k
          · have dj : ((j : Int) < (k : Int)) = True := eq_true (by omega)
            obtain ⟨x, hlx⟩ : ∃ q, l[j]? = some q := ⟨_, List.getElem?_eq_getElem (by rw [HL.out]; exact hjk)⟩
            have HLX := Lib.hid hlx
            obtain ⟨b, o, rfl, hcell⟩ := hat (fun e => by have := natL_get hlx; rw [e] at this; simp at this)
            have e0 := hE5.cell (intE_cell hcell (natL_get hlx))
            have hxk := HMEM.out x (List.mem_of_getElem? HLX.out)
            have hb := HK.out
            have HX := Lib.hid (fun W => rmorton_any (x % C) (x / C) W (by have := Nat.mod_lt x g4; omega) (by have := Nat.div_le_self x C; omega))
            have a5 : ((x : Int).tmod (C : Int)) = ((x % C : Nat) : Int) := rfl
            have a7 : ((x : Int).tdiv (C : Int)) = ((x / C : Nat) : Int) := rfl
            have c5 : ((x : Int) % (C : Int)) = ((x % C : Nat) : Int) := rfl
            have c7 : ((x : Int) / (C : Int)) = ((x / C : Nat) : Int) := rfl
            have hkk : moS (x % C) (x / C) = keyS C x := rfl
            rw [hkk] at HX
            have hq3 := Nat.div_le_self x C
            clear hkk hb hcell hlx
            generalize x % C = p3 at *
            generalize x / C = q3 at *
            have e4 : IntKind.i64.wrap (q3 : Int) = (q3 : Int) := IntWalk.i64_in _ (by omega)
            have qj : IntKind.i64.wrap ((j : Int) + 1) = (j : Int) + 1 := IntWalk.i64_in _ (by omega)
            clear hq3
            go_wp2_with fail
            apply wp_region_par' 27 (by kernel_rfl) (by kernel_rfl) rfl
            simp only [List.take_succ_cons, List.take_zero, List.drop_succ_cons, List.drop_zero]
            generalize hW : World.drew _ = W
            have hEW : Ext wr W := by rw [← hW]; exact Ext.drew _
            clear hW
            replace e0 := fun z : Later W => z.cell (hEW.cell e0)
            by_cases hkey : keyS C x < keyS C k
            · have dkey : ((keyS C x : Int) < (keyS C k : Int)) = True := eq_true (by omega)
              have hstep := atZ_step HLX.out hkey (by rw [← HAT.out]; exact hj)
              rw [← HAT.out] at hstep
              clear hkey
              iterate 27
                refine parW_step rfl (fun K hK => ?_)
                apply Exists.intro
                refine ⟨fun z => ?_, ?_⟩
                focus
                  go_simp
                  first
                    | rfl
                    | with_reducible exact calls_same (HX.out _)
                    | with_reducible exact calls_same (HK.out _)
                go_simp
                refine hK _ ?_
                clear hK K
              refine parW_end (fun z => ?_)
              have hEZ := hE5.trans (hEW.later z)
              generalize z.val = Z at *
              clear z e0
              go_wp2_with fail
              go_roundw
              case rel => exact ⟨j + 1, hstep, by go_num, hEZ⟩
              case measure => simp [intOf]; omega
            · have dkey : ((keyS C x : Int) < (keyS C k : Int)) = False := eq_false (by omega)
              have hstop := atZ_stop HLX.out hkey (by rw [← HAT.out]; exact hj)
              rw [← HAT.out] at hstop
              subst hstop
              clear hkey
              iterate 27
                refine parW_step rfl (fun K hK => ?_)
                apply Exists.intro
                refine ⟨fun z => ?_, ?_⟩
                focus
                  go_simp
                  first
                    | rfl
                    | with_reducible exact calls_same (HX.out _)
                    | with_reducible exact calls_same (HK.out _)
                go_simp
                refine hK _ ?_
                clear hK K
              refine parW_end (fun z => ?_)
              have hEZ := hE5.trans (hEW.later z)
              generalize hzv : z.val = Z at *
              clear hzv z e0 HX HK a5 a7 c5 c7 e4 a1 a3 c1 c3 e2 hE5 hEW qj
              have hrow1 : intE.Row Z (.slice (some ⟨b, o, none⟩) j c) (natL (l.take j)) := EL.Own.src0 (by rw [natL_take]; exact (hat.ext hEZ).take j) (by rw [natL_length, List.length_take, HL.out]; omega) (by omega) (by omega)
              have hlen1 : ([] : List Int).length + (natL (l.take j)).length ≤ 1000000000 := by rw [natL_length, List.length_take]; simp; omega
              have hlen2 : (natL (l.take j)).length + 1 ≤ 1000000000 := by rw [natL_length, List.length_take]; omega
              have hlen3 : (natL (l.take j) ++ [(k : Int)]).length + (natL (l.drop j)).length ≤ 1000000000 := by rw [List.length_append, natL_length, natL_length, List.length_take, List.length_drop, HL.out]; simp; omega
              have hZJ := congrArg natL HZ.out
              unfold insZ at hZJ
              rw [← HAT.out, natL_append, natL_append] at hZJ
              have HZJ := Lib.hid hZJ
              clear hZJ
              have qkj : ((k - j : Nat) : Int) = (k : Int) - (j : Int) := by omega
              have hcj2 : ¬ c = j := by omega
              have hcj3 : ¬ j = c := by omega
              go_wp2_with (at_builtin; first | (refine EL.wpApp intE rfl _ _ rfl Z.heap.size _ _ _ _ rfl rfl (EL.Own.nil Z Z.heap.size) hrow1 hlen1 (Nat.le_refl _) ?_; intro v1 W1 own1 gr1 _; have x1 := growExt (Ext.refl Z) (EL.Own.nil (E := intE) Z Z.heap.size) (Nat.le_refl _) gr1; have hs1 := x1.size; rw [List.nil_append] at own1) | (refine EL.wpApp intE rfl _ _ rfl Z.heap.size _ _ _ _ rfl rfl (own1.ext (Ext.alloc _ _)) (intE_one (Box.new _ _ _)) hlen2 (by simp; omega) ?_; intro v2 W2 own2 gr2 _; have x2 := growExt (x1.trans (Ext.alloc _ _)) (own1.ext (Ext.alloc _ _)) (Nat.le_refl _) gr2; have hs2 := x2.size) | (refine EL.wpApp intE rfl _ _ rfl Z.heap.size _ _ _ _ rfl rfl own2 (EL.Own.src0 (by rw [natL_drop]; exact int_drop (hat.ext (hEZ.trans x2)) j) (by rw [natL_length, List.length_drop, HL.out]) (by omega) (by omega)) hlen3 hs2 ?_; intro v3 W3 own3 gr3 _; have x3 := growExt x2 own2 (Nat.le_refl _) gr3))
              go_roundw
              case rel => exact ⟨k + 1, by omega, by go_num, hE4.trans (hEZ.trans x3), by rw [HZJ.out]; exact own3.lower (hE4.trans hEZ).size, fun h => absurd h (Nat.succ_ne_zero k)⟩
              case measure => simp [intOf]; omega
          · have hj2 : j = at_ := by omega
            subst hj2
            have dj : ((j : Int) < (k : Int)) = False := eq_false (by omega)
            have hjk2 : k = j := by omega
            go_wp2_with fail
            apply wp_region_par' 27 (by kernel_rfl) (by kernel_rfl) rfl
            simp only [List.take_succ_cons, List.take_zero, List.drop_succ_cons, List.drop_zero]
            generalize hW : World.drew _ = W
            have hEW : Ext wr W := by rw [← hW]; exact Ext.drew _
            clear hW
            iterate 27
              refine parW_step rfl (fun K hK => ?_)
              apply Exists.intro
              refine ⟨fun z => ?_, ?_⟩
              focus
                go_simp
                first
                  | rfl
                  | fail
              go_simp
              refine hK _ ?_
              clear hK K
            refine parW_end (fun z => ?_)
            have hEZ := hE5.trans (hEW.later z)
            generalize hzv : z.val = Z at *
            clear hzv z HK a1 a3 c1 c3 e2 hE5 hEW hjk
            subst hjk2
            rcases Nat.eq_zero_or_pos k with h0 | h0
            · clear dj
              subst h0
              have hl0 : l = [] := List.eq_nil_of_length_eq_zero HL.out
              have hln0 := hnil rfl
              injection hln0 with q1 q2 q3
              subst q1
              subst q3
              have hZJ := congrArg natL HZ.out
              unfold insZ at hZJ
              rw [hl0] at hZJ
              have HZJ := Lib.hid (show natL (zF C (0 + 1)) = [] ++ [((0 : Nat) : Int)] ++ [] from hZJ)
              have hlen1 : ([] : List Int).length + ([] : List Int).length ≤ 1000000000 := by decide
              have hlen2 : ([] : List Int).length + 1 ≤ 1000000000 := by decide
              have hlen3 : ([] ++ [((0 : Nat) : Int)] : List Int).length + ([] : List Int).length ≤ 1000000000 := by decide
              go_wp2_with (at_builtin; first | (refine EL.wpApp intE rfl _ _ rfl Z.heap.size _ _ _ _ rfl rfl (EL.Own.nil Z Z.heap.size) ⟨_, _, rfl, Nat.zero_le _, Nat.zero_le _, EL.At.nil _ _⟩ hlen1 (Nat.le_refl _) ?_; intro v1 W1 own1 gr1 _; have x1 := growExt (Ext.refl Z) (EL.Own.nil (E := intE) Z Z.heap.size) (Nat.le_refl _) gr1; have hs1 := x1.size; rw [List.nil_append] at own1) | (refine EL.wpApp intE rfl _ _ rfl Z.heap.size _ _ _ _ rfl rfl (own1.ext (Ext.alloc _ _)) (intE_one (Box.new _ _ _)) hlen2 (by simp; omega) ?_; intro v2 W2 own2 gr2 _; have x2 := growExt (x1.trans (Ext.alloc _ _)) (own1.ext (Ext.alloc _ _)) (Nat.le_refl _) gr2; have hs2 := x2.size) | (refine EL.wpApp intE rfl _ _ rfl Z.heap.size _ _ _ _ rfl rfl own2 (⟨_, _, rfl, Nat.zero_le _, Nat.zero_le _, EL.At.nil _ _⟩) hlen3 hs2 ?_; intro v3 W3 own3 gr3 _; have x3 := growExt x2 own2 (Nat.le_refl _) gr3))
              go_roundw
              case rel => exact ⟨0 + 1, by omega, by go_num, hE4.trans (hEZ.trans x3), by rw [HZJ.out]; exact own3.lower (hE4.trans hEZ).size, fun h => absurd h (Nat.succ_ne_zero 0)⟩
              case measure => simp [intOf]; omega
            · obtain ⟨b, o, rfl, _⟩ := hat (fun e => by have := natL_length l; rw [e, HL.out] at this; simp at this; omega)
              have hrow1 : intE.Row Z (.slice (some ⟨b, o, none⟩) k c) (natL (l.take k)) := EL.Own.src0 (by rw [natL_take]; exact (hat.ext hEZ).take k) (by rw [natL_length, List.length_take, HL.out]; omega) (by omega) (by omega)
              have hlen1 : ([] : List Int).length + (natL (l.take k)).length ≤ 1000000000 := by rw [natL_length, List.length_take]; simp; omega
              have hlen2 : (natL (l.take k)).length + 1 ≤ 1000000000 := by rw [natL_length, List.length_take]; omega
              have hlen3 : (natL (l.take k) ++ [(k : Int)]).length + (natL (l.drop k)).length ≤ 1000000000 := by rw [List.length_append, natL_length, natL_length, List.length_take, List.length_drop, HL.out]; simp; omega
              have hZJ := congrArg natL HZ.out
              unfold insZ at hZJ
              rw [← HAT.out, natL_append, natL_append] at hZJ
              have HZJ := Lib.hid hZJ
              clear hZJ
              have qkj : ((k - k : Nat) : Int) = (k : Int) - (k : Int) := by omega
              have hd0 : l.drop k = [] := List.drop_eq_nil_of_le (by rw [HL.out]; omega)
              rw [hd0] at hlen3 HZJ
              by_cases hcj : c = k
              · subst hcj
                go_wp2_with (at_builtin; first | (refine EL.wpApp intE rfl _ _ rfl Z.heap.size _ _ _ _ rfl rfl (EL.Own.nil Z Z.heap.size) hrow1 hlen1 (Nat.le_refl _) ?_; intro v1 W1 own1 gr1 _; have x1 := growExt (Ext.refl Z) (EL.Own.nil (E := intE) Z Z.heap.size) (Nat.le_refl _) gr1; have hs1 := x1.size; rw [List.nil_append] at own1) | (refine EL.wpApp intE rfl _ _ rfl Z.heap.size _ _ _ _ rfl rfl (own1.ext (Ext.alloc _ _)) (intE_one (Box.new _ _ _)) hlen2 (by simp; omega) ?_; intro v2 W2 own2 gr2 _; have x2 := growExt (x1.trans (Ext.alloc _ _)) (own1.ext (Ext.alloc _ _)) (Nat.le_refl _) gr2; have hs2 := x2.size) | (refine EL.wpApp intE rfl _ _ rfl Z.heap.size _ _ _ _ rfl rfl own2 (⟨_, _, rfl, Nat.zero_le _, Nat.zero_le _, EL.At.nil _ _⟩) hlen3 hs2 ?_; intro v3 W3 own3 gr3 _; have x3 := growExt x2 own2 (Nat.le_refl _) gr3))
                go_roundw
                case rel => exact ⟨c + 1, by omega, by go_num, hE4.trans (hEZ.trans x3), by rw [HZJ.out]; exact own3.lower (hE4.trans hEZ).size, fun h => absurd h (Nat.succ_ne_zero c)⟩
                case measure => simp [intOf]; omega
              · have hcj2 : ¬ k = c := fun e => hcj e.symm
                go_wp2_with (at_builtin; first | (refine EL.wpApp intE rfl _ _ rfl Z.heap.size _ _ _ _ rfl rfl (EL.Own.nil Z Z.heap.size) hrow1 hlen1 (Nat.le_refl _) ?_; intro v1 W1 own1 gr1 _; have x1 := growExt (Ext.refl Z) (EL.Own.nil (E := intE) Z Z.heap.size) (Nat.le_refl _) gr1; have hs1 := x1.size; rw [List.nil_append] at own1) | (refine EL.wpApp intE rfl _ _ rfl Z.heap.size _ _ _ _ rfl rfl (own1.ext (Ext.alloc _ _)) (intE_one (Box.new _ _ _)) hlen2 (by simp; omega) ?_; intro v2 W2 own2 gr2 _; have x2 := growExt (x1.trans (Ext.alloc _ _)) (own1.ext (Ext.alloc _ _)) (Nat.le_refl _) gr2; have hs2 := x2.size) | (refine EL.wpApp intE rfl _ _ rfl Z.heap.size _ _ _ _ rfl rfl own2 (⟨_, _, rfl, Nat.zero_le _, Nat.zero_le _, EL.At.nil _ _⟩) hlen3 hs2 ?_; intro v3 W3 own3 gr3 _; have x3 := growExt x2 own2 (Nat.le_refl _) gr3))
                go_roundw
                case rel => exact ⟨k + 1, by omega, by go_num, hE4.trans (hEZ.trans x3), by rw [HZJ.out]; exact own3.lower (hE4.trans hEZ).size, fun h => absurd h (Nat.succ_ne_zero k)⟩
                case measure => simp [intOf]; omega
      · have dk : ((k : Int) < (N : Int)) = False := eq_false (by omega)
        obtain rfl : k = N := by omega
        go_wp2
        go_ret
        exact ⟨_, rfl, hE.trans hE4, by rw [HA.out]; exact (hown.ext hE34).lower hE.size⟩
end Go.Proofs.Ytefdheoalonbaaa
