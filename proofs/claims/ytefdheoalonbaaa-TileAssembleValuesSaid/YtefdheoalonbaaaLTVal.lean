/- TileAssembleValues: the walk. -/
import Derived.Test.YtefdheoalonbaaaAsmB
import Derived.Test.YtefdheoalonbaaaEx
set_option linter.unusedVariables false
set_option linter.unusedSimpArgs false
namespace Go.Proofs.Ytefdheoalonbaaa
open Go.RowKit Go.Par

/-- the slice of a bitmap reads as pixels -/
def PxQ (w : World) (s : BS) : Prop := ∃ l, l.length = s.2.2.1 ∧ s.2.2.1 ≤ s.2.2.2 ∧ s.2.2.2 ≤ maxLen ∧ pixE.At w s.2.1 l
theorem bms_ex {w : World} : ∀ (ss : List BS), (∀ s ∈ ss, PxQ w s) → (∀ s ∈ ss, s.2.2.1 ≤ 400) → ∃ bs, BmsOf w ss bs
  | [], _, _ => ⟨[], BmsOf.nil w⟩
  | s :: ss, h, h2 => by
    obtain ⟨bs, hb⟩ := bms_ex ss (fun s hs => h s (List.mem_cons_of_mem _ hs)) (fun s hs => h2 s (List.mem_cons_of_mem _ hs))
    obtain ⟨l, h3, h4, h5, h6⟩ := h s (List.mem_cons_self ..)
    have h7 := h2 s (List.mem_cons_self ..)
    refine ⟨(s.1, l) :: bs, by simp [hb.1], fun i b hi => ?_⟩
    cases i with
    | zero =>
      simp at hi
      subst hi
      exact ⟨s, rfl, rfl, h3.symm, h4, by show l.length ≤ _; omega, h6⟩
    | succ i => exact hb.2 i b (by simpa using hi)
set_option maxRecDepth 100000 in
set_option maxHeartbeats 1600000 in
theorem tileAssembleValues_any (x0 y0 x1 y1 : Int) (A : Option Addr) (c n : Nat) (ss : List BS) (w : World) (hn : ss.length = n) (hat : bmE.At w A ss) (hq : ∀ s ∈ ss, PxQ w s) :
    Calls Try.prog 5 #[.agg #[.int .i64 x0, .int .i64 y0, .int .i64 x1, .int .i64 y1], .slice A n c] w fun e w' => e = .returned (.bool true) ∧ Ext w w' := by
  have HA := Lib.hid (fun W => rArea_any x0 y0 x1 y1 W)
  have hab := areaR_bd (x0, y0, x1, y1)
  obtain ⟨ar, har⟩ : ∃ ar, areaR (x0, y0, x1, y1) = ar := ⟨_, rfl⟩
  rw [har] at HA hab
  have HN := Lib.hid hn
  have HQ := Lib.hid hq
  clear har hn hq
  have b2 := Box.new w 23 #[.int .i64 x0, .int .i64 y0, .int .i64 x1, .int .i64 y1]
  have hE := Ext.alloc w (.cells #[.int .i64 x0, .int .i64 y0, .int .i64 x1, .int .i64 y1] 23)
  go_enter Try.func5, Try.ntmps5
  go_wp2_with fail
  refine (HA.out _).mono ?_
  rintro e w1 ⟨rfl, hE1⟩
  replace b2 := b2.ext hE1
  replace hE := hE.trans hE1
  clear hE1
  by_cases hn40 : 40 < n
  · have dn : ((40 : Int) < (n : Int)) = True := eq_true (by omega)
    have dn' : 40 < n := hn40
    have c2 := b2.cell
    by_cases h4 : 400 < ar
    · have d1 : (400 < ar) = True := eq_true h4
      by_cases h6 : ar ≤ 65536
      · have d2 : (ar ≤ 65536) = True := eq_true h6
        go_wp2_with fail
        refine (HA.out _).mono ?_
        rintro e w2 ⟨rfl, hE2⟩
        go_wp2_with fail
        refine (example_any _).mono ?_
        rintro e w3 ⟨rfl, hE3⟩
        go_wp2
        go_ret
        exact ⟨ret_eq rfl, (hE.trans hE2).trans hE3⟩
      · have d2 : (ar ≤ 65536) = False := eq_false h6
        go_wp2_with fail
        refine (HA.out _).mono ?_
        rintro e w2 ⟨rfl, hE2⟩
        go_wp2_with fail
        refine (example_any _).mono ?_
        rintro e w3 ⟨rfl, hE3⟩
        go_wp2
        go_ret
        exact ⟨ret_eq rfl, (hE.trans hE2).trans hE3⟩
    · have d1 : (400 < ar) = False := eq_false h4
      go_wp2_with fail
      refine (example_any _).mono ?_
      rintro e w3 ⟨rfl, hE3⟩
      go_wp2
      go_ret
      exact ⟨ret_eq rfl, hE.trans hE3⟩
  have dn : ((40 : Int) < (n : Int)) = False := eq_false (by omega)
  have c2 := b2.cell
  by_cases h4 : 400 < ar
  · have d1 : (400 < ar) = True := eq_true h4
    by_cases h6 : ar ≤ 65536
    · have d2 : (ar ≤ 65536) = True := eq_true h6
      go_wp2_with fail
      refine (HA.out _).mono ?_
      rintro e w2 ⟨rfl, hE2⟩
      go_wp2_with fail
      refine (example_any _).mono ?_
      rintro e w3 ⟨rfl, hE3⟩
      go_wp2
      go_ret
      exact ⟨ret_eq rfl, (hE.trans hE2).trans hE3⟩
    · have d2 : (ar ≤ 65536) = False := eq_false h6
      go_wp2_with fail
      refine (HA.out _).mono ?_
      rintro e w2 ⟨rfl, hE2⟩
      replace b2 := b2.ext hE2
      replace hE := hE.trans hE2
      clear hE2 c2
      go_wp2_with fail
      clear d1 d2 dn h4 h6
      go_loopw [26] (fun i wr => ∃ k : Nat, k ≤ n ∧ i = .int .i64 k ∧ Ext w2 wr ∧ Hid (∀ j, j < k → ∀ s, ss[j]? = some s → s.2.2.1 ≤ 400)) (fun i _ => n - (intOf i).toNat)
      case atStart => exact ⟨0, Nat.zero_le _, rfl, Ext.refl _, Lib.hid (fun j hj => absurd hj (by omega))⟩
      case round =>
        obtain ⟨k, hk, rfl, hE4, HT⟩ := hrel
        have hEE := hE.trans hE4
        have b3 := b2.ext hE4
        by_cases hlt : k < n
        · have dk : ((k : Int) < (n : Int)) = True := eq_true (by omega)
          obtain ⟨⟨⟨r0, r1, r2, r3⟩, A1, n1, c1⟩, hsk⟩ : ∃ q, ss[k]? = some q := ⟨_, List.getElem?_eq_getElem (by rw [HN.out]; exact hlt)⟩
          obtain ⟨bb, o, rfl, hcell⟩ := hat (fun e => by rw [e] at hsk; simp at hsk)
          obtain ⟨e0, e1, e2, e3, e4⟩ := bm_cells hcell hsk
          replace e4 := hEE.cell e4
          dsimp only at e4
          have HX := Lib.hid hsk
          clear hcell hsk e0 e1 e2 e3
          by_cases h400 : 400 < n1
          · have d4 : ((400 : Int) < (n1 : Int)) = True := eq_true (by omega)
            go_wp2_with fail
            refine (example_any _).mono ?_
            rintro e w3 ⟨rfl, hE5⟩
            go_wp2
            go_ret
            exact ⟨ret_eq rfl, hEE.trans hE5⟩
          · have d4 : ((400 : Int) < (n1 : Int)) = False := eq_false (by omega)
            have HS := Lib.hid (show ∀ j, j < k + 1 → ∀ s, ss[j]? = some s → s.2.2.1 ≤ 400 from fun j hj s hs => by
              by_cases hjk : j < k
              · exact HT.out j hjk s hs
              · have : j = k := by omega
                subst this
                rw [HX.out] at hs
                injection hs with hs
                rw [← hs]; show n1 ≤ 400; omega)
            clear HT h400
            go_wp2_with fail
            go_roundw
            case rel => exact ⟨k + 1, by omega, by go_num, hE4, HS⟩
            case measure => simp [intOf]; omega
        · have dk : ((k : Int) < (n : Int)) = False := eq_false (by omega)
          obtain ⟨bs, hbs⟩ := bms_ex ss HQ.out (fun s hs => by
            obtain ⟨j, hj⟩ := List.mem_iff_getElem?.1 hs
            exact HT.out j (by have := (List.getElem?_eq_some_iff.1 hj).1; rw [HN.out] at this; omega) s hj)
          have HP := Lib.hid (fun W (k : Ext w W) => pAsm_all x0 y0 x1 y1 A c n ss bs W HN.out (by omega) (hat.ext k) (hbs.ext k))
          have HR := Lib.hid (fun W (k : Ext w W) => rAsm_all x0 y0 x1 y1 A c n ss bs W HN.out (by omega) (hat.ext k) (hbs.ext k))
          have c2 := b3.cell
          clear HT hbs hE4
          go_wp2_with fail
          refine (HP.out _ hEE).mono ?_
          rintro e w4 ⟨q0, q1, q2, q3, A1, n1, c1, l1, rfl, hE5, hB1, hl1, hc1, hm1, hat1⟩
          have HB1 := Lib.hid hB1
          have HL1 := Lib.hid hl1
          clear hB1 hl1 c2
          generalize hcode : asmE (x0, y0, x1, y1) bs = code at *
          have HCD := Lib.hid hcode
          have b4 := (b3.ext hE5).alloc (.cells #[.int .i64 q0, .int .i64 q1, .int .i64 q2, .int .i64 q3, .slice A1 n1 c1] 34)
          have hE6 := (hEE.trans hE5).trans (Ext.alloc w4 (.cells #[.int .i64 q0, .int .i64 q1, .int .i64 q2, .int .i64 q3, .slice A1 n1 c1] 34))
          have hat1' := hat1.ext (Ext.alloc w4 (.cells #[.int .i64 q0, .int .i64 q1, .int .i64 q2, .int .i64 q3, .slice A1 n1 c1] 34))
          have bA := Box.new w4 34 #[.int .i64 q0, .int .i64 q1, .int .i64 q2, .int .i64 q3, .slice A1 n1 c1]
          have c2 := b4.cell
          clear hcode
          go_wp2_with fail
          refine (HR.out _ hE6).mono ?_
          rintro e w5 ⟨p0, p1, p2, p3, A2, n2, c3, l2, rfl, hE7, hB2, hl2, hc2, hm2, hat2⟩
          rw [HCD.out]
          have HEQ := Lib.hid (fun W (k1 : Ext w5 W) => BmEqual_any q0 q1 q2 q3 p0 p1 p2 p3 A1 A2 c1 c3 n1 n2 l1 l2 W HL1.out hl2 (by omega) (by omega) (hat1'.ext (hE7.trans k1)) (hat2.ext k1))
          rw [decide_eq_true (HB1.out.trans hB2.symm)] at HEQ
          have bA' := (bA.ext hE7).alloc (.cells #[.int .i64 p0, .int .i64 p1, .int .i64 p2, .int .i64 p3, .slice A2 n2 c3] 34)
          have cA := bA'.cell
          have hE8 := hE6.trans hE7
          have dc : (code == code) = true := by simp
          clear hB2 hl2 c2
          go_wp2_with fail
          refine (HEQ.out _ (Ext.alloc _ _)).mono ?_
          rintro e w6 ⟨rfl, hE9⟩
          go_wp2_with fail
          refine (example_any _).mono ?_
          rintro e w7 ⟨rfl, hE10⟩
          go_wp2
          go_ret
          exact ⟨ret_eq rfl, ((hE8.trans (Ext.alloc _ _)).trans hE9).trans hE10⟩
  · have d1 : (400 < ar) = False := eq_false h4
    clear c2
    go_wp2_with fail
    clear d1 dn h4
    go_loopw [26] (fun i wr => ∃ k : Nat, k ≤ n ∧ i = .int .i64 k ∧ Ext w1 wr ∧ Hid (∀ j, j < k → ∀ s, ss[j]? = some s → s.2.2.1 ≤ 400)) (fun i _ => n - (intOf i).toNat)
    case atStart => exact ⟨0, Nat.zero_le _, rfl, Ext.refl _, Lib.hid (fun j hj => absurd hj (by omega))⟩
    case round =>
      obtain ⟨k, hk, rfl, hE4, HT⟩ := hrel
      have hEE := hE.trans hE4
      have b3 := b2.ext hE4
      by_cases hlt : k < n
      · have dk : ((k : Int) < (n : Int)) = True := eq_true (by omega)
        obtain ⟨⟨⟨r0, r1, r2, r3⟩, A1, n1, c1⟩, hsk⟩ : ∃ q, ss[k]? = some q := ⟨_, List.getElem?_eq_getElem (by rw [HN.out]; exact hlt)⟩
        obtain ⟨bb, o, rfl, hcell⟩ := hat (fun e => by rw [e] at hsk; simp at hsk)
        obtain ⟨e0, e1, e2, e3, e4⟩ := bm_cells hcell hsk
        replace e4 := hEE.cell e4
        dsimp only at e4
        have HX := Lib.hid hsk
        clear hcell hsk e0 e1 e2 e3
        by_cases h400 : 400 < n1
        · have d4 : ((400 : Int) < (n1 : Int)) = True := eq_true (by omega)
          go_wp2_with fail
          refine (example_any _).mono ?_
          rintro e w3 ⟨rfl, hE5⟩
          go_wp2
          go_ret
          exact ⟨ret_eq rfl, hEE.trans hE5⟩
        · have d4 : ((400 : Int) < (n1 : Int)) = False := eq_false (by omega)
          have HS := Lib.hid (show ∀ j, j < k + 1 → ∀ s, ss[j]? = some s → s.2.2.1 ≤ 400 from fun j hj s hs => by
            by_cases hjk : j < k
            · exact HT.out j hjk s hs
            · have : j = k := by omega
              subst this
              rw [HX.out] at hs
              injection hs with hs
              rw [← hs]; show n1 ≤ 400; omega)
          clear HT h400
          go_wp2_with fail
          go_roundw
          case rel => exact ⟨k + 1, by omega, by go_num, hE4, HS⟩
          case measure => simp [intOf]; omega
      · have dk : ((k : Int) < (n : Int)) = False := eq_false (by omega)
        obtain ⟨bs, hbs⟩ := bms_ex ss HQ.out (fun s hs => by
          obtain ⟨j, hj⟩ := List.mem_iff_getElem?.1 hs
          exact HT.out j (by have := (List.getElem?_eq_some_iff.1 hj).1; rw [HN.out] at this; omega) s hj)
        have HP := Lib.hid (fun W (k : Ext w W) => pAsm_all x0 y0 x1 y1 A c n ss bs W HN.out (by omega) (hat.ext k) (hbs.ext k))
        have HR := Lib.hid (fun W (k : Ext w W) => rAsm_all x0 y0 x1 y1 A c n ss bs W HN.out (by omega) (hat.ext k) (hbs.ext k))
        have c2 := b3.cell
        clear HT hbs hE4
        go_wp2_with fail
        refine (HP.out _ hEE).mono ?_
        rintro e w4 ⟨q0, q1, q2, q3, A1, n1, c1, l1, rfl, hE5, hB1, hl1, hc1, hm1, hat1⟩
        have HB1 := Lib.hid hB1
        have HL1 := Lib.hid hl1
        clear hB1 hl1 c2
        generalize hcode : asmE (x0, y0, x1, y1) bs = code at *
        have HCD := Lib.hid hcode
        have b4 := (b3.ext hE5).alloc (.cells #[.int .i64 q0, .int .i64 q1, .int .i64 q2, .int .i64 q3, .slice A1 n1 c1] 34)
        have hE6 := (hEE.trans hE5).trans (Ext.alloc w4 (.cells #[.int .i64 q0, .int .i64 q1, .int .i64 q2, .int .i64 q3, .slice A1 n1 c1] 34))
        have hat1' := hat1.ext (Ext.alloc w4 (.cells #[.int .i64 q0, .int .i64 q1, .int .i64 q2, .int .i64 q3, .slice A1 n1 c1] 34))
        have bA := Box.new w4 34 #[.int .i64 q0, .int .i64 q1, .int .i64 q2, .int .i64 q3, .slice A1 n1 c1]
        have c2 := b4.cell
        clear hcode
        go_wp2_with fail
        refine (HR.out _ hE6).mono ?_
        rintro e w5 ⟨p0, p1, p2, p3, A2, n2, c3, l2, rfl, hE7, hB2, hl2, hc2, hm2, hat2⟩
        rw [HCD.out]
        have HEQ := Lib.hid (fun W (k1 : Ext w5 W) => BmEqual_any q0 q1 q2 q3 p0 p1 p2 p3 A1 A2 c1 c3 n1 n2 l1 l2 W HL1.out hl2 (by omega) (by omega) (hat1'.ext (hE7.trans k1)) (hat2.ext k1))
        rw [decide_eq_true (HB1.out.trans hB2.symm)] at HEQ
        have bA' := (bA.ext hE7).alloc (.cells #[.int .i64 p0, .int .i64 p1, .int .i64 p2, .int .i64 p3, .slice A2 n2 c3] 34)
        have cA := bA'.cell
        have hE8 := hE6.trans hE7
        have dc : (code == code) = true := by simp
        clear hB2 hl2 c2
        go_wp2_with fail
        refine (HEQ.out _ (Ext.alloc _ _)).mono ?_
        rintro e w6 ⟨rfl, hE9⟩
        go_wp2_with fail
        refine (example_any _).mono ?_
        rintro e w7 ⟨rfl, hE10⟩
        go_wp2
        go_ret
        exact ⟨ret_eq rfl, ((hE8.trans (Ext.alloc _ _)).trans hE9).trans hE10⟩
end Go.Proofs.Ytefdheoalonbaaa
