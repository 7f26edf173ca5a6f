/- tile.Assemble: a bitmap that is not valid. -/
import Derived.Test.YtefdheoalonbaaaAsm
set_option linter.unusedVariables false
set_option linter.unusedSimpArgs false
namespace Go.Proofs.Ytefdheoalonbaaa
open Go.RowKit Go.Par

set_option maxHeartbeats 1600000 in
set_option maxRecDepth 100000 in
theorem AsmBad_any (x0 y0 x1 y1 : Int) (A : Option Addr) (c n : Nat) (ss : List BS) (bs : List BM) (w : World) (hn : ss.length = n) (hb : n ≤ 17592186044416) (hat : bmE.At w A ss) (hbs : BmsOf w ss bs) (hem : rectEmptyS (x0, y0, x1, y1) = false) (har : areaR (x0, y0, x1, y1) ≤ 65536)
    (hbad : bs.all bmOk = false) :
    Calls Try.prog 27 #[.agg #[.int .i64 x0, .int .i64 y0, .int .i64 x1, .int .i64 y1], .slice A n c] w fun e w' => e = .returned (.tuple #[.agg #[.int .i64 0, .int .i64 0, .int .i64 0, .int .i64 0, .slice none 0 0], .int .i64 15]) ∧ Ext w w' := by
  have HV := Lib.hid (fun W => pEmpty_any x0 y0 x1 y1 W)
  have HA := Lib.hid (fun W => pArea_any x0 y0 x1 y1 W)
  rw [hem] at HV
  have hbd := areaR_bd (x0, y0, x1, y1)
  generalize areaR (x0, y0, x1, y1) = ar at *
  have HN := Lib.hid hn
  have HBL := Lib.hid (show bs.length = n from by rw [← hbs.1]; exact hn)
  have HBAD := Lib.hid hbad
  clear hem hn hbad
  go_enter Try.func27, Try.ntmps27
  have b2 := (Box.new w 23 #[.int .i64 x0, .int .i64 y0, .int .i64 x1, .int .i64 y1]).alloc (.cells #[.int .i64 0, .int .i64 0, .int .i64 0, .int .i64 0, .slice none 0 0] 34)
  have b4 := Box.at1 (w := w) (o := .cells #[.int .i64 x0, .int .i64 y0, .int .i64 x1, .int .i64 y1] 23) (t := 34) (cs := #[.int .i64 0, .int .i64 0, .int .i64 0, .int .i64 0, .slice none 0 0])
  have hE := (Ext.alloc w (.cells #[.int .i64 x0, .int .i64 y0, .int .i64 x1, .int .i64 y1] 23)).trans (Ext.alloc _ (.cells #[.int .i64 0, .int .i64 0, .int .i64 0, .int .i64 0, .slice none 0 0] 34))
  go_wp2_with fail
  refine (HV.out _).mono ?_
  rintro e w1 ⟨rfl, hE1⟩
  replace b2 := b2.ext hE1
  replace b4 := b4.ext hE1
  replace hE := hE.trans hE1
  clear hE1
  have c2 := b2.cell
  go_wp2_with fail
  refine (HA.out _).mono ?_
  rintro e w2 ⟨rfl, hE1⟩
  replace b2 := b2.ext hE1
  replace b4 := b4.ext hE1
  replace hE := hE.trans hE1
  clear c2 hE1 HV HA
  have d1 : ((65536 : Int) < ar) = False := eq_false (by omega)
  go_wp2_with fail
  go_loopw [28] (fun i wr => ∃ k : Nat, k ≤ n ∧ i = .int .i64 k ∧ Ext w2 wr ∧ Hid (∀ j, j < k → ∀ b, bs[j]? = some b → bmOk b = true)) (fun i _ => n - (intOf i).toNat)
  case atStart => exact ⟨0, Nat.zero_le _, rfl, Ext.refl _, Lib.hid (fun j hj => absurd hj (by omega))⟩
  case round =>
    obtain ⟨k, hk, rfl, hE3, HT⟩ := hrel
    by_cases hlt : k < n
    · obtain ⟨⟨⟨r0, r1, r2, r3⟩, l⟩, hbk⟩ : ∃ q, bs[k]? = some q := ⟨_, List.getElem?_eq_getElem (by rw [HBL.out]; exact hlt)⟩
      obtain ⟨⟨q, A1, n1, c1⟩, hsk, g1, g2, g3, g4, g5⟩ := hbs.2 k _ hbk
      dsimp only at g1 g2 g3 g4 g5
      subst g1
      obtain ⟨bb, o, rfl, hcell⟩ := hat (fun e => by rw [e] at hsk; simp at hsk)
      obtain ⟨e0, e1, e2, e3, e4⟩ := bm_cells hcell hsk
      have hEE := hE.trans hE3
      replace e0 := hEE.cell e0
      replace e1 := hEE.cell e1
      replace e2 := hEE.cell e2
      replace e3 := hEE.cell e3
      replace e4 := hEE.cell e4
      dsimp only at e0 e1 e2 e3 e4
      have HX := Lib.hid hbk
      have HV := Lib.hid (fun W (k : Ext w W) => BmValid_any r0 r1 r2 r3 A1 c1 n1 l W g2.symm (by omega) (g5.ext k))
      clear hcell hsk hbk g2 g3 g4 g5
      go_wp2_with fail
      refine (HV.out _ (hEE.trans (Ext.alloc _ _))).mono ?_
      rintro e w3 ⟨rfl, hE4⟩
      have hE34 := (Ext.alloc wr (.cells #[.int .i64 r0, .int .i64 r1, .int .i64 r2, .int .i64 r3, .slice A1 n1 c1] 34)).trans hE4
      cases hp : bmOk ((r0, r1, r2, r3), l)
      · have b5 := b4.ext (hE3.trans hE34)
        have c4 := b5.cell
        have f4 := b5.frozen
        clear hp HT
        go_wp2
        exact bodyPost_ret (v := .tuple #[.agg #[.int .i64 0, .int .i64 0, .int .i64 0, .int .i64 0, .slice none 0 0], .int .i64 15]) (by simp [results, Try.results27, go_sem, List.size_toArray, c4, f4]) rfl ⟨rfl, (hEE.trans hE34).set5 (by omega) _ _ _ _ _⟩
      · have HS := Lib.hid (show ∀ j, j < k + 1 → ∀ b, bs[j]? = some b → bmOk b = true from fun j hj b hq => by
          by_cases hkj : j < k
          · exact HT.out j hkj b hq
          · have : j = k := by omega
            subst this
            rw [HX.out] at hq
            injection hq with hq
            rw [← hq, hp])
        clear hp HT
        go_wp2
        go_roundw
        case rel => exact ⟨k + 1, by omega, by go_num, hE3.trans hE34, HS⟩
        case measure => simp [intOf]; omega
    · exfalso
      have := HBAD.out
      rw [List.all_eq_false] at this
      obtain ⟨b, hb, hbb⟩ := this
      obtain ⟨j, hj⟩ := List.mem_iff_getElem?.1 hb
      have hjl := (List.getElem?_eq_some_iff.1 hj).1
      rw [HBL.out] at hjl
      exact hbb (HT.out j (by omega) b hj)
end Go.Proofs.Ytefdheoalonbaaa
