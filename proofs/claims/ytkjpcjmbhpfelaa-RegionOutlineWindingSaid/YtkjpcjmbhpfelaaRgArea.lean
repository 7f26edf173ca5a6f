/- Area and Bounds of the program. -/
import Derived.Test.YtkjpcjmbhpfelaaRgNew
set_option linter.unusedVariables false
set_option linter.unusedSimpArgs false
namespace Go.Reg
open Go.Proofs.Ytkjpcjmbhpfelaa
theorem sumArea_append (l m : List R4) : sumArea (l ++ m) = sumArea l + sumArea m := by unfold sumArea; rw [List.map_append, sumL_append]
theorem sumArea_one (r : R4) : sumArea [r] = areaR r := by simp [sumArea, sumL]
theorem sumArea_nonneg (l : List R4) : 0 ≤ sumArea l := by
  induction l with
  | nil => simp [sumArea, sumL]
  | cons r l ih =>
    have e : sumArea (r :: l) = areaR r + sumArea l := rfl
    have := (areaR_bd r).1
    omega
theorem sumArea_take (l : List R4) (k : Nat) : sumArea (l.take k) ≤ sumArea l := by
  have e : l = l.take k ++ l.drop k := (List.take_append_drop k l).symm
  have := sumArea_append (l.take k) (l.drop k)
  rw [← e] at this
  have := sumArea_nonneg (l.drop k)
  omega
end Go.Reg
namespace Go.Proofs.Ytkjpcjmbhpfelaa
open Go.RowKit Go.Par Go.Reg

set_option maxHeartbeats 1600000 in
theorem Area_any (l : List R4) (A : Option Addr) (n c : Nat) (w : World) (hn : l.length = n) (hb : n ≤ 1024) (h1 : rectE.At w A l) :
    Calls Try.prog 29 #[.slice A n c] w fun e w' => e = .returned (.int .i64 (pixCount (inL l))) ∧ Ext w w' := by
  have H := Lib.hid (bands_any l [] A none n c 0 0 45 _ w hn rfl (by omega) (by omega) h1 (EL.At.nil _ _) either_keep rfl)
  have HW := Lib.hid (keepS_win (keep := fun p q => p || q) rfl l [])
  have HA := Lib.hid (fun a b c d W => pArea_any a b c d W)
  have HP := Lib.hid (pixCount_bd (inL l))
  have HIW := Lib.hid (inL_win l)
  clear hn h1
  go_enter Try.func29, Try.ntmps29
  go_wp2_with fail
  refine H.out.mono ?_
  rintro e w1 ⟨v, ss, B, rfl, hE, hown, hba, hok, hin⟩
  obtain ⟨hl1, hreg, hl2⟩ := bands_next HW.out hok hin
  obtain ⟨A6, c6, rfl, hat⟩ := hown.at (n := ss.length) rfl (by rw [hba.1]; omega)
  have HM := Lib.hid (rects_any B ss A6 ss.length c6 w1 rfl (by rw [hba.1]; omega) hat.2 hba (by omega))
  have HR := Lib.hid ((hreg.congr (keep_nil l)).area HIW.out)
  clear hown hba hok hin hat hreg hl2
  generalize ss.length = n2 at *
  generalize rectsB B = L at *
  go_wp2_with fail
  refine HM.out.mono ?_
  rintro e w2 ⟨v2, rfl, hE2, hown2⟩
  obtain ⟨N, hN⟩ : ∃ N, L.length = N := ⟨_, rfl⟩
  obtain ⟨A7, c7, rfl, _, hat2⟩ := hown2.at hN (by omega)
  have HN := Lib.hid hN
  have hNb : N ≤ 67108864 := by omega
  clear hown2 HM hN hl1
  go_wp2_with fail
  go_loopw [3, 10] (fun s i wr => ∃ k : Nat, k ≤ N ∧ i = .int .i64 k ∧ s = .int .i64 (sumArea (L.take k)) ∧ Ext w2 wr) (fun _ i _ => N - (intOf i).toNat)
  case atStart => exact ⟨0, Nat.zero_le _, rfl, rfl, Ext.refl _⟩
  case round =>
    obtain ⟨k, hk, rfl, rfl, hE3⟩ := hrel
    by_cases hlt : k < N
    · have dk : ((k : Int) < (N : Int)) = True := eq_true (by omega)
      obtain ⟨⟨x0, x1, x2, x3⟩, hlk⟩ : ∃ q, L[k]? = some q := ⟨_, List.getElem?_eq_getElem (by rw [HN.out]; exact hlt)⟩
      obtain ⟨b, o, rfl⟩ := hat2.addr hlk
      obtain ⟨e0, e1, e2, e3⟩ := rect_cell hat2 hlk
      replace e0 := hE3.cell e0
      replace e1 := hE3.cell e1
      replace e2 := hE3.cell e2
      replace e3 := hE3.cell e3
      dsimp only at e0 e1 e2 e3
      have hsn : sumArea (L.take (k + 1)) = sumArea (L.take k) + areaR (x0, x1, x2, x3) := by rw [take_snocG hlk, sumArea_append, sumArea_one]
      have hb1 := sumArea_take L (k + 1)
      rw [HR.out, hsn] at hb1
      have hb2 := sumArea_nonneg (L.take k)
      have hb3 := (areaR_bd (x0, x1, x2, x3)).1
      have hb4 := HP.out
      have HA' := Lib.hid (fun W => HA.out x0 x1 x2 x3 W)
      have HS := Lib.hid hsn
      generalize sumArea (L.take k) = t at *
      generalize areaR (x0, x1, x2, x3) = ar at *
      have q1 : IntKind.i64.wrap (t + ar) = t + ar := IntWalk.i64_in _ (by omega)
      clear hlk hsn hb1 hb2 hb3 hb4
      go_wp2_with fail
      have hEa := hE3.trans (Ext.alloc wr (.cells #[.int .i64 x0, .int .i64 x1, .int .i64 x2, .int .i64 x3] 29))
      refine (HA'.out _).mono ?_
      rintro e w4 ⟨rfl, hE4⟩
      go_wp2
      go_roundw
      case rel => exact ⟨k + 1, by omega, by go_num, by rw [HS.out], hEa.trans hE4⟩
      case measure => simp [intOf]; omega
    · have dk : ((k : Int) < (N : Int)) = False := eq_false (by omega)
      have HS := Lib.hid (show sumArea (L.take k) = pixCount (inL l) from by rw [List.take_of_length_le (by rw [HN.out]; omega), HR.out])
      rw [HS.out]
      go_wp2
      go_ret
      exact ⟨rfl, (hE.trans hE2).trans hE3⟩
theorem boxL_take {l : List R4} {k : Nat} {r : R4} (h : l[k]? = some r) : boxL (l.take (k + 1)) = unionS (boxL (l.take k)) r := by rw [take_snocG h, boxL_snoc]
set_option maxHeartbeats 1600000 in
theorem Bounds_any (l : List R4) (A : Option Addr) (n c : Nat) (w : World) (hn : l.length = n) (hb : n ≤ 17592186044416) (h1 : rectE.At w A l) :
    Calls Try.prog 31 #[.slice A n c] w fun e w' => e = .returned (rectV (boxL l)) ∧ Ext w w' := by
  have HN := Lib.hid hn
  have HU := Lib.hid (fun a b c d p q r s W => pUnion_any a b c d p q r s W)
  clear hn
  have hE0 := (Ext.alloc w (.cells #[.int .i64 0, .int .i64 0, .int .i64 0, .int .i64 0] 29)).trans (Ext.alloc _ (.cells #[.int .i64 0, .int .i64 0, .int .i64 0, .int .i64 0] 29))
  have b2 := (Box.new w 29 #[.int .i64 0, .int .i64 0, .int .i64 0, .int .i64 0]).alloc (.cells #[.int .i64 0, .int .i64 0, .int .i64 0, .int .i64 0] 29)
  have b3 := Box.at1 (w := w) (o := .cells #[.int .i64 0, .int .i64 0, .int .i64 0, .int .i64 0] 29) (t := 29) (cs := #[.int .i64 0, .int .i64 0, .int .i64 0, .int .i64 0])
  go_enter Try.func31, Try.ntmps31
  go_wp2_with fail
  generalize hW0 : World.alloc (World.alloc w _) _ = W0 at *
  clear hW0
  obtain ⟨B2, hB2⟩ : ∃ B2, w.heap.size = B2 := ⟨_, rfl⟩
  have HB2 := Lib.hid hB2
  rw [hB2] at b2 b3 ⊢
  clear hB2
  go_loopw [8] (fun i wr => ∃ (k : Nat) (p0 p1 p2 p3 : Int), k ≤ n ∧ i = .int .i64 k ∧ Ext w wr ∧ Box wr B2 29 #[.int .i64 0, .int .i64 0, .int .i64 0, .int .i64 0] ∧ Box wr (B2 + 1) 29 #[.int .i64 p0, .int .i64 p1, .int .i64 p2, .int .i64 p3] ∧ Hid (boxL (l.take k) = (p0, p1, p2, p3))) (fun i _ => n - (intOf i).toNat)
  case atStart => exact ⟨0, 0, 0, 0, 0, Nat.zero_le _, rfl, hE0, b2, b3, Lib.hid rfl⟩
  case round =>
    clear hE0 b2 b3
    obtain ⟨k, p0, p1, p2, p3, hk, rfl, hE, b2, b3, HP⟩ := hrel
    by_cases hlt : k < n
    · have dk : ((k : Int) < (n : Int)) = True := eq_true (by omega)
      obtain ⟨⟨x0, x1, x2, x3⟩, hlk⟩ : ∃ q, l[k]? = some q := ⟨_, List.getElem?_eq_getElem (by rw [HN.out]; exact hlt)⟩
      obtain ⟨b, o, rfl⟩ := h1.addr hlk
      obtain ⟨e0, e1, e2, e3⟩ := rect_cell h1 hlk
      replace e0 := hE.cell e0
      replace e1 := hE.cell e1
      replace e2 := hE.cell e2
      replace e3 := hE.cell e3
      dsimp only at e0 e1 e2 e3
      have HX := Lib.hid (show boxL (l.take (k + 1)) = unionS (p0, p1, p2, p3) (x0, x1, x2, x3) from by rw [boxL_take hlk, HP.out])
      have HU' := Lib.hid (fun W => HU.out p0 p1 p2 p3 x0 x1 x2 x3 W)
      generalize unionS (p0, p1, p2, p3) (x0, x1, x2, x3) = u at *
      obtain ⟨u0, u1, u2, u3⟩ := u
      unfold rectV at HU'
      have hEa := hE.trans (Ext.alloc wr (.cells #[.int .i64 x0, .int .i64 x1, .int .i64 x2, .int .i64 x3] 29))
      replace b2 := b2.alloc (.cells #[.int .i64 x0, .int .i64 x1, .int .i64 x2, .int .i64 x3] 29)
      have c3' := b3.cell
      replace b3 := b3.alloc (.cells #[.int .i64 x0, .int .i64 x1, .int .i64 x2, .int .i64 x3] 29)
      have c3 := b3.cell
      clear hlk hE
      go_wp2_with fail
      refine (HU'.out _).mono ?_
      rintro e w4 ⟨rfl, hE4⟩
      replace hEa := hEa.trans hE4
      replace b2 := b2.ext hE4
      replace b3 := b3.ext hE4
      clear c3 c3' e0 e1 e2 e3 hE4
      have c3 := b3.cell
      have f3 := b3.frozen
      have b3' := b3.set4 (.int .i64 u0) (.int .i64 u1) (.int .i64 u2) (.int .i64 u3)
      have b2' := b2.far4 (c := B2 + 1) (by omega) 0 1 2 3 (.int .i64 u0) (.int .i64 u1) (.int .i64 u2) (.int .i64 u3)
      have hE5 := hEa.set4 (b := B2 + 1) (i := 0) (j := 1) (k := 2) (l := 3) (by rw [HB2.out]; omega) (.int .i64 u0) (.int .i64 u1) (.int .i64 u2) (.int .i64 u3)
      go_wp2
      go_roundw
      case rel => exact ⟨k + 1, u0, u1, u2, u3, by omega, by go_num, hE5, b2', b3', HX⟩
      case measure => simp [intOf]; omega
    · have dk : ((k : Int) < (n : Int)) = False := eq_false (by omega)
      have HS := Lib.hid (show boxL l = (p0, p1, p2, p3) from by rw [← HP.out, List.take_of_length_le (by rw [HN.out]; omega)])
      have c2 := b2.cell
      have f2 := b2.frozen
      have c3 := b3.cell
      have hE5 := hE.set4 (b := B2) (i := 0) (j := 1) (k := 2) (l := 3) (by rw [HB2.out]; omega) (.int .i64 p0) (.int .i64 p1) (.int .i64 p2) (.int .i64 p3)
      go_wp2
      exact bodyPost_ret (v := rectV (p0, p1, p2, p3)) (by simp [results, Try.results31, go_sem, rectV, c2, f2]) rfl ⟨by rw [HS.out], hE5⟩
end Go.Proofs.Ytkjpcjmbhpfelaa
