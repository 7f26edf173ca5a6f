/- Area and Bounds of the program. -/
import Derived.Test.YtkjpcjmbhpfelaaGreatRgNew
set_option linter.unusedVariables false
set_option linter.unusedSimpArgs false
namespace Go.Reg
open Go.Proofs.YtkjpcjmbhpfelaaGreat
theorem sumArea_append (l m : List R4) : sumArea (l ++ m) = sumArea l + sumArea m := by unfold sumArea; rw [List.map_append, sumL_append]
theorem sumArea_one (r : R4) : sumArea [r] = areaR r := by simp [sumArea, sumL]
theorem sumArea_nonneg (l : List R4) : 0 ≤ sumArea l := by
  induction l with
  | nil => simp [sumArea, sumL]
  | cons r l ih =>
    have e : sumArea (r :: l) = areaR r + sumArea l := rfl
    have := (areaR_bd r).1
    omega
theorem sumArea_take (l : List R4) (k : Nat) : sumArea (l.take k) ≤ sumArea l := by
  have e : l = l.take k ++ l.drop k := (List.take_append_drop k l).symm
  have := sumArea_append (l.take k) (l.drop k)
  rw [← e] at this
  have := sumArea_nonneg (l.drop k)
  omega
end Go.Reg
namespace Go.Proofs.YtkjpcjmbhpfelaaGreat
open Go.RowKit Go.Par Go.Reg

set_option maxHeartbeats 1600000 in
theorem Area_any (l : List R4) (A : Option Addr) (n c : Nat) (w : World) (hn : l.length = n) (hb : n ≤ 1024) (h1 : rectE.At w A l) :
    Calls Tryz.prog 12 #[.slice A n c] w fun e w' => e = .returned (.int .i64 (pixCount (inL l))) ∧ Ext w w' := by
  have H := Lib.hid (bands_any l [] A none n c 0 0 29 _ w hn rfl (by omega) (by omega) h1 (EL.At.nil _ _) either_keep rfl)
  have HW := Lib.hid (keepS_win (keep := fun p q => p || q) rfl l [])
  have HA := Lib.hid (fun a b c d W => pArea_any a b c d W)
  have HP := Lib.hid (pixCount_bd (inL l))
  have HIW := Lib.hid (inL_win l)
  clear hn h1
  go_enter Tryz.func12, Tryz.ntmps12
  go_wp2_with fail
  refine H.out.mono ?_
  rintro e w1 ⟨v, ss, B, rfl, hE, hown, hba, hok, hin⟩
  obtain ⟨hl1, hreg, hl2⟩ := bands_next HW.out hok hin
  obtain ⟨A6, c6, rfl, hat⟩ := hown.at (n := ss.length) rfl (by rw [hba.1]; omega)
  have HM := Lib.hid (rects_any B ss A6 ss.length c6 w1 rfl (by rw [hba.1]; omega) hat.2 hba (by omega))
  have HR := Lib.hid ((hreg.congr (keep_nil l)).area HIW.out)
  clear hown hba hok hin hat hreg hl2
  generalize ss.length = n2 at *
  generalize rectsB B = L at *
  go_wp2_with fail
  refine HM.out.mono ?_
  rintro e w2 ⟨v2, rfl, hE2, hown2⟩
  obtain ⟨N, hN⟩ : ∃ N, L.length = N := ⟨_, rfl⟩
  obtain ⟨A7, c7, rfl, _, hat2⟩ := hown2.at hN (by omega)
  have HN := Lib.hid hN
  have hNb : N ≤ 67108864 := by omega
  clear hown2 HM hN hl1
  go_wp2_with fail
  go_loopw [3, 10] (fun s i wr => ∃ k : Nat, k ≤ N ∧ i = .int .i64 k ∧ s = .int .i64 (sumArea (L.take k)) ∧ Ext w2 wr) (fun _ i _ => N - (intOf i).toNat)
  case atStart => exact ⟨0, Nat.zero_le _, rfl, rfl, Ext.refl _⟩
  case round =>
    obtain ⟨k, hk, rfl, rfl, hE3⟩ := hrel
    by_cases hlt : k < N
    · have dk : ((k : Int) < (N : Int)) = True := eq_true (by omega)
      obtain ⟨⟨x0, x1, x2, x3⟩, hlk⟩ : ∃ q, L[k]? = some q := ⟨_, List.getElem?_eq_getElem (by rw [HN.out]; exact hlt)⟩
      obtain ⟨b, o, rfl⟩ := hat2.addr hlk
      obtain ⟨e0, e1, e2, e3⟩ := rect_cell hat2 hlk
      replace e0 := hE3.cell e0
      replace e1 := hE3.cell e1
      replace e2 := hE3.cell e2
      replace e3 := hE3.cell e3
      dsimp only at e0 e1 e2 e3
      have hsn : sumArea (L.take (k + 1)) = sumArea (L.take k) + areaR (x0, x1, x2, x3) := by rw [take_snocG hlk, sumArea_append, sumArea_one]
      have hb1 := sumArea_take L (k + 1)
      rw [HR.out, hsn] at hb1
      have hb2 := sumArea_nonneg (L.take k)
      have hb3 := (areaR_bd (x0, x1, x2, x3)).1
      have hb4 := HP.out
      have HA' := Lib.hid (fun W => HA.out x0 x1 x2 x3 W)
      have HS := Lib.hid hsn
      generalize sumArea (L.take k) = t at *
      generalize areaR (x0, x1, x2, x3) = ar at *
      have q1 : IntKind.i64.wrap (t + ar) = t + ar := IntWalk.i64_in _ (by omega)
      clear hlk hsn hb1 hb2 hb3 hb4
      go_wp2_with fail
      have hEa := hE3.trans (Ext.alloc wr (.cells #[.int .i64 x0, .int .i64 x1, .int .i64 x2, .int .i64 x3] 34))
      refine (HA'.out _).mono ?_
      rintro e w4 ⟨rfl, hE4⟩
      go_wp2
      go_roundw
      case rel => exact ⟨k + 1, by omega, by go_num, by rw [HS.out], hEa.trans hE4⟩
      case measure => simp [intOf]; omega
    · have dk : ((k : Int) < (N : Int)) = False := eq_false (by omega)
      have HS := Lib.hid (show sumArea (L.take k) = pixCount (inL l) from by rw [List.take_of_length_le (by rw [HN.out]; omega), HR.out])
      rw [HS.out]
      go_wp2
      go_ret
      exact ⟨rfl, (hE.trans hE2).trans hE3⟩
theorem boxL_take {l : List R4} {k : Nat} {r : R4} (h : l[k]? = some r) : boxL (l.take (k + 1)) = unionS (boxL (l.take k)) r := by rw [take_snocG h, boxL_snoc]
end Go.Proofs.YtkjpcjmbhpfelaaGreat