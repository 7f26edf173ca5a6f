/- The reference: two, Made, New, Union, Intersect, Subtract, Equal, IsCanonical, Area, Bounds. -/
import Derived.Test.YtkjpcjmbhpfelaaRgMadeR
import Derived.Test.YtkjpcjmbhpfelaaRgArea
set_option linter.unusedVariables false
set_option linter.unusedSimpArgs false
namespace Go.Proofs.Ytkjpcjmbhpfelaa
open Go.RowKit Go.Par Go.Reg

set_option maxHeartbeats 1600000 in
theorem rTwo_any (a b : List R4) (A1 A2 : Option Addr) (n1 c1 n2 c2 : Nat) (way : Int) (keep : Bool → Bool → Bool) (w : World) (hn1 : a.length = n1) (hn2 : b.length = n2) (hb1 : n1 ≤ 1024) (hb2 : n2 ≤ 1024)
    (h1 : rectE.At w A1 a) (h2 : rectE.At w A2 b) (hw : Way way keep) :
    Calls Try.prog 51 #[.slice A1 n1 c1, .slice A2 n2 c2, .int .i64 way] w fun e w' => ∃ v er L, e = .returned (.tuple #[v, .int .i64 er]) ∧ Ext w w' ∧ RegRes w.heap.size (keepS keep a b) L v er w' := by
  have H := Lib.hid (rMade_any a b A1 A2 n1 c1 n2 c2 way keep w hn1 hn2 (by omega) (by omega) h1 h2 hw)
  have HW := Lib.hid (keepS_win hw.zero a b)
  have d1 : ((1024 : Int) < (n1 : Int)) = False := eq_false (by omega)
  have d2 : ((1024 : Int) < (n2 : Int)) = False := eq_false (by omega)
  have d3 : ¬ 1024 < n1 := by omega
  have d4 : ¬ 1024 < n2 := by omega
  clear hn1 hn2 h1 h2 hw
  go_enter Try.func51, Try.ntmps51
  go_wp2_with fail
  refine H.out.mono ?_
  rintro e w1 ⟨v, B, rfl, hE, hown, hok, hin⟩
  obtain ⟨hl1, hreg, hl2⟩ := bands_next HW.out hok hin
  obtain ⟨A6, c6, rfl, _, _⟩ := hown.len
  have HR := Lib.hid hreg
  generalize rectsB B = L at *
  obtain ⟨N, hN⟩ : ∃ N, L.length = N := ⟨_, rfl⟩
  rw [hN] at hl1 ⊢
  have HN := Lib.hid hN
  have HO := Lib.hid hown
  clear hN hown hok hin hreg hl2 H HW
  by_cases h : 1024 < N
  · have e1 : ((1024 : Int) < (N : Int)) = True := eq_true (by omega)
    go_wp2
    exact bodyPost_ret (v := .tuple #[.slice none 0 0, .int .i64 5]) (by simp [results, Try.results51, go_sem, List.size_toArray]) rfl ⟨_, 5, L, rfl, hE, HR.out, .inr ⟨by rw [HN.out]; exact h, rfl, rfl⟩⟩
  · have e1 : ((1024 : Int) < (N : Int)) = False := eq_false (by omega)
    have e2 : ¬ 1024 < N := h
    go_wp2
    exact bodyPost_ret (v := .tuple #[.slice A6 N c6, .int .i64 0]) (by simp [results, Try.results51, go_sem, List.size_toArray]) rfl ⟨_, 0, L, rfl, hE, HR.out, .inl ⟨by rw [HN.out]; omega, rfl, by have := HO.out; rw [HN.out] at this; exact this⟩⟩
set_option maxHeartbeats 800000 in
theorem rUnion10_any (a b : List R4) (A1 A2 : Option Addr) (n1 c1 n2 c2 : Nat) (w : World) (hn1 : a.length = n1) (hn2 : b.length = n2) (hb1 : n1 ≤ 1024) (hb2 : n2 ≤ 1024) (h1 : rectE.At w A1 a) (h2 : rectE.At w A2 b) :
    Calls Try.prog 21 #[.slice A1 n1 c1, .slice A2 n2 c2] w fun e w' => ∃ v er L, e = .returned (.tuple #[v, .int .i64 er]) ∧ Ext w w' ∧ RegRes w.heap.size (fun x y => inL a x y || inL b x y) L v er w' := by
  have H := Lib.hid (rTwo_any a b A1 A2 n1 c1 n2 c2 1 (fun p q => p || q) w hn1 hn2 hb1 hb2 h1 h2 (.inl ⟨rfl, rfl⟩))
  clear hn1 hn2 h1 h2
  go_enter Try.func21, Try.ntmps21
  go_wp2_with fail
  refine H.out.mono ?_
  rintro e w1 ⟨v, er, L, rfl, hE, hr⟩
  go_wp2
  exact bodyPost_ret (v := .tuple #[v, .int .i64 er]) (by simp [results, Try.results21, go_sem, List.size_toArray]) rfl ⟨v, er, L, rfl, hE, hr⟩
set_option maxHeartbeats 800000 in
theorem rInter10_any (a b : List R4) (A1 A2 : Option Addr) (n1 c1 n2 c2 : Nat) (w : World) (hn1 : a.length = n1) (hn2 : b.length = n2) (hb1 : n1 ≤ 1024) (hb2 : n2 ≤ 1024) (h1 : rectE.At w A1 a) (h2 : rectE.At w A2 b) :
    Calls Try.prog 22 #[.slice A1 n1 c1, .slice A2 n2 c2] w fun e w' => ∃ v er L, e = .returned (.tuple #[v, .int .i64 er]) ∧ Ext w w' ∧ RegRes w.heap.size (fun x y => inL a x y && inL b x y) L v er w' := by
  have H := Lib.hid (rTwo_any a b A1 A2 n1 c1 n2 c2 2 (fun p q => p && q) w hn1 hn2 hb1 hb2 h1 h2 (.inr (.inl ⟨rfl, rfl⟩)))
  clear hn1 hn2 h1 h2
  go_enter Try.func22, Try.ntmps22
  go_wp2_with fail
  refine H.out.mono ?_
  rintro e w1 ⟨v, er, L, rfl, hE, hr⟩
  go_wp2
  exact bodyPost_ret (v := .tuple #[v, .int .i64 er]) (by simp [results, Try.results22, go_sem, List.size_toArray]) rfl ⟨v, er, L, rfl, hE, hr⟩
set_option maxHeartbeats 800000 in
theorem rSubt10_any (a b : List R4) (A1 A2 : Option Addr) (n1 c1 n2 c2 : Nat) (w : World) (hn1 : a.length = n1) (hn2 : b.length = n2) (hb1 : n1 ≤ 1024) (hb2 : n2 ≤ 1024) (h1 : rectE.At w A1 a) (h2 : rectE.At w A2 b) :
    Calls Try.prog 23 #[.slice A1 n1 c1, .slice A2 n2 c2] w fun e w' => ∃ v er L, e = .returned (.tuple #[v, .int .i64 er]) ∧ Ext w w' ∧ RegRes w.heap.size (fun x y => inL a x y && !inL b x y) L v er w' := by
  have H := Lib.hid (rTwo_any a b A1 A2 n1 c1 n2 c2 3 (fun p q => p && !q) w hn1 hn2 hb1 hb2 h1 h2 (.inr (.inr ⟨rfl, rfl⟩)))
  clear hn1 hn2 h1 h2
  go_enter Try.func23, Try.ntmps23
  go_wp2_with fail
  refine H.out.mono ?_
  rintro e w1 ⟨v, er, L, rfl, hE, hr⟩
  go_wp2
  exact bodyPost_ret (v := .tuple #[v, .int .i64 er]) (by simp [results, Try.results23, go_sem, List.size_toArray]) rfl ⟨v, er, L, rfl, hE, hr⟩
set_option maxHeartbeats 800000 in
theorem rNew_any (l : List R4) (A : Option Addr) (n c : Nat) (w : World) (hn : l.length = n) (hb : n ≤ 1024) (h1 : rectE.At w A l) :
    Calls Try.prog 27 #[.slice A n c] w fun e w' => ∃ v er L, e = .returned (.tuple #[v, .int .i64 er]) ∧ Ext w w' ∧ RegRes w.heap.size (inL l) L v er w' := by
  have H := Lib.hid (rTwo_any l [] A none n c 0 0 1 (fun p q => p || q) w hn rfl hb (by omega) h1 (EL.At.nil _ _) (.inl ⟨rfl, rfl⟩))
  clear hn h1
  go_enter Try.func27, Try.ntmps27
  go_wp2_with fail
  refine H.out.mono ?_
  rintro e w1 ⟨v, er, L, rfl, hE, hr, hres⟩
  have HR := Lib.hid (hr.congr (keep_nil l))
  have HS := Lib.hid hres
  clear hr hres
  go_wp2
  exact bodyPost_ret (v := .tuple #[v, .int .i64 er]) (by simp [results, Try.results27, go_sem, List.size_toArray]) rfl ⟨v, er, L, rfl, hE, HR.out, HS.out⟩
set_option maxHeartbeats 800000 in
theorem rMadeC_any (l : List R4) (A : Option Addr) (n c : Nat) (w : World) (hn : l.length = n) (hb : n ≤ 100000) (h1 : rectE.At w A l) :
    Calls Try.prog 52 #[.slice A n c] w fun e w' => ∃ v L, e = .returned v ∧ Ext w w' ∧ RegionOf (inL l) L ∧ L.length ≤ 67108864 ∧ rectE.Own w' w.heap.size v L := by
  have H := Lib.hid (rMade_any l [] A none n c 0 0 1 (fun p q => p || q) w hn rfl (by omega) (by omega) h1 (EL.At.nil _ _) (.inl ⟨rfl, rfl⟩))
  have HW := Lib.hid (keepS_win (keep := fun p q => p || q) rfl l [])
  clear hn h1
  go_enter Try.func52, Try.ntmps52
  go_wp2_with fail
  refine H.out.mono ?_
  rintro e w1 ⟨v, B, rfl, hE, hown, hok, hin⟩
  obtain ⟨hl1, hreg, hl2⟩ := bands_next HW.out hok hin
  have HR := Lib.hid (hreg.congr (keep_nil l))
  clear hok hin hreg hl2
  go_wp2
  go_ret
  exact ⟨v, rectsB B, rfl, hE, HR.out, hl1, hown⟩
set_option maxHeartbeats 1600000 in
theorem rEqual_any (a b : List R4) (A1 A2 : Option Addr) (n1 c1 n2 c2 : Nat) (w : World) (hn1 : a.length = n1) (hn2 : b.length = n2) (hb1 : n1 ≤ 1024) (hb2 : n2 ≤ 1024) (h1 : rectE.At w A1 a) (h2 : rectE.At w A2 b) :
    Calls Try.prog 24 #[.slice A1 n1 c1, .slice A2 n2 c2] w fun e w' => ∃ L M, RegionOf (inL a) L ∧ RegionOf (inL b) M ∧ e = .returned (.bool (decide (L = M))) ∧ Ext w w' := by
  have H1 := Lib.hid (fun (W : World) (k : Ext w W) => rMadeC_any a A1 n1 c1 W hn1 (by omega) (h1.ext k))
  have H2 := Lib.hid (fun (W : World) (k : Ext w W) => rMadeC_any b A2 n2 c2 W hn2 (by omega) (h2.ext k))
  clear hn1 hn2 h1 h2
  go_enter Try.func24, Try.ntmps24
  go_wp2_with fail
  refine (H1.out _ (Ext.refl _)).mono ?_
  rintro e w2 ⟨v, L, rfl, hE1, hr1, hl1, hown2⟩
  obtain ⟨A7, c7, rfl, _, hat2⟩ := hown2.at (n := L.length) rfl (by omega)
  have HR1 := Lib.hid hr1
  clear hown2 hr1
  go_wp2_with fail
  refine (H2.out _ hE1).mono ?_
  rintro e w4 ⟨v, M, rfl, hE4, hr2, hl2, hown2⟩
  obtain ⟨A9, c9, rfl, _, hat3⟩ := hown2.at (n := M.length) rfl (by omega)
  have HR2 := Lib.hid hr2
  have HQ := Lib.hid (Rows_any L M A7 A9 c7 c9 L.length M.length w4 rfl rfl (by omega) (by omega) (hat2.ext hE4) hat3)
  clear hown2 hat2 hat3 hr2
  generalize L.length = nL at *
  generalize M.length = nM at *
  go_wp2_with fail
  refine HQ.out.mono ?_
  rintro e w5 ⟨rfl, hE5⟩
  go_wp2
  go_ret
  exact ⟨L, M, HR1.out, HR2.out, rfl, (hE1.trans hE4).trans hE5⟩
set_option maxHeartbeats 1600000 in
theorem rIsCanon_any (l : List R4) (A : Option Addr) (n c : Nat) (w : World) (hn : l.length = n) (hb : n ≤ 1024) (h1 : rectE.At w A l) :
    Calls Try.prog 28 #[.slice A n c] w fun e w' => ∃ L, RegionOf (inL l) L ∧ e = .returned (.bool (decide (L = l))) ∧ Ext w w' := by
  have H := Lib.hid (rMadeC_any l A n c w hn (by omega) h1)
  have HN := Lib.hid hn
  have d1 : ((n : Int) ≤ (1024 : Int)) = True := eq_true (by omega)
  clear hn
  go_enter Try.func28, Try.ntmps28
  go_wp2_with fail
  refine H.out.mono ?_
  rintro e w1 ⟨v, L, rfl, hE, hr, hl1, hown⟩
  have HR := Lib.hid hr
  obtain ⟨A7, c7, rfl, _, hat2⟩ := hown.at (n := L.length) rfl (by omega)
  have HQ := Lib.hid (Rows_any L l A7 A c7 c L.length n w1 rfl HN.out (by omega) (by omega) hat2 (h1.ext hE))
  clear hr hown hat2
  generalize L.length = nL at *
  go_wp2_with fail
  refine HQ.out.mono ?_
  rintro e w5 ⟨rfl, hE5⟩
  go_wp2
  go_ret
  exact ⟨L, HR.out, rfl, hE.trans hE5⟩
set_option maxHeartbeats 1600000 in
theorem rArea10_any (l : List R4) (A : Option Addr) (n c : Nat) (w : World) (hn : l.length = n) (hb : n ≤ 1024) (h1 : rectE.At w A l) :
    Calls Try.prog 30 #[.slice A n c] w fun e w' => e = .returned (.int .i64 (pixCount (inL l))) ∧ Ext w w' := by
  have H := Lib.hid (rMadeC_any l A n c w hn (by omega) h1)
  have HA := Lib.hid (fun a b c d W => rArea_any a b c d W)
  have HP := Lib.hid (pixCount_bd (inL l))
  have HIW := Lib.hid (inL_win l)
  clear hn h1
  go_enter Try.func30, Try.ntmps30
  go_wp2_with fail
  refine H.out.mono ?_
  rintro e w2 ⟨v, L, rfl, hE, hreg, hl1, hown2⟩
  have HR := Lib.hid (hreg.area HIW.out)
  obtain ⟨N, hN⟩ : ∃ N, L.length = N := ⟨_, rfl⟩
  obtain ⟨A7, c7, rfl, _, hat2⟩ := hown2.at hN (by omega)
  have HN := Lib.hid hN
  have hNb : N ≤ 67108864 := by omega
  clear hown2 hN hl1 hreg
  go_wp2_with fail
  go_loopw [4, 5] (fun s i wr => ∃ k : Nat, k ≤ N ∧ i = .int .i64 k ∧ s = .int .i64 (sumArea (L.take k)) ∧ Ext w2 wr) (fun _ i _ => N - (intOf i).toNat)
  case atStart => exact ⟨0, Nat.zero_le _, rfl, rfl, Ext.refl _⟩
  case round =>
    obtain ⟨k, hk, rfl, rfl, hE3⟩ := hrel
    by_cases hlt : k < N
    · have dk : ((k : Int) < (N : Int)) = True := eq_true (by omega)
      obtain ⟨⟨x0, x1, x2, x3⟩, hlk⟩ : ∃ q, L[k]? = some q := ⟨_, List.getElem?_eq_getElem (by rw [HN.out]; exact hlt)⟩
      obtain ⟨b, o, rfl⟩ := hat2.addr hlk
      obtain ⟨e0, e1, e2, e3⟩ := rect_cell hat2 hlk
      replace e0 := hE3.cell e0
      replace e1 := hE3.cell e1
      replace e2 := hE3.cell e2
      replace e3 := hE3.cell e3
      dsimp only at e0 e1 e2 e3
      have hsn : sumArea (L.take (k + 1)) = sumArea (L.take k) + areaR (x0, x1, x2, x3) := by rw [take_snocG hlk, sumArea_append, sumArea_one]
      have hb1 := sumArea_take L (k + 1)
      rw [HR.out, hsn] at hb1
      have hb2 := sumArea_nonneg (L.take k)
      have hb3 := (areaR_bd (x0, x1, x2, x3)).1
      have hb4 := HP.out
      have HA' := Lib.hid (fun W => HA.out x0 x1 x2 x3 W)
      have HS := Lib.hid hsn
      generalize sumArea (L.take k) = t at *
      generalize areaR (x0, x1, x2, x3) = ar at *
      have q1 : IntKind.i64.wrap (t + ar) = t + ar := IntWalk.i64_in _ (by omega)
      clear hlk hsn hb1 hb2 hb3 hb4
      go_wp2_with fail
      refine (HA'.out _).mono ?_
      rintro e w4 ⟨rfl, hE4⟩
      go_wp2
      go_roundw
      case rel => exact ⟨k + 1, by omega, by go_num, by rw [HS.out], hE3.trans hE4⟩
      case measure => simp [intOf]; omega
    · have dk : ((k : Int) < (N : Int)) = False := eq_false (by omega)
      have HS := Lib.hid (show sumArea (L.take k) = pixCount (inL l) from by rw [List.take_of_length_le (by rw [HN.out]; omega), HR.out])
      rw [HS.out]
      go_wp2
      go_ret
      exact ⟨rfl, hE.trans hE3⟩
set_option maxRecDepth 100000 in
set_option maxHeartbeats 1600000 in
theorem rBounds10_any (l : List R4) (A : Option Addr) (n c : Nat) (w : World) (hn : l.length = n) (hb : n ≤ 17592186044416) (h1 : rectE.At w A l) :
    Calls Try.prog 32 #[.slice A n c] w fun e w' => e = .returned (rectV (boxL l)) ∧ Ext w w' := by
  have HN := Lib.hid hn
  have HU := Lib.hid (fun a b c d p q r s W => rUnion_any a b c d p q r s W)
  clear hn
  have hE0 := (Ext.alloc w (.cells #[.int .i64 0, .int .i64 0, .int .i64 0, .int .i64 0] 29)).trans (Ext.alloc _ (.cells #[.int .i64 0, .int .i64 0, .int .i64 0, .int .i64 0] 29))
  have b2 := (Box.new w 29 #[.int .i64 0, .int .i64 0, .int .i64 0, .int .i64 0]).alloc (.cells #[.int .i64 0, .int .i64 0, .int .i64 0, .int .i64 0] 29)
  have b3 := Box.at1 (w := w) (o := .cells #[.int .i64 0, .int .i64 0, .int .i64 0, .int .i64 0] 29) (t := 29) (cs := #[.int .i64 0, .int .i64 0, .int .i64 0, .int .i64 0])
  go_enter Try.func32, Try.ntmps32
  go_wp2_with fail
  generalize hW0 : World.alloc (World.alloc w _) _ = W0 at *
  clear hW0
  obtain ⟨B2, hB2⟩ : ∃ B2, w.heap.size = B2 := ⟨_, rfl⟩
  have HB2 := Lib.hid hB2
  rw [hB2] at b2 b3 ⊢
  clear hB2
  go_loopw [4] (fun i wr => ∃ (k : Nat) (p0 p1 p2 p3 : Int), k ≤ n ∧ i = .int .i64 k ∧ Ext w wr ∧ Box wr B2 29 #[.int .i64 0, .int .i64 0, .int .i64 0, .int .i64 0] ∧ Box wr (B2 + 1) 29 #[.int .i64 p0, .int .i64 p1, .int .i64 p2, .int .i64 p3] ∧ Hid (boxL (l.take k) = (p0, p1, p2, p3))) (fun i _ => n - (intOf i).toNat)
  case atStart => exact ⟨0, 0, 0, 0, 0, Nat.zero_le _, rfl, hE0, b2, b3, Lib.hid rfl⟩
  case round =>
    clear hE0 b2 b3
    obtain ⟨k, p0, p1, p2, p3, hk, rfl, hE, b2, b3, HP⟩ := hrel
    by_cases hlt : k < n
    · have dk : ((k : Int) < (n : Int)) = True := eq_true (by omega)
      obtain ⟨⟨x0, x1, x2, x3⟩, hlk⟩ : ∃ q, l[k]? = some q := ⟨_, List.getElem?_eq_getElem (by rw [HN.out]; exact hlt)⟩
      obtain ⟨b, o, rfl⟩ := h1.addr hlk
      obtain ⟨e0, e1, e2, e3⟩ := rect_cell h1 hlk
      replace e0 := hE.cell e0
      replace e1 := hE.cell e1
      replace e2 := hE.cell e2
      replace e3 := hE.cell e3
      dsimp only at e0 e1 e2 e3
      have HX := Lib.hid (show boxL (l.take (k + 1)) = unionS (p0, p1, p2, p3) (x0, x1, x2, x3) from by rw [boxL_take hlk, HP.out])
      have HU' := Lib.hid (fun W => HU.out p0 p1 p2 p3 x0 x1 x2 x3 W)
      generalize unionS (p0, p1, p2, p3) (x0, x1, x2, x3) = u at *
      obtain ⟨u0, u1, u2, u3⟩ := u
      unfold rectV at HU'
      clear hlk
      go_wp2_with fail
      apply wp_region_par' 6 (by kernel_rfl) (by kernel_rfl) rfl
      simp only [List.take_succ_cons, List.take_zero, List.drop_succ_cons, List.drop_zero]
      generalize hW : World.drew _ = W
      have hEW : Ext wr W := by rw [← hW]; exact Ext.drew _
      clear hW
      have z0 := fun z : Later W => z.cell (hEW.cell e0)
      have z1 := fun z : Later W => z.cell (hEW.cell e1)
      have z2 := fun z : Later W => z.cell (hEW.cell e2)
      have z3 := fun z : Later W => z.cell (hEW.cell e3)
      have z4 := fun z : Later W => (b3.ext (hEW.later z)).cell
      iterate 6
        refine parW_step rfl (fun K hK => ?_)
        apply Exists.intro
        refine ⟨fun z => ?_, ?_⟩
        focus
          go_simp
          first
            | rfl
            | with_reducible exact calls_val (HU'.out _)
        go_simp
        refine hK _ ?_
        clear hK K
      refine parW_end (fun z => ?_)
      have hEz := hEW.later z
      clear z0 z1 z2 z3 z4 e0 e1 e2 e3
      have hEa := hE.trans hEz
      replace b2 := b2.ext hEz
      replace b3 := b3.ext hEz
      generalize z.val = Z at *
      clear z hEz hEW hE
      have c3 := b3.cell
      have f3 := b3.frozen
      have b3' := b3.set4 (.int .i64 u0) (.int .i64 u1) (.int .i64 u2) (.int .i64 u3)
      have b2' := b2.far4 (c := B2 + 1) (by omega) 0 1 2 3 (.int .i64 u0) (.int .i64 u1) (.int .i64 u2) (.int .i64 u3)
      have hE5 := hEa.set4 (b := B2 + 1) (i := 0) (j := 1) (k := 2) (l := 3) (by rw [HB2.out]; omega) (.int .i64 u0) (.int .i64 u1) (.int .i64 u2) (.int .i64 u3)
      go_wp2
      go_roundw
      case rel => exact ⟨k + 1, u0, u1, u2, u3, by omega, by go_num, hE5, b2', b3', HX⟩
      case measure => simp [intOf]; omega
    · have dk : ((k : Int) < (n : Int)) = False := eq_false (by omega)
      have HS := Lib.hid (show boxL l = (p0, p1, p2, p3) from by rw [← HP.out, List.take_of_length_le (by rw [HN.out]; omega)])
      have c2 := b2.cell
      have f2 := b2.frozen
      have c3 := b3.cell
      have hE5 := hE.set4 (b := B2) (i := 0) (j := 1) (k := 2) (l := 3) (by rw [HB2.out]; omega) (.int .i64 p0) (.int .i64 p1) (.int .i64 p2) (.int .i64 p3)
      go_wp2
      exact bodyPost_ret (v := rectV (p0, p1, p2, p3)) (by simp [results, Try.results32, go_sem, rectV, c2, f2]) rfl ⟨by rw [HS.out], hE5⟩
end Go.Proofs.Ytkjpcjmbhpfelaa
