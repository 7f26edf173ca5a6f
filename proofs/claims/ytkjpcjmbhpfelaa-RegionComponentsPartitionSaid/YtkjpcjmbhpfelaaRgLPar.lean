/- RegionComponentsPartition: the walk. -/
import Derived.Test.YtkjpcjmbhpfelaaRgCompW
import Derived.Test.YtkjpcjmbhpfelaaRgCompQ
import Derived.Test.YtkjpcjmbhpfelaaRgLAri
set_option linter.unusedVariables false
set_option linter.unusedSimpArgs false
namespace Go.Proofs.Ytkjpcjmbhpfelaa
open Go.RowKit Go.Par Go.Reg

/-- a component of its own has one component -/
theorem comps_one {M : List R4} (h1 : RegionOf (inL M) M) (h2 : M.length ≤ 1024) (h3 : ∀ ms, Mins M M.length ms → ms = [0]) {v : Value} {er : Int} {w : World} (h : CompRes M v er w) : er = 0 ∧ ∃ A c, v = .slice A 1 c := by
  obtain ⟨L, k1, k2⟩ := h
  have e := k1.uniq h1 fun _ _ => rfl
  subst e
  obtain ⟨_, rfl, A, c, ss, ms, C, rfl, _, _, hrows, hm, hC⟩ | ⟨k3, _⟩ := k2
  · have := h3 ms hm
    subst this
    have e1 := hC.len
    have e2 := hrows.1
    exact ⟨rfl, A, c, by rw [e2, e1]; rfl⟩
  · omega
set_option maxRecDepth 100000 in
set_option maxHeartbeats 6400000 in
theorem regionPartition_any (l : List R4) (A : Option Addr) (n c : Nat) (x y : Int) (w : World) (hn : l.length = n) (h1 : rectE.At w A l) (hx : -128 ≤ x ∧ x ≤ 127) (hy : -128 ≤ y ∧ y ≤ 127) :
    Calls Try.prog 11 #[.slice A n c, .int .i8 x, .int .i8 y] w fun e w' => e = .returned (.bool true) ∧ Ext w w' := by
  go_enter Try.func11, Try.ntmps11
  go_wp2_with fail
  refine (few_any _ _ _ _ _ _ _).mono ?_
  rintro e w0 ⟨rfl, rfl⟩
  by_cases hf : n ≤ 24 ∧ 0 ≤ 24
  rotate_left
  · rw [decide_eq_false hf]
    clear hf hn h1
    go_wp2_with fail
    refine (example_any _).mono ?_
    rintro e w1 ⟨rfl, hE⟩
    go_wp2
    go_ret
    exact ⟨rfl, hE⟩
  · rw [decide_eq_true hf]
    have q1 : IntKind.i64.wrap x = x := IntWalk.i64_in _ (by omega)
    have q2 : IntKind.i64.wrap y = y := IntWalk.i64_in _ (by omega)
    have q3 : IntKind.i64.wrap (x + 1) = x + 1 := IntWalk.i64_in _ (by omega)
    have q4 : IntKind.i64.wrap (y + 1) = y + 1 := IntWalk.i64_in _ (by omega)
    have HEX := Lib.hid (fun W (k : Ext w W) => example_any W)
    have HN1 := Lib.hid (fun (W : World) (k : Ext w W) => components_any l A n c W hn (by omega) (h1.ext k))
    have HA1 := Lib.hid (fun (W : World) (k : Ext w W) => Area_any l A n c W hn (by omega) (h1.ext k))
    have HB0 := Lib.hid (fun (W : World) (k : Ext w W) => pContains_any l A n c x y W hn (by omega) (h1.ext k))
    have HB1 := Lib.hid (fun (W : World) (k : Ext w W) => pContains_any l A n c (x + 1) y W hn (by omega) (h1.ext k))
    have HB2 := Lib.hid (fun (W : World) (k : Ext w W) => pContains_any l A n c x (y + 1) W hn (by omega) (h1.ext k))
    clear hn h1 hf hx hy
    go_wp2_with fail
    refine (HN1.out _ (Ext.refl _)).mono ?_
    rintro e w1 ⟨v1, r1, rfl, hE1, L, hL, hres⟩
    obtain ⟨k1, rfl, A1, c1, ss, ms, C, rfl, k2, hat, hrows, hm, hC⟩ | ⟨k1, rfl, rfl⟩ := hres
    rotate_left
    · clear hL k1 HN1 HA1 HB0 HB1 HB2 q1 q2 q3 q4
      go_wp2_with (((go_at_call 14; with_reducible refine (HEX.out _ hE1).mono ?_); rintro e w9 ⟨rfl, k9⟩; replace hE1 := hE1.trans k9; clear k9))
      go_ret
      exact ⟨ret_eq (by simp), hE1⟩
    · have hg := hL.geo (inL_win l)
      have HREG := Lib.hid (fun k M (h : C[k]? = some M) => comp_region hL (inL_win l) hm hC h)
      have HARE := Lib.hid (fun k M (h : C[k]? = some M) => upC_area hg hm hC h)
      have HAPT := Lib.hid (fun k M (h : C[k]? = some M) => comp_apart hg hm hC h (x := x) (y := y))
      have HNXT := Lib.hid (fun k M (h : C[k]? = some M) => comp_next hg hC h (x := x) (y := y))
      have HUP := Lib.hid (fun k M (h : C[k]? = some M) => upC_succ h x y)
      obtain ⟨N, hN⟩ : ∃ N, ss.length = N := ⟨_, rfl⟩
      have HCL := Lib.hid (show C.length = N from by rw [← hrows.1, hN])
      have HCOV := Lib.hid (show upC C N x y = inL l x y from by rw [← HCL.out]; exact comp_cover hg hm hC x y)
      have HCOA := Lib.hid (show pixCount (upC C N) = pixCount (inL l) from by rw [← HCL.out]; exact pixCount_congr (comp_cover hg hm hC))
      rw [hN] at k2 ⊢
      clear hN hL hm hC hg HN1
      replace HEX := Lib.hid (fun W (k : Ext w1 W) => HEX.out W (hE1.trans k))
      replace HA1 := Lib.hid (fun W (k : Ext w1 W) => HA1.out W (hE1.trans k))
      replace HB0 := Lib.hid (fun W (k : Ext w1 W) => HB0.out W (hE1.trans k))
      replace HB1 := Lib.hid (fun W (k : Ext w1 W) => HB1.out W (hE1.trans k))
      replace HB2 := Lib.hid (fun W (k : Ext w1 W) => HB2.out W (hE1.trans k))
      have HE1 := Lib.hid hE1
      clear hE1
      generalize pixCount (inL l) = pa at *
      generalize inL l x y = b0 at *
      generalize inL l (x + 1) y = b1 at *
      generalize inL l x (y + 1) = b2 at *
      go_wp2_with fail
      go_loopw [9, 10, 11, 12, 13, 14, 15] (fun s9 s10 s11 s12 s13 _ _ wr => ∃ (k : Nat) (P O : Int) (rt bl : Bool), k ≤ N ∧ s9 = .int .i64 P ∧ s10 = .int .i64 O ∧ s11 = .bool rt ∧ s12 = .bool bl ∧ s13 = .int .i64 k ∧ Ext w1 wr ∧ Hid (P = pixCount (upC C k)) ∧ Hid (O = Go.Reg.one (upC C k x y)) ∧ Hid (upC C k x y = true → rt = b1 ∧ bl = b2)) (fun _ _ _ _ i _ _ _ => N - (intOf i).toNat)
      case atStart => exact ⟨0, 0, 0, false, false, Nat.zero_le _, rfl, rfl, rfl, rfl, rfl, Ext.refl _, Lib.hid (upC_area0 C).symm, Lib.hid (by rw [upC_zero]; rfl), Lib.hid (fun h => by rw [upC_zero] at h; cases h)⟩
      case round =>
        obtain ⟨k, P, O, rt, bl, hk, rfl, rfl, rfl, rfl, rfl, hE, HP, HO, HB⟩ := hrel
        by_cases hlt : k < N
        · have dk : ((k : Int) < (N : Int)) = True := eq_true (by omega)
          obtain ⟨M, hM⟩ : ∃ M, C[k]? = some M := ⟨_, List.getElem?_eq_getElem (by rw [HCL.out]; exact hlt)⟩
          obtain ⟨B1, m1, e1, hs1, hm1, hmb1, hat1⟩ := hrows.2 k M hM
          obtain ⟨b, o, rfl⟩ := hat.addr hs1
          have e0 := hE.cell (hat.cellAt (j := 0) hs1 rfl)
          simp only [slE, Nat.mul_one, Nat.add_zero] at e0
          obtain ⟨g1, g2, g3, g4⟩ := HREG.out k M hM
          have HR := Lib.hid g1
          rw [hm1] at g2 g3
          have hm1b : m1 ≤ 1024 := by omega
          have dm : ((m1 : Int) == 0) = false := by simp; omega
          have KA := Lib.hid (fun W (q : Ext w1 W) => Area_any M B1 m1 e1 W hm1 hm1b (hat1.ext q))
          have KC := Lib.hid (fun W (q : Ext w1 W) => (components_any M B1 m1 e1 W hm1 hm1b (hat1.ext q)).mono (R' := fun e w' => ∃ A' c', e = .returned (.tuple #[.slice A' 1 c', .int .i64 0]) ∧ Ext W w') fun e w' ⟨v, er, h1, h2, h3⟩ => by
            obtain ⟨rfl, A', c', rfl⟩ := comps_one HR.out (by rw [hm1]; exact hm1b) g4 h3
            exact ⟨A', c', h1, h2⟩)
          have KI := Lib.hid (fun W (q : Ext w1 W) => (IsCanon_any M B1 m1 e1 W hm1 hm1b (hat1.ext q)).mono (R' := fun e w' => e = .returned (.bool true) ∧ Ext W w') fun e w' ⟨L', h1, h2, h3⟩ => by
            have e' := h1.uniq HR.out fun _ _ => rfl
            exact ⟨by rw [h2, decide_eq_true ⟨by rw [e', hm1]; exact hm1b, e'⟩], h3⟩)
          have K0 := Lib.hid (fun W (q : Ext w1 W) => pContains_any M B1 m1 e1 x y W hm1 (by omega) (hat1.ext q))
          have K1 := Lib.hid (fun W (q : Ext w1 W) => pContains_any M B1 m1 e1 (x + 1) y W hm1 (by omega) (hat1.ext q))
          have K2 := Lib.hid (fun W (q : Ext w1 W) => pContains_any M B1 m1 e1 x (y + 1) W hm1 (by omega) (hat1.ext q))
          have pb1 := pixCount_bd (upC C k)
          have pb2 := pixCount_bd (inL M)
          have HAQ := Lib.hid (HARE.out k M hM)
          have HUQ := Lib.hid (HUP.out k M hM)
          have HAT := Lib.hid (HAPT.out k M hM)
          have HNX := Lib.hid (HNXT.out k M hM)
          rw [← HP.out] at pb1
          clear hs1 hm1 hmb1 hat1 g1 g2 g3 g4 hM HR
          generalize pixCount (inL M) = pm at *
          generalize inL M x y = t0 at *
          generalize inL M (x + 1) y = t1 at *
          generalize inL M x (y + 1) = t2 at *
          have q5 : IntKind.i64.wrap (P + pm) = P + pm := IntWalk.i64_in _ (by omega)
          have HP2 := Lib.hid (show P + pm = pixCount (upC C (k + 1)) from by rw [HP.out, HAQ.out])
          obtain ⟨u, hu⟩ : ∃ u, upC C k x y = u := ⟨_, rfl⟩
          rw [hu] at HO HB HUQ HAT
          cases t0
          · have HO2 := Lib.hid (show O = Go.Reg.one (upC C (k + 1) x y) from by rw [HUQ.out, Bool.or_false]; exact HO.out)
            have HB2' := Lib.hid (show upC C (k + 1) x y = true → rt = b1 ∧ bl = b2 from by rw [HUQ.out, Bool.or_false]; exact HB.out)
            clear HP HO HB HAQ HUQ HAT HNX hu pb1 pb2 K1 K2
            go_wp2_with (first
              | ((go_at_call 29; with_reducible refine (KA.out _ hE).mono ?_); rintro e w9 ⟨rfl, k9⟩; replace hE := hE.trans k9; replace e0 := k9.cell e0; clear k9)
              | ((go_at_call 37; with_reducible refine (KC.out _ hE).mono ?_); rintro e w9 ⟨A', c', rfl, k9⟩; replace hE := hE.trans k9; replace e0 := k9.cell e0; clear k9)
              | ((go_at_call 25; with_reducible refine (KI.out _ hE).mono ?_); rintro e w9 ⟨rfl, k9⟩; replace hE := hE.trans k9; replace e0 := k9.cell e0; clear k9)
              | ((go_at_call 26; with_reducible refine (K0.out _ hE).mono ?_); rintro e w9 ⟨rfl, k9⟩; replace hE := hE.trans k9; replace e0 := k9.cell e0; clear k9))
            go_roundw
            case rel => exact ⟨k + 1, _, _, _, _, by omega, rfl, rfl, rfl, rfl, by go_num, hE, HP2, HO2, HB2'⟩
            case measure => simp [intOf]; omega
          · have hu0 : u = false := by
              cases u
              · rfl
              · exact absurd (HAT.out rfl) (by decide)
            subst hu0
            have hO : O = 0 := HO.out
            subst hO
            have HO2 := Lib.hid (show (1 : Int) = Go.Reg.one (upC C (k + 1) x y) from by rw [HUQ.out, Bool.or_true]; rfl)
            have HB2' := Lib.hid (show upC C (k + 1) x y = true → t1 = b1 ∧ t2 = b2 from fun _ => HNX.out rfl)
            clear HP HO HB HAQ HUQ HAT HNX hu pb1 pb2
            go_wp2_with (first
              | ((go_at_call 29; with_reducible refine (KA.out _ hE).mono ?_); rintro e w9 ⟨rfl, k9⟩; replace hE := hE.trans k9; replace e0 := k9.cell e0; clear k9)
              | ((go_at_call 37; with_reducible refine (KC.out _ hE).mono ?_); rintro e w9 ⟨A', c', rfl, k9⟩; replace hE := hE.trans k9; replace e0 := k9.cell e0; clear k9)
              | ((go_at_call 25; with_reducible refine (KI.out _ hE).mono ?_); rintro e w9 ⟨rfl, k9⟩; replace hE := hE.trans k9; replace e0 := k9.cell e0; clear k9)
              | ((go_at_call 26; with_reducible refine (K0.out _ hE).mono ?_); rintro e w9 ⟨rfl, k9⟩; replace hE := hE.trans k9; replace e0 := k9.cell e0; clear k9)
              | ((go_at_call 26; with_reducible refine (K1.out _ hE).mono ?_); rintro e w9 ⟨rfl, k9⟩; replace hE := hE.trans k9; replace e0 := k9.cell e0; clear k9)
              | ((go_at_call 26; with_reducible refine (K2.out _ hE).mono ?_); rintro e w9 ⟨rfl, k9⟩; replace hE := hE.trans k9; replace e0 := k9.cell e0; clear k9))
            go_roundw
            case rel => exact ⟨k + 1, _, _, _, _, by omega, rfl, rfl, rfl, rfl, by go_num, hE, HP2, HO2, HB2'⟩
            case measure => simp [intOf]; omega
        · have dk : ((k : Int) < (N : Int)) = False := eq_false (by omega)
          have HKN := Lib.hid (show k = N by omega)
          have hP : P = pa := by rw [HP.out, HKN.out, HCOA.out]
          have hO : O = Go.Reg.one b0 := by rw [HO.out, HKN.out, HCOV.out]
          have hB : b0 = true → rt = b1 ∧ bl = b2 := by rw [← HCOV.out, ← HKN.out]; exact HB.out
          subst hP
          subst hO
          clear HP HO HB hrows hat HREG HARE HAPT HNXT HUP HCL HCOV HCOA
          have dp : (P != P) = false := by simp
          cases b0
          · rw [show Go.Reg.one false = 0 from rfl]
            clear hB
            go_wp2_with (first
              | ((go_at_call 29; with_reducible refine (HA1.out _ hE).mono ?_); rintro e w9 ⟨rfl, k9⟩; replace hE := hE.trans k9; clear k9)
              | ((go_at_call 26; with_reducible refine (HB0.out _ hE).mono ?_); rintro e w9 ⟨rfl, k9⟩; replace hE := hE.trans k9; clear k9)
              | ((go_at_call 14; with_reducible refine (HEX.out _ hE).mono ?_); rintro e w9 ⟨rfl, k9⟩; replace hE := hE.trans k9; clear k9))
            go_ret
            exact ⟨ret_eq (by simp), HE1.out.trans hE⟩
          · rw [show Go.Reg.one true = 1 from rfl]
            obtain ⟨rfl, rfl⟩ := hB rfl
            clear hB
            have d1 : (rt == rt) = true := by simp
            have d2 : (bl == bl) = true := by simp
            go_wp2_with (first
              | ((go_at_call 29; with_reducible refine (HA1.out _ hE).mono ?_); rintro e w9 ⟨rfl, k9⟩; replace hE := hE.trans k9; clear k9)
              | ((go_at_call 26; with_reducible refine (HB0.out _ hE).mono ?_); rintro e w9 ⟨rfl, k9⟩; replace hE := hE.trans k9; clear k9)
              | ((go_at_call 26; with_reducible refine (HB1.out _ hE).mono ?_); rintro e w9 ⟨rfl, k9⟩; replace hE := hE.trans k9; clear k9)
              | ((go_at_call 26; with_reducible refine (HB2.out _ hE).mono ?_); rintro e w9 ⟨rfl, k9⟩; replace hE := hE.trans k9; clear k9)
              | ((go_at_call 14; with_reducible refine (HEX.out _ hE).mono ?_); rintro e w9 ⟨rfl, k9⟩; replace hE := hE.trans k9; clear k9))
            go_ret
            exact ⟨ret_eq (by simp), HE1.out.trans hE⟩
end Go.Proofs.Ytkjpcjmbhpfelaa
