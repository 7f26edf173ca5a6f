/- natural: DivMod where the divisor has two digits at least (Knuth's way). -/
import Derived.Test.YtodefmfgoehkhaaGreatZH
set_option linter.unusedVariables false
set_option linter.unusedSimpArgs false
namespace Go.Proofs.YtodefmfgoehkhaaGreat
open Go.RowKit Go.Par Go.TN

def lenOf : Value → Nat
  | .slice _ n _ => n
  | _ => 0
/-- one digit of a sum, as the machine reckons it -/
theorem add_digit {d1 d2 cy : Nat} (h1 : d1 < BB) (h2 : d2 < BB) (hc : cy ≤ 1) :
    ∃ (e s r t : Nat), IntKind.u64.wrap ((d1 : Int) + (d2 : Int)) = (e : Int) ∧ IntKind.u64.wrap ((cy : Int) + (e : Int)) = (s : Int) ∧ IntKind.u32.wrap (s : Int) = (r : Int) ∧ (s : Int) / 4294967296 = (t : Int) ∧ s = cy + (d1 + d2) ∧ r = s % BB ∧ t = s / BB ∧ r < BB ∧ t ≤ 1 := by
  have hB : BB = 4294967296 := rfl
  refine ⟨d1 + d2, cy + (d1 + d2), (cy + (d1 + d2)) % BB, (cy + (d1 + d2)) / BB, ?_, ?_, wrap32 _, shr32 _, rfl, rfl, rfl, Nat.mod_lt _ (by decide), Nat.le_of_lt_succ (Nat.div_lt_of_lt_mul (show _ < BB * 2 by omega))⟩
  · rw [← Int.natCast_add]; exact wrap64 (by omega)
  · rw [← Int.natCast_add]; exact wrap64 (by omega)
theorem UB.of_own {w : World} {B g n cap : Nat} {l : List Nat} (h : natE.Own w B (.slice (some ⟨g, 0, none⟩) n cap) l) : UB w g l := by
  obtain ⟨cur, h1, h2, h3, h4, h5, h6, h7⟩ := h.opened
  refine ⟨cur, h3, fun i hi => h7 i _ ?_⟩
  rw [natE_cells, List.getElem?_map, getD_some hi]
  rfl
theorem at_part {w : World} {g : Nat} {us : List Nat} (h : UB w g us) (k m : Nat) : natE.At w (some ⟨g, k, none⟩) ((us.drop k).take m) := by
  have := (h.at.drop k).take m
  simpa [natE] using this
theorem val_app_zero (l : List Nat) : val (l ++ [0]) = val l := by rw [val_append]; simp [val]
set_option maxRecDepth 100000 in
set_option maxHeartbeats 3200000 in
theorem divKnuth_any (l m : List Nat) (A B : Option Addr) (n c k d : Nat) (w : World) (hn : l.length = n) (hm : m.length = k) (hnc : n ≤ c) (hkd : k ≤ d) (hcm : n ≤ 1000000000) (hdm : k ≤ 1000000000) (hn0 : n ≤ 500000000) (hk0 : k ≤ 500000000) (hl : OkD l) (hm' : OkD m) (hA : natE.At w A l) (hB : natE.At w B m)
    (hge : val m ≤ val l) (h1 : 2 ≤ L (val m)) :
    Calls Tryz.prog 62 #[.slice A n c, .slice B k d] w fun e w' => ∃ q r, e = .returned (.tuple #[q, r, .int .i64 0]) ∧ Ext w w' ∧ DV w' q (val l / val m) ∧ DV w' r (val l % val m) := by
  have HS := Lib.hid (short_any A c n l w hn hnc hcm hl hA)
  have HT := Lib.hid (short_any B d k m w hm hkd hdm hm' hB)
  have hA' := dig_at hl hA
  have hB' := dig_at hm' hB
  have hLa : L (val l) ≤ n := by rw [← hn]; exact L_val hl
  have hLb : L (val m) ≤ k := by rw [← hm]; exact L_val hm'
  generalize val l = a at *
  generalize val m = b at *
  have HC := Lib.hid (cmpN_any (dig a) (dig b) A B (L a) (L a) (L b) (L b) w rfl rfl (Nat.le_refl _) (Nat.le_refl _) (by omega) (by omega) (by omega) (by omega) (ok_dig a) (ok_dig b) hA' hB')
  rw [val_dig, val_dig] at HC
  obtain ⟨cr, hcr⟩ : ∃ cr, cmpN a b = cr := ⟨_, rfl⟩
  have hcr0 : ¬ cr < 0 := by rw [← hcr]; unfold cmpN; rw [if_neg (by omega)]; split <;> decide
  rw [hcr] at HC
  -- the divisor's top digit
  obtain ⟨y, hy⟩ : ∃ y, L b = y := ⟨_, rfl⟩
  have hy' : (dig b).length = y := hy
  obtain ⟨t, ht⟩ : ∃ t, (dig b).getD (y - 1) 0 = t := ⟨_, rfl⟩
  have htB : t < BB := by rw [← ht]; exact (ok_dig b).getD _
  have ht0 : 0 < t := by
    have h3 := dig_last (n := b) (d := t) (by rw [List.getLast?_eq_getElem?, hy', ← ht]; exact getD_some (by omega))
    omega
  obtain ⟨bl0, bl1, bl2⟩ := bitLen_bounds t ht0 (Nat.lt_of_lt_of_le htB (by decide))
  have HLZ := Lib.hid (fun W => lz32_any t W htB)
  have hbl32 : Lib.bitLen t ≤ 32 := by
    rcases Nat.lt_or_ge 32 (Lib.bitLen t) with h | h
    · exfalso
      have : 2 ^ 32 ≤ 2 ^ (Lib.bitLen t - 1) := Nat.pow_le_pow_right (by decide) (by omega)
      have e : (2 : Nat) ^ 32 = BB := rfl
      omega
    · exact h
  obtain ⟨nb1, nb2⟩ := norm_shift hy' (by omega) bl0 hbl32 (by rw [ht]; exact bl1) (by rw [ht]; exact bl2)
  obtain ⟨s, hs⟩ : ∃ s, s = 32 - Lib.bitLen t := ⟨_, rfl⟩
  have hsI : 32 - (Lib.bitLen t : Int) = (s : Int) := by omega
  rw [hsI] at HLZ
  rw [← hs] at nb1 nb2
  have hs32 : s < 32 := by omega
  obtain ⟨hVl, hVt⟩ := top_norm (by omega) nb1 nb2
  -- the quotient and the remainder
  have hp2 : 0 < 2 ^ s := Nat.pow_pos (by decide)
  have eq1 : a * 2 ^ s / (b * 2 ^ s) = a / b := Nat.mul_div_mul_right _ _ hp2
  have eq2 : a * 2 ^ s % (b * 2 ^ s) = a % b * 2 ^ s := Nat.mul_mod_mul_right _ _ _
  have hV0 : 0 < b * 2 ^ s := by
    have := pow_pos (y - 1)
    generalize BB ^ (y - 1) = P at *
    omega
  have hUlt : a * 2 ^ s < BB ^ (L a + 1) := by
    have h3 := val_lt (ok_dig a)
    rw [val_dig] at h3
    have h4 := pow_le32 hs32
    rw [Nat.pow_succ]
    exact Nat.mul_lt_mul_of_lt_of_le h3 (Nat.le_trans h4 (by decide)) (by decide)
  have hLU : L (a * 2 ^ s) ≤ L a + 1 := dig_lt hUlt
  have hVU : b * 2 ^ s ≤ a * 2 ^ s := Nat.mul_le_mul_right _ hge
  have hLVU : y ≤ L (a * 2 ^ s) := by have := L_le hVU; have e : L (b * 2 ^ s) = y := hVl; omega
  have HSB := Lib.hid (fun W (h : Ext w W) => shiftL_any (dig b) B (L b) (L b) s W rfl (Nat.le_refl _) (by omega) (by omega) (ok_dig b) (hB'.ext h) hs32)
  have HSA := Lib.hid (fun W (h : Ext w W) => shiftL_any (dig a) A (L a) (L a) s W rfl (Nat.le_refl _) (by omega) (by omega) (ok_dig a) (hA'.ext h) hs32)
  rw [val_dig] at HSA HSB
  obtain ⟨bb, ob, rfl, hcb⟩ := hB' (fun e => by rw [e] at hy'; simp at hy'; omega)
  have eb := nat_cell hcb (getD_some (l := dig b) (i := y - 1) (by omega))
  rw [ht] at eb
  rw [hy] at HT HC HSB
  have HEQ1 := Lib.hid eq1
  have HEQ2 := Lib.hid eq2
  have HVL := Lib.hid hVl
  have HVT := Lib.hid hVt
  have hLx : L a ≤ 500000000 := by omega
  obtain ⟨x, hx⟩ : ∃ x, L a = x := ⟨_, rfl⟩
  rw [hx] at HS HC HSA hLU hLx
  generalize hU : a * 2 ^ s = U at *
  generalize hVd : b * 2 ^ s = V at *
  have hVn := Lib.hid nb2
  have hVb := Lib.hid nb1
  have HDS := Lib.hid hs
  rw [hy] at h1 hLb
  clear hA hB hl hm' hn hm hA' hB' hcb hcr hdm hcm hnc hkd ht bl1 bl2 nb1 nb2 hs eq1 eq2 hVl hVt hU hVd hy hy' hUlt hVU hsI hge hx
  have dcr : (cr < 0) = False := eq_false hcr0
  have dy0 : ((y : Int) == 0) = false := by simp; omega
  have dy1 : ((y : Int) == 1) = false := by simp; omega
  have dy0' : ¬ y = 0 := by omega
  have dy1' : ¬ y = 1 := by omega
  have q1 : IntKind.i64.wrap ((y : Int) - 1) = ((y - 1 : Nat) : Int) := by rw [IntWalk.i64_in _ (by omega)]; omega
  have hy1 : y - 1 < y := by omega
  go_enter Tryz.func62, Tryz.ntmps62
  go_wp2_with fail
  refine HS.out.mono ?_
  rintro e w2 ⟨rfl, rfl⟩
  go_wp2_with fail
  refine HT.out.mono ?_
  rintro e w2 ⟨rfl, rfl⟩
  go_wp2_with fail
  refine HC.out.mono ?_
  rintro e w2 ⟨rfl, hE⟩
  replace eb := hE.cell eb
  go_wp2_with fail
  refine (HLZ.out _).mono ?_
  rintro e w3 ⟨rfl, rfl⟩
  go_wp2_with fail
  refine (HSB.out _ hE).mono ?_
  rintro e w3 ⟨v, rfl, hE3, Av, rfl, hLV, hatV⟩
  go_wp2_with fail
  refine (HSA.out _ (hE.trans hE3)).mono ?_
  rintro e w4 ⟨v, rfl, hE4, Au, rfl, hLU2, hatU⟩
  have hVl : L V = y := HVL.out
  rw [hVl]
  have hUl : (dig U).length = L U := rfl
  obtain ⟨bu, ou, rfl, _⟩ := hatU (fun e => by rw [e] at hUl; simp at hUl; omega)
  have hrow0 : natE.Row (w4.alloc (.cells #[.int .u32 0] 93)) (.slice (some ⟨w4.heap.size, 0, none⟩) 1 1) [0] :=
    ⟨_, 1, rfl, Nat.le_refl _, by decide, EL.At.box (Box.new _ _ _) fun j v hv => by simpa [EL.cells, natE] using hv⟩
  have hatU2 := hatU.ext (Ext.alloc w4 (.cells #[.int .u32 0] 93))
  have hE34 : Ext w3 (w4.alloc (.cells #[.int .u32 0] 93)) := hE4.trans (Ext.alloc _ _)
  have hLU1 : (dig U).length + ([0] : List Nat).length ≤ 1000000000 := by rw [hUl]; simp; omega
  obtain ⟨lu, hlu⟩ : ∃ lu, L U = lu := ⟨_, rfl⟩
  rw [hlu] at hUl hLU hLVU hLU2 ⊢
  go_wp2_with (at_builtin; refine EL.wpAppFull natE rfl _ _ rfl w3.heap.size lu ⟨bu, ou, none⟩ _ (dig U) [0] rfl rfl hUl hatU2 hrow0 (by decide) hLU1 hE34.size ?_; intro u0 W0 own0 hEx0)
  have hEW0 := hE34.trans hEx0
  have hvu : val (dig U ++ [0]) = U := by rw [val_app_zero, val_dig]
  have hou : OkD (dig U ++ [0]) := (ok_dig U).append (OkD.mk (by decide) OkD.nil)
  have hlu1 : (dig U ++ [0]).length = lu + 1 := by rw [List.length_append, hUl]; rfl
  clear hatU hatU2 hrow0 hE34 hLU1 hEx0 hE4 hLU2 HSA HSB HLZ HC HS HT eb hUl hLV
  generalize dig U ++ [0] = ul0 at *
  go_loopw [11] (fun u wr => ∃ ul : List Nat, Ext w3 wr ∧ natE.Own wr w3.heap.size u ul ∧ ul.length ≤ x + 2 ∧ lu + 1 ≤ ul.length ∧ Hid (val ul = U) ∧ Hid (OkD ul)) (fun u _ => x + 1 - lenOf u)
  case atStart => exact ⟨ul0, hEW0, own0, by omega, by omega, Lib.hid hvu, Lib.hid hou⟩
  case round =>
    clear hEW0 own0 hvu hou hlu1
    obtain ⟨ul, hEr, hown, hlx, hl1, HVU, HOU⟩ := hrel
    obtain ⟨g, cap, rfl, hgB, hcap⟩ := hown.head (by omega)
    obtain ⟨M, hM⟩ : ∃ M, ul.length = M := ⟨_, rfl⟩
    rw [hM] at hlx hl1 hown hcap
    rw [hM]
    have HM := Lib.hid hM
    clear hM
    by_cases hMx : M ≤ x
    · have dM : ((M : Int) ≤ (x : Int)) = True := eq_true (by omega)
      have hrow0 : natE.Row (wr.alloc (.cells #[.int .u32 0] 93)) (.slice (some ⟨wr.heap.size, 0, none⟩) 1 1) [0] :=
        ⟨_, 1, rfl, Nat.le_refl _, by decide, EL.At.box (Box.new _ _ _) fun j v hv => by simpa [EL.cells, natE] using hv⟩
      have hownX := hown.ext (Ext.alloc wr (.cells #[.int .u32 0] 93))
      have hEX := hEr.trans (Ext.alloc wr (.cells #[.int .u32 0] 93))
      have hLL := Lib.hid (show ul.length + ([0] : List Nat).length ≤ 1000000000 from by rw [HM.out]; simp; omega)
      go_wp2_with (at_builtin; refine EL.wpApp natE rfl _ _ rfl w3.heap.size _ _ ul [0] rfl rfl hownX hrow0 hLL.out hEX.size ?_; intro v1 W1 own1 gr1 _; have hE6 := growExt hEX hownX (Nat.le_refl _) gr1)
      obtain ⟨A1, c1, hv1, _⟩ := own1.len
      subst hv1
      have hl2 : (ul ++ [0]).length = M + 1 := by rw [List.length_append, HM.out]; rfl
      rw [hl2] at own1
      rw [hl2]
      go_roundw
      case rel => exact ⟨ul ++ [0], hE6, own1, by omega, by omega, Lib.hid (by rw [val_app_zero]; exact HVU.out), Lib.hid (HOU.out.append (OkD.mk (by decide) OkD.nil))⟩
      case measure => simp [lenOf]; omega
    · have dM : ((M : Int) ≤ (x : Int)) = False := eq_false (by omega)
      have hub := UB.of_own hown
      obtain ⟨N, hN⟩ : ∃ N, N = M - y := ⟨_, rfl⟩
      have q2 : IntKind.i64.wrap ((M : Int) - (y : Int)) = (N : Int) := by rw [IntWalk.i64_in _ (by omega)]; omega
      have hmk := make_digits N (by omega)
      have hcapm : cap ≤ maxLen := by obtain ⟨_, _, _, _, _, h5, _⟩ := hown.opened; exact h5
      have hgl := hown.lt
      have HNM := Lib.hid hN
      have hNb : N ≤ 600000000 := by omega
      have hyM : y ≤ M := by omega
      have hK0 : KnS U V y N ul (List.replicate N 0) := by
        refine ⟨HOU.out, ok_zeros _, fun t ht => ?_, ?_, ?_⟩
        · rw [List.getD_eq_getElem?_getD, List.getElem?_eq_none (by rw [HM.out]; omega)]; rfl
        · rw [HVU.out]
          have k1 := val_lt (ok_dig U)
          rw [val_dig] at k1
          have k2 : L U ≤ M - 1 := by omega
          have k3 := Nat.pow_le_pow_right (show 0 < BB by decide) k2
          have k4 : BB ^ (M - 1) = BB ^ N * BB ^ (y - 1) := by rw [← Nat.pow_add]; congr 1; omega
          have k5 : BB ^ N * BB ^ (y - 1) ≤ BB ^ N * V := Nat.mul_le_mul_left _ (Nat.le_trans (Nat.le_mul_of_pos_right _ (by decide)) hVb.out)
          have k6 : U < BB ^ L U := k1
          exact Nat.lt_of_lt_of_le k6 (Nat.le_trans k3 (by rw [k4]; exact k5))
        · rw [List.drop_of_length_le (by simp), HVU.out]; simp [val]
      have HK0 := Lib.hid hK0
      have HUM := Lib.hid HM.out
      clear hown hN hK0 HVU HOU HM
      go_wp2_with fail
      clear hmk q2
      generalize hW : World.alloc wr _ = W
      have hbq : Box W wr.heap.size 93 (digA (List.replicate N 0)) := by rw [← hW]; exact Box.new _ _ _
      have hEW : Ext w3 W := by rw [← hW]; exact hEr.trans (Ext.alloc _ _)
      have hubW : UB W g ul := by rw [← hW]; exact hub.ext (Ext.alloc _ _)
      obtain ⟨gq, hgq⟩ : ∃ gq, gq = wr.heap.size := ⟨_, rfl⟩
      have hgq3 : w3.heap.size ≤ gq := by rw [hgq]; exact hEr.size
      have hgqg : gq ≠ g := by omega
      rw [← hgq] at hbq ⊢
      clear hW hgq hub hEr hgl
      go_loopw [13] (fun i wi => ∃ (j : Nat) (t : Int) (us ql : List Nat), j ≤ N ∧ t + 1 = j ∧ i = .int .i64 t ∧ us.length = M ∧ ql.length = N ∧ Ext w3 wi ∧ UB wi g us ∧ Box wi gq 93 (digA ql) ∧ Hid (KnS U V y j us ql)) (fun i _ => (intOf i + 1).toNat)
      case atStart => exact ⟨N, (N : Int) - 1, ul, _, Nat.le_refl _, by omega, by go_num, HUM.out, by simp, hEW, hubW, hbq, HK0⟩
      case round =>
        clear hEW hubW hbq HK0 HUM
        obtain ⟨j, t', us, ql, hj, htj, rfl, hus, hql, hEi, hub, hbq, HK⟩ := hrel
        by_cases hj0 : j = 0
        · subst hj0
          have ht1 : t' = -1 := by omega
          subst ht1
          obtain ⟨hvq, hvr⟩ := HK.out.done hV0
          have HS2 := Lib.hid (short_any (some ⟨gq, 0, none⟩) N N ql wr hql (Nat.le_refl _) (by omega) HK.out.okq (digA_row (c := 0) hbq))
          have hDQ := DV.short hbq HK.out.okq (by rw [hql]; omega)
          rw [hvq, HEQ1.out] at HS2 hDQ
          have hrem : val us = a % b * 2 ^ s := by rw [hvr, HEQ2.out]
          obtain ⟨HSR⟩ : Nonempty (PLift (Hid (Calls Tryz.prog 87 #[.slice (some ⟨g, 0, none⟩) M cap, .int .i64 (-(s : Int))] wr fun e w' => ∃ v, e = .returned v ∧ Ext wr w' ∧ DV w' v (a % b)))) := ⟨⟨Lib.hid (by
            by_cases hs0 : s = 0
            · subst hs0
              have := shiftL_any us (some ⟨g, 0, none⟩) M cap 0 wr hus hcap (by omega) (by omega) HK.out.ok hub.at (by omega)
              rw [hrem, Nat.pow_zero, Nat.mul_one, Nat.mul_one] at this
              exact this.mono fun e w' ⟨v, k1, k2, k3⟩ => ⟨v, k1, k2, k3.dv⟩
            · have := shiftR_any us (some ⟨g, 0, none⟩) M cap s wr hus hcap (by omega) (by omega) HK.out.ok hub.at (by omega) hs32
              rw [hrem, Nat.mul_div_cancel _ hp2] at this
              exact this)⟩⟩
          replace HSR := HSR.down
          have wn : IntKind.i64.wrap (-(s : Int)) = -(s : Int) := IntWalk.i64_in _ (by omega)
          obtain ⟨Aq, cq, hqv, hq1, hq2, hq3⟩ := hDQ
          injection hqv with hqv1 hqv2 hqv3
          subst hqv1
          subst hqv3
          clear HK hbq hub
          go_wp2_with fail
          refine HS2.out.mono ?_
          rintro e w5 ⟨rfl, rfl⟩
          go_wp2_with fail
          refine HSR.out.mono ?_
          rintro e w5 ⟨v, rfl, hE5, Ar, cr2, rfl, hr1, hr2, hr3⟩
          go_wp2
          exact bodyPost_ret (v := .tuple #[.slice (some ⟨gq, 0, none⟩) (L (a / b)) (L (a / b)), .slice Ar (dig (a % b)).length cr2, .int .i64 0]) (by simp [results, Tryz.results62, go_sem, List.size_toArray]) rfl ⟨_, _, rfl, ((hE.trans hE3).trans hEi).trans hE5, ⟨_, _, rfl, Nat.le_refl _, hq2, hq3.ext hE5⟩, ⟨Ar, cr2, rfl, hr1, hr2, hr3⟩⟩
        · obtain ⟨i, rfl⟩ : ∃ i : Nat, t' = i := ⟨t'.toNat, by omega⟩
          obtain rfl : j = i + 1 := by omega
          have di : (0 ≤ (i : Int)) = True := eq_true (by omega)
          obtain ⟨z, hz⟩ : ∃ z, z = i + y := ⟨_, rfl⟩
          obtain ⟨z1, hz1⟩ : ∃ z1, z1 = i + y + 1 := ⟨_, rfl⟩
          obtain ⟨y1, hy1e⟩ : ∃ y1, y1 = y + 1 := ⟨_, rfl⟩
          have e1 : IntKind.i64.wrap ((i : Int) + (y : Int)) = (z : Int) := by rw [IntWalk.i64_in _ (by omega)]; omega
          have e2 : IntKind.i64.wrap ((z : Int) + 1) = (z1 : Int) := by rw [IntWalk.i64_in _ (by omega)]; omega
          have hzM : z1 ≤ M := by have := HNM.out; omega
          have hiz : i ≤ z1 := by omega
          have hzc : z1 ≤ cap := by omega
          have hci : ¬ cap = i := by omega
          have hzy : z1 - i = y1 := by omega
          have HZ := Lib.hid hz1
          have HY1 := Lib.hid hy1e
          clear hz hz1 hy1e
          go_wp2_with fail
          obtain ⟨hXlt, hpost, hvus⟩ := HK.out.part (k := i) (by rw [hus]; have := HZ.out; omega)
          have hpl : ((us.drop i).take (y + 1)).length = y1 := by rw [List.length_take, List.length_drop, hus]; have := HZ.out; have := HY1.out; omega
          have hop : OkD ((us.drop i).take (y + 1)) := (HK.out.ok.drop i).take _
          have hatp := at_part hub i (y + 1)
          have hdV : (dig V).length = y := HVL.out
          have hVt : 2147483648 ≤ (dig V).getD (y - 2 + 1) 0 := by rw [show y - 2 + 1 = y - 1 by omega]; exact HVT.out
          have hvd := val_dig V
          refine (guess_any ((us.drop i).take (y + 1)) (dig V) (some ⟨g, i, none⟩) Av (y - 2) y y1 (cap - i) y wr (by omega) (by rw [HY1.out]) hpl hdV (by omega) hop (ok_dig V) hatp (hatV.ext hEi) hVt (by rw [hvd]; exact hXlt)).mono ?_
          rw [hvd]
          rintro e w5 ⟨qh, rfl, hE5, hqB, hq1', hq2'⟩
          have hlk : (us.take i).length = i := by rw [List.length_take, hus]; omega
          have hub5 := hub.ext hE5
          rw [split3 us i (y + 1)] at hub5
          have hEi5 := hEi.trans hE5
          go_wp2_with fail
          refine (take_any (us.take i) ((us.drop i).take (y + 1)) (us.drop (i + (y + 1))) (dig V) Av g i y y1 (cap - i) y qh w5 hlk hpl HY1.out hdV (by omega) hop (ok_dig V) hqB hub5 (fun w' hB => hatV.ext (hEi5.but hB hgB))).mono ?_
          rw [hvd]
          rintro e w6 ⟨p, b', rfl, hB6, hpl6, hop6, hub6, hb1', hpe⟩
          have hplt := val_lt hop6
          rw [hpl6] at hplt
          obtain ⟨hn0', hn1'⟩ := neg_law hV0 rfl hq1' hq2' hplt hb1' hpe
          have hEi6 := hEi5.but hB6 hgB
          have hbq6 := hB6.box (hbq.ext hE5) hgqg
          have hiq : i < ql.length := by rw [hql]; omega
          have hQB : val ((us.drop i).take (y + 1)) / V < BB := Nat.div_lt_of_lt_mul (by rw [Nat.mul_comm]; exact hXlt)
          have HNX := Lib.hid (fun (p' : List Nat) (h1 : p'.length = y + 1) (h2 : OkD p') (h3 : val p' = val ((us.drop i).take (y + 1)) % V) => HK.out.next (by rw [hus]; have := HZ.out; omega) hV0 hVn.out h1 h2 h3 hiq)
          have hrV : val ((us.drop i).take (y + 1)) % V < V := Nat.mod_lt _ hV0
          generalize val ((us.drop i).take (y + 1)) / V = Q at *
          generalize val ((us.drop i).take (y + 1)) % V = Rm at *
          have hlen6 : ∀ p' : List Nat, p'.length = y1 → (us.take i ++ (p' ++ us.drop (i + (y + 1)))).length = M := fun p' hp' => by
            rw [List.length_append, List.length_append, hlk, hp', List.length_drop, hus]; have := HZ.out; have := HY1.out; omega
          have w9 : IntKind.u32.wrap (Q : Int) = (Q : Int) := by rw [wrap32, Nat.mod_eq_of_lt hQB]
          have w10 : IntKind.i64.wrap ((i : Int) - 1) = (i : Int) - 1 := IntWalk.i64_in _ (by omega)
          have ecq := (hbq6.cell i).trans (digA_at (o := ql) (i := i) hiq)
          have efq := hbq6.frozen i
          generalize ql.getD i 0 = oq at *
          have hiN : i < N := by omega
          clear hub hub5 hbq HK hpost hvus hXlt hatp hop hpl hE5 hq1' hq2' hpe
          rcases (by omega : b' = 0 ∨ b' = 1) with hb0 | hb0
          · obtain ⟨rfl, hpv⟩ := hn0' hb0
            subst hb0
            have HK2 := Lib.hid (HNX.out p (by rw [hpl6, HY1.out]) hop6 hpv)
            have hub7 : UB (w6.setCell ⟨gq, i, none⟩ (.int .u32 (qh : Int))) g (us.take i ++ (p ++ us.drop (i + (y + 1)))) := by
              obtain ⟨cur, k1, k2⟩ := hub6
              exact ⟨cur, k1.far (fun e => hgqg e.symm) _, k2⟩
            have hbq7 := hbq6.set i (.int .u32 (qh : Int))
            rw [digA_set] at hbq7
            have hE7 := hEi6.setNew hgq3 i (.int .u32 (qh : Int))
            have hl7 := hlen6 p hpl6
            clear HNX hn0' hn1' hbq6 hub6
            go_wp2_with fail
            go_roundw
            case rel => exact ⟨i, (i : Int) - 1, _, _, by omega, by omega, rfl, hl7, by rw [List.length_set]; exact hql, hE7, hub7, hbq7, HK2⟩
            case measure => simp [intOf]
          · obtain ⟨rfl, hpv⟩ := hn1' hb0
            subst hb0
            have w11 : IntKind.u64.wrap (((Q + 1 : Nat) : Int) - 1) = (Q : Int) := by
              have : ((Q + 1 : Nat) : Int) - 1 = (Q : Int) := by omega
              rw [this]
              exact wrap64 (by have : BB = 4294967296 := rfl; omega)
            have w12 := wrap64 (d := Q) (by have : BB = 4294967296 := rfl; omega)
            clear hn0' hn1'
            go_wp2_with fail
            generalize hw6 : w6 = wo at *
            clear hw6
            go_loopw [16, 105] (fun cs i2 wi => ∃ (f cy : Nat) (p' : List Nat), f ≤ y ∧ cs = .int .u64 (cy : Int) ∧ i2 = .int .i64 (f : Int) ∧ cy ≤ 1 ∧ p'.length = y1 ∧ But g wo wi ∧ UB wi g (us.take i ++ (p' ++ us.drop (i + (y + 1)))) ∧ Hid (OkD p') ∧ Hid (val (p'.take f) + BB ^ f * cy = val (p.take f) + val ((dig V).take f)) ∧ Hid (∀ t, f ≤ t → p'.getD t 0 = p.getD t 0)) (fun _ i2 _ => y - (intOf i2).toNat)
            case atStart => exact ⟨0, 0, p, Nat.zero_le _, rfl, rfl, by omega, hpl6, But.refl _ _, hub6, Lib.hid hop6, Lib.hid (by simp [val]), Lib.hid (fun _ _ => rfl)⟩
            case round =>
              clear hub6
              obtain ⟨f, cy, p', hf, rfl, rfl, hcy, hpl', hB', hub', HOP', HV', HS'⟩ := hrel
              by_cases hfy : f < y
              · have df : ((f : Int) < (y : Int)) = True := eq_true (by omega)
                obtain ⟨bv, ov, rfl, hcv⟩ := hatV (fun e => by rw [e] at hdV; simp at hdV; omega)
                have ev := (hEi6.but hB' hgB).cell (nat_cell hcv (getD_some (l := dig V) (i := f) (by omega)))
                have hd2 := (ok_dig V).getD f
                have hd1 := HOP'.out.getD f
                obtain ⟨ee, ss, rr, tt, x1, x2, x3, x4, hss, hrr, htt, hrB, ht1⟩ := add_digit hd1 hd2 hcy
                have hst := add_step (a := p) (b := dig V) (o := p') (i := f) (c := cy) (s := ss) (by rw [hpl']; have := HY1.out; omega) HV'.out (by rw [← HS'.out f (Nat.le_refl _)]; exact hss)
                rw [← hrr, ← htt] at hst
                have HST := Lib.hid hst
                have HO2 := Lib.hid (ok_set HOP'.out f hrB)
                have HS2 := Lib.hid (show ∀ t, f + 1 ≤ t → (p'.set f rr).getD t 0 = p.getD t 0 from fun t ht => by rw [getD_set_ne (by omega)]; exact HS'.out t (by omega))
                have hfp : f < p'.length := by rw [hpl']; have := HY1.out; omega
                have ec := hub'.cell (i := i + f) (by rw [List.length_append, List.length_append, hlk]; omega)
                rw [getD_mid hlk hfp] at ec
                have ef := hub'.frozen (i + f)
                have hub2 := hub'.set (i + f) rr
                rw [set_mid hlk hfp] at hub2
                have hB2 := hB'.set (i + f) (.int .u32 (rr : Int))
                have w6' := wrap64 (d := p'.getD f 0) (Nat.lt_of_lt_of_le hd1 (by decide))
                have w7' := wrap64 (d := (dig V).getD f 0) (Nat.lt_of_lt_of_le hd2 (by decide))
                have hfy1 : f < y1 := by rw [HY1.out]; omega
                generalize p'.getD f 0 = d1 at *
                generalize (dig V).getD f 0 = d2 at *
                clear hcv hub' HV' HS' HOP' hss hrr htt hst
                go_wp2_with fail
                go_roundw
                case rel => exact ⟨f + 1, tt, p'.set f rr, by omega, rfl, by go_num, ht1, by rw [List.length_set]; exact hpl', hB2, hub2, HO2, HST, HS2⟩
                case measure => simp [intOf]; omega
              · have df : ((f : Int) < (y : Int)) = False := eq_false (by omega)
                obtain rfl : f = y := by omega
                have hfp : f < p'.length := by rw [hpl']; have := HY1.out; omega
                have hd1 := HOP'.out.getD f
                have hrB : (p'.getD f 0 + cy) % BB < BB := Nat.mod_lt _ (by decide)
                have w14 : IntKind.u32.wrap (cy : Int) = (cy : Int) := by rw [wrap32, Nat.mod_eq_of_lt (by have : BB = 4294967296 := rfl; omega)]
                have w15 : IntKind.u32.wrap (((p'.getD f 0 : Nat) : Int) + (cy : Int)) = (((p'.getD f 0 + cy) % BB : Nat) : Int) := by rw [← Int.natCast_add]; exact wrap32 _
                have hfin : val (p'.set f ((p'.getD f 0 + cy) % BB)) = Rm := by
                  have k1 := HV'.out
                  rw [List.take_of_length_le (l := dig V) (by omega), hvd] at k1
                  have k2 := val_take_succ p f
                  rw [List.take_of_length_le (by rw [hpl6, HY1.out]; exact Nat.le_refl _)] at k2
                  have k3 := val_lt (HOP'.out.take f)
                  rw [List.length_take, Nat.min_eq_left (by omega)] at k3
                  have k4 := HS'.out f (Nat.le_refl _)
                  have k5 : BB ^ y1 = BB ^ f * BB := by rw [HY1.out, Nat.pow_succ]
                  obtain ⟨k6, k7⟩ := back_law (low := val (p'.take f)) (P := BB ^ f) (x := cy + p.getD f 0) (m := Rm) (TN.pow_pos f) k3 (Nat.lt_trans hrV hVn.out) (by
                    rw [← k5, ← hpv, k2, Nat.mul_add]
                    omega)
                  have k8 := val_set_take p' f ((p'.getD f 0 + cy) % BB) hfp
                  rw [List.take_of_length_le (by rw [List.length_set, hpl', HY1.out]; exact Nat.le_refl _)] at k8
                  rw [k8, k4, Nat.add_comm (p.getD f 0), k6, Nat.mod_self, Nat.mul_zero, Nat.add_zero, k7]
                have hplF : (p'.set f ((p'.getD f 0 + cy) % BB)).length = y1 := by rw [List.length_set]; exact hpl'
                have HK2 := Lib.hid (HNX.out _ (by rw [hplF, HY1.out]) (ok_set HOP'.out f hrB) hfin)
                have hl7 := hlen6 _ hplF
                have ec := hub'.cell (i := i + f) (by rw [List.length_append, List.length_append, hlk]; omega)
                rw [getD_mid hlk hfp] at ec
                have ef := hub'.frozen (i + f)
                have hub2 := hub'.set (i + f) ((p'.getD f 0 + cy) % BB)
                rw [set_mid hlk hfp] at hub2
                have hB2 := hB'.set (i + f) (.int .u32 (((p'.getD f 0 + cy) % BB : Nat) : Int))
                have hfy1 : f < y1 := by rw [HY1.out]; omega
                have hbq7a := hB2.box hbq6 hgqg
                have hE7a := hEi6.but hB2 hgB
                have ecq2 := (hbq7a.cell i).trans ((hbq6.cell i).symm.trans ecq)
                have efq2 := hbq7a.frozen i
                have hbq7 := hbq7a.set i (.int .u32 (Q : Int))
                rw [digA_set] at hbq7
                have hE7 := hE7a.setNew hgq3 i (.int .u32 (Q : Int))
                have hub7 : UB _ g _ := (show UB ((wr.setCell ⟨g, i + f, none⟩ (.int .u32 (((p'.getD f 0 + cy) % BB : Nat) : Int))).setCell ⟨gq, i, none⟩ (.int .u32 (Q : Int))) g (us.take i ++ (p'.set f ((p'.getD f 0 + cy) % BB) ++ us.drop (i + (f + 1)))) from by
                  obtain ⟨cur, k1, k2⟩ := hub2
                  exact ⟨cur, k1.far (fun e => hgqg e.symm) _, k2⟩)
                generalize (p'.getD f 0 + cy) % BB = rr at *
                generalize p'.getD f 0 = d1 at *
                clear hbq6 hub2 HNX hub' HV' HS' HOP' hfin ecq
                go_wp2_with fail
                go_roundw
                case rel => exact ⟨i, (i : Int) - 1, _, _, by omega, by omega, rfl, hl7, by rw [List.length_set]; exact hql, hE7, hub7, hbq7, HK2⟩
                case measure => simp [intOf]
end Go.Proofs.YtodefmfgoehkhaaGreat
