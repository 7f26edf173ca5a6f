/- Texts put together: TnShift, TnKnuth, TnTake. -/
import Derived.Test.YtodefmfgoehkhaaGreatZF
/- natural: Shift by less than 32 bits. -/
set_option linter.unusedVariables false
set_option linter.unusedSimpArgs false
namespace Go.Proofs.YtodefmfgoehkhaaGreat
open Go.RowKit Go.Par Go.TN

theorem pow32 {s : Nat} (hs : s < 32) : 2 ^ s * 2 ^ (32 - s) = BB := by
  rw [← Nat.pow_add, show s + (32 - s) = 32 by omega]
theorem pow_le32 {s : Nat} (hs : s < 32) : 2 ^ s ≤ 2147483648 := by
  have : 2 ^ s ≤ 2 ^ 31 := Nat.pow_le_pow_right (by decide) (by omega)
  exact this
/-- a digit shifted to the left, over what the digit before it left -/
theorem shl_word {d s h : Nat} (hd : d < BB) (hs : s < 32) (hh : h < 2 ^ s) :
    ∃ (wd lo hi r : Nat), IntKind.u64.wrap ((d : Int) * 2 ^ s) = (wd : Int) ∧ IntKind.u32.wrap (wd : Int) = (lo : Int) ∧ bits .or .u32 (h : Int) (lo : Int) = (r : Int) ∧ (wd : Int) / 4294967296 = (hi : Int) ∧ IntKind.u32.wrap (hi : Int) = (hi : Int) ∧
      wd = d * 2 ^ s ∧ r = h + lo ∧ lo + BB * hi = wd ∧ r < BB ∧ hi < 2 ^ s ∧ hi < BB := by
  have hB : BB = 4294967296 := rfl
  have hpl := pow_le32 hs
  have hp0 : 0 < 2 ^ s := Nat.pow_pos (by decide)
  have h32 := pow32 hs
  have hwd : d * 2 ^ s < BB * 2 ^ s := Nat.mul_lt_mul_of_pos_right hd hp0
  have hhi : d * 2 ^ s / BB < 2 ^ s := Nat.div_lt_of_lt_mul hwd
  have hdvd : 2 ^ s ∣ d * 2 ^ s % BB := (Nat.dvd_mod_iff (by rw [← h32]; exact Nat.dvd_mul_right _ _)).2 (Nat.dvd_mul_left _ _)
  have hlo : d * 2 ^ s % BB < BB := Nat.mod_lt _ (by decide)
  have hsum : h + d * 2 ^ s % BB < BB := by
    obtain ⟨q, hq⟩ := hdvd
    rw [hq] at hlo ⊢
    rw [← h32] at hlo
    have hq2 : q < 2 ^ (32 - s) := Nat.lt_of_mul_lt_mul_left hlo
    have h3 := Nat.mul_le_mul_left (2 ^ s) (show q + 1 ≤ 2 ^ (32 - s) by omega)
    rw [h32, Nat.mul_add, Nat.mul_one] at h3
    omega
  have hmod : d * 2 ^ s % BB % 2 ^ s = 0 := Nat.mod_eq_zero_of_dvd hdvd
  have hwl : d * 2 ^ s < 18446744073709551616 := by
    have : BB * 2 ^ s ≤ BB * 2147483648 := Nat.mul_le_mul_left _ hpl
    have e : BB * 2147483648 = 9223372036854775808 := rfl
    omega
  refine ⟨d * 2 ^ s, d * 2 ^ s % BB, d * 2 ^ s / BB, h + d * 2 ^ s % BB, ?_, wrap32 _, or_part hh hmod (by omega) hlo, shr32 _, ?_, rfl, rfl, Nat.mod_add_div _ _, hsum, hhi, by omega⟩
  · have : (d : Int) * 2 ^ s = ((d * 2 ^ s : Nat) : Int) := by rw [Int.natCast_mul, Int.natCast_pow]; rfl
    rw [this]
    exact wrap64 hwl
  · rw [wrap32, Nat.mod_eq_of_lt (by omega)]
set_option maxRecDepth 100000 in
set_option maxHeartbeats 1600000 in
theorem shiftL_any (l : List Nat) (A : Option Addr) (n c s : Nat) (w : World) (hn : l.length = n) (hnc : n ≤ c) (hcm : n ≤ 1000000000) (hn0 : n ≤ 600000000) (hl : OkD l) (hA : natE.At w A l) (hs : s < 32) :
    Calls Tryz.prog 87 #[.slice A n c, .int .i64 (s : Int)] w fun e w' => ∃ v, e = .returned v ∧ Ext w w' ∧ DVF w' v (val l * 2 ^ s) := by
  have HS := Lib.hid (short_any A c n l w hn hnc hcm hl hA)
  have hA' := dig_at hl hA
  have hLa : L (val l) ≤ n := by rw [← hn]; exact L_val hl
  generalize val l = a at *
  obtain ⟨x, hx⟩ : ∃ x, L a = x := ⟨_, rfl⟩
  rw [hx] at HS hLa
  have hx' : (dig a).length = x := hx
  have HOA := Lib.hid (ok_dig a)
  have HVA := Lib.hid (val_dig a)
  generalize dig a = la at *
  have HX := Lib.hid hx'
  obtain ⟨N, hN⟩ : ∃ N, N = x + 1 := ⟨_, rfl⟩
  have hmk := make_digits N (by omega)
  clear hA hl hn hx hx'
  have d0 : ((s : Int) < 0) = False := eq_false (by omega)
  have d1 : min (s : Int) 4096 = (s : Int) := by omega
  have d1' : (if (4096 : Int) < (s : Int) then (4096 : Int) else (s : Int)) = (s : Int) := by rw [if_neg (by omega)]
  have d2 : ((s : Int)).tdiv 32 = 0 := by rw [Int.tdiv_eq_ediv_of_nonneg (by omega)]; omega
  have d3 : ((s : Int)).tmod 32 = (s : Int) := by rw [Int.tmod_eq_emod_of_nonneg (by omega)]; omega
  have d4 : IntKind.i64.wrap ((x : Int) + 1) = (N : Int) := by rw [IntWalk.i64_in _ (by omega)]; omega
  have HN := Lib.hid hN
  have hNx : x < N := by omega
  have hNb : N ≤ 1000000000 := by omega
  clear hN
  have d5 : IntKind.i64.wrap (x : Int) = (x : Int) := by rw [IntWalk.i64_in _ (by omega)]
  go_enter Tryz.func87, Tryz.ntmps87
  go_wp2_with fail
  refine HS.out.mono ?_
  rintro e w1 ⟨rfl, rfl⟩
  go_wp2_with fail
  clear hmk d0 d1 d1' d2 d3 d4 d5
  generalize hW : World.alloc w _ = W
  have hb : Box W w.heap.size 93 (digA (List.replicate N 0)) := by rw [← hW]; exact Box.new _ _ _
  have hE : Ext w W := by rw [← hW]; exact Ext.alloc _ _
  obtain ⟨g, hg⟩ : ∃ g, g = w.heap.size := ⟨_, rfl⟩
  have hgw : w.heap.size ≤ g := Nat.le_of_eq hg.symm
  rw [← hg] at hb ⊢
  clear hW hg
  go_loopw [76] (fun i wr => ∃ (j : Nat) (o : List Nat), j ≤ x ∧ i = .int .i64 j ∧ o.length = N ∧ Ext w wr ∧ Box wr g 93 (digA o) ∧ o.getD j 0 < 2 ^ s ∧ Hid (OkD o) ∧ Hid (val (o.take (j + 1)) = val (la.take j) * 2 ^ s)) (fun i _ => x - (intOf i).toNat)
  case atStart => exact ⟨0, _, Nat.zero_le _, rfl, by simp, hE, hb, by rw [List.getD_eq_getElem?_getD, List.getElem?_replicate]; split <;> exact Nat.pow_pos (by decide), Lib.hid (ok_zeros _), Lib.hid (by rw [val_zeros (fun d hd => List.eq_of_mem_replicate (List.mem_of_mem_take hd))]; simp [val])⟩
  case round =>
    clear hE hb
    obtain ⟨j, o, hj, rfl, ho, hE, hb, hp, HO, HV⟩ := hrel
    by_cases hlt : j < x
    · have dj : ((j : Int) < (x : Int)) = True := eq_true (by omega)
      obtain ⟨ba, oa, rfl, hca⟩ := hA' (fun e => by have := HX.out; rw [e] at this; simp at this; omega)
      have hla := getD_some (l := la) (i := j) (by rw [HX.out]; exact hlt)
      have ea := hE.cell (nat_cell hca hla)
      have hd1 := HOA.out.getD j
      have q1 := wrap64 (d := la.getD j 0) (Nat.lt_of_lt_of_le hd1 (by decide))
      have HT := Lib.hid (val_take_succ la j)
      generalize la.getD j 0 = d1 at *
      obtain ⟨wd, lo, hi, r, e1, e2, e3, e4, e5, hwd, hr, hlh, hrB, hhi, hhiB⟩ := shl_word (h := o.getD j 0) hd1 hs hp
      have hjN : j < N := by omega
      have hjN1 : j + 1 < N := by have := HN.out; omega
      have HV2 := Lib.hid (show val (((o.set j r).set (j + 1) hi).take (j + 1 + 1)) = val (la.take (j + 1)) * 2 ^ s from by
        have h1 := HV.out
        have h4 := HT.out
        rw [val_take_succ] at h1
        rw [val_set_take _ _ _ (by rw [List.length_set]; omega), val_set_take _ _ _ (by omega), h4, Nat.pow_succ, Nat.add_mul, ← h1, Nat.mul_assoc (BB ^ j) d1, ← hwd, ← hlh, hr]
        grind)
      have hp2 : ((o.set j r).set (j + 1) hi).getD (j + 1) 0 < 2 ^ s := by
        rw [List.getD_eq_getElem?_getD, List.getElem?_set_self (by rw [List.length_set]; omega)]
        exact hhi
      have HO2 := Lib.hid (ok_set (ok_set HO.out j hrB) (j + 1) hhiB)
      have ec := (hb.cell j).trans (digA_at (o := o) (i := j) (by omega))
      have ef := hb.frozen j
      have hb1 := hb.set j (.int .u32 (r : Int))
      rw [digA_set] at hb1
      have hE1 := hE.setNew hgw j (.int .u32 (r : Int))
      have ec1 := (hb1.cell (j + 1)).trans (digA_at (o := o.set j r) (i := j + 1) (by rw [List.length_set]; omega))
      have ef1 := hb1.frozen (j + 1)
      have hb2 := hb1.set (j + 1) (.int .u32 (hi : Int))
      rw [digA_set] at hb2
      have hE2 := hE1.setNew hgw (j + 1) (.int .u32 (hi : Int))
      have w8 : IntKind.i64.wrap ((j : Int) + 1) = ((j + 1 : Nat) : Int) := by rw [IntWalk.i64_in _ (by omega)]; omega
      generalize o.getD j 0 = oj at *
      generalize (o.set j r).getD (j + 1) 0 = oj1 at *
      clear hca hla hb hb1 HV HO HT hwd hr hlh hE hE1
      go_wp2_with fail
      go_roundw
      case rel => exact ⟨j + 1, _, by omega, by go_num, by rw [List.length_set, List.length_set]; exact ho, hE2, hb2, hp2, HO2, HV2⟩
      case measure => simp [intOf]; omega
    · have dj : ((j : Int) < (x : Int)) = False := eq_false (by omega)
      obtain rfl : j = x := by omega
      have hval : val o = a * 2 ^ s := by
        have h1 := HV.out
        rw [List.take_of_length_le (by rw [ho, HN.out]; exact Nat.le_refl _), List.take_of_length_le (l := la) (by rw [HX.out]; exact Nat.le_refl _), HVA.out] at h1
        exact h1
      have HS := Lib.hid (short_any (some ⟨g, 0, none⟩) N N o wr ho (Nat.le_refl _) (by omega) HO.out (digA_row (c := 0) hb))
      have hDV := DVF.short hb HO.out (by omega)
      rw [hval] at HS hDV
      clear HV hval
      go_wp2_with fail
      refine HS.out.mono ?_
      rintro e w1 ⟨rfl, rfl⟩
      go_wp2
      go_ret
      exact ⟨_, rfl, hE, hDV⟩
/-- two digits shifted to the right -/
theorem shr_word {d0 d1 s : Nat} (h0 : d0 < BB) (h1 : d1 < BB) (hs : s < 32) :
    ∃ (y z q r : Nat), IntKind.u64.wrap ((d1 : Int) * 4294967296) = (y : Int) ∧ bits .or .u64 (d0 : Int) (y : Int) = (z : Int) ∧ (z : Int) / 2 ^ s = (q : Int) ∧ IntKind.u32.wrap (q : Int) = (r : Int) ∧ 2 ^ s * r + d0 % 2 ^ s = d0 + BB * (d1 % 2 ^ s) ∧ r < BB := by
  have hB : BB = 4294967296 := rfl
  have h32 := pow32 hs
  have hp0 : 0 < 2 ^ s := Nat.pow_pos (by decide)
  have hz : d1 * BB < 18446744073709551616 := by
    have := Nat.mul_lt_mul_of_pos_right h1 (show 0 < BB by decide)
    have e : BB * BB = 18446744073709551616 := rfl
    omega
  have e0 := Nat.mod_add_div d0 (2 ^ s)
  have e1 := Nat.mod_add_div d1 (2 ^ s)
  have r0 := Nat.mod_lt d0 hp0
  have r1 := Nat.mod_lt d1 hp0
  have hq : (d1 * BB + d0) / 2 ^ s = d1 / 2 ^ s * BB + (d1 % 2 ^ s * 2 ^ (32 - s) + d0 / 2 ^ s) := by
    have : d1 * BB + d0 = 2 ^ s * (d1 / 2 ^ s * BB + (d1 % 2 ^ s * 2 ^ (32 - s) + d0 / 2 ^ s)) + d0 % 2 ^ s := by
      have a1 : d1 * BB = (d1 % 2 ^ s + 2 ^ s * (d1 / 2 ^ s)) * BB := by rw [e1]
      have a2 : 2 ^ s * (d1 % 2 ^ s * 2 ^ (32 - s)) = d1 % 2 ^ s * BB := by rw [← h32]; grind
      rw [a1]
      grind
    rw [this, Nat.mul_add_div hp0, Nat.div_eq_of_lt r0, Nat.add_zero]
  have hlt : d1 % 2 ^ s * 2 ^ (32 - s) + d0 / 2 ^ s < BB := by
    have b1 : d0 / 2 ^ s < 2 ^ (32 - s) := Nat.div_lt_of_lt_mul (by rw [h32]; exact h0)
    have b2 := Nat.mul_le_mul_right (2 ^ (32 - s)) (show d1 % 2 ^ s + 1 ≤ 2 ^ s by omega)
    rw [h32, Nat.add_mul, Nat.one_mul] at b2
    omega
  have hr : (d1 * BB + d0) / 2 ^ s % BB = d1 % 2 ^ s * 2 ^ (32 - s) + d0 / 2 ^ s := by
    rw [hq, Nat.mul_comm (d1 / 2 ^ s) BB, Nat.mul_add_mod, Nat.mod_eq_of_lt hlt]
  refine ⟨d1 * BB, d1 * BB + d0, (d1 * BB + d0) / 2 ^ s, (d1 * BB + d0) / 2 ^ s % BB, ?_, or_lo h1 h0, ?_, wrap32 _, ?_, Nat.mod_lt _ (by decide)⟩
  · have : (d1 : Int) * 4294967296 = ((d1 * BB : Nat) : Int) := by rw [Int.natCast_mul]; rfl
    rw [this]
    exact wrap64 hz
  · rw [Int.natCast_ediv, Int.natCast_pow]
    rfl
  · rw [hr]
    have a2 : 2 ^ s * (d1 % 2 ^ s * 2 ^ (32 - s)) = d1 % 2 ^ s * BB := by rw [← h32]; grind
    grind
set_option maxRecDepth 100000 in
set_option maxHeartbeats 1600000 in
theorem shiftR_any (l : List Nat) (A : Option Addr) (n c s : Nat) (w : World) (hn : l.length = n) (hnc : n ≤ c) (hcm : n ≤ 1000000000) (hn0 : n ≤ 600000000) (hl : OkD l) (hA : natE.At w A l) (hs0 : 0 < s) (hs : s < 32) :
    Calls Tryz.prog 87 #[.slice A n c, .int .i64 (-(s : Int))] w fun e w' => ∃ v, e = .returned v ∧ Ext w w' ∧ DV w' v (val l / 2 ^ s) := by
  have HS := Lib.hid (short_any A c n l w hn hnc hcm hl hA)
  have hA' := dig_at hl hA
  have hLa : L (val l) ≤ n := by rw [← hn]; exact L_val hl
  generalize val l = a at *
  obtain ⟨x, hx⟩ : ∃ x, L a = x := ⟨_, rfl⟩
  rw [hx] at HS hLa
  have hx' : (dig a).length = x := hx
  have HOA := Lib.hid (ok_dig a)
  have HVA := Lib.hid (val_dig a)
  generalize dig a = la at *
  have HX := Lib.hid hx'
  have hmk := make_digits x (by omega)
  clear hA hl hn hx hx'
  have d0 : (-(s : Int) < 0) = True := eq_true (by omega)
  obtain ⟨mm, hmm⟩ : ∃ mm : Int, mm = -32 * (x : Int) := ⟨_, rfl⟩
  have d1 : IntKind.i64.wrap (-32 * (x : Int)) = mm := by rw [hmm]; exact IntWalk.i64_in _ (by omega)
  have d1' : IntKind.i64.wrap (-(32 * (x : Int))) = mm := by rw [hmm, ← Int.neg_mul]; exact IntWalk.i64_in _ (by omega)
  have d2 : ((s : Int)).tdiv 32 = 0 := by rw [Int.tdiv_eq_ediv_of_nonneg (by omega)]; omega
  have d3 : ((s : Int)).tmod 32 = (s : Int) := by rw [Int.tmod_eq_emod_of_nonneg (by omega)]; omega
  have d5 : IntKind.i64.wrap (x : Int) = (x : Int) := by rw [IntWalk.i64_in _ (by omega)]
  have d6 : IntKind.i64.wrap (s : Int) = (s : Int) := by rw [IntWalk.i64_in _ (by omega)]
  have HDA := Lib.hid (fun W (h : Ext w W) (i : Nat) => digit_any la A x x i W HX.out (by omega) HOA.out (hA'.ext h))
  by_cases hx0 : x = 0
  · have ha : a = 0 := by
      have := HX.out
      rw [← HVA.out, List.eq_nil_of_length_eq_zero (by omega : la.length = 0)]; rfl
    rw [ha, Nat.zero_div]
    have d7 : (-(s : Int) ≤ mm) = True := eq_true (by omega)
    clear hmm
    go_enter Tryz.func87, Tryz.ntmps87
    go_wp2_with fail
    refine HS.out.mono ?_
    rintro e w1 ⟨rfl, rfl⟩
    go_wp2
    go_ret
    exact ⟨_, rfl, Ext.refl _, none, 0, by rw [dig_zero]; rfl, by rw [dig_zero]; exact Nat.le_refl _, by rw [dig_zero]; decide, by rw [dig_zero]; exact EL.At.nil _ _⟩
  · have d7 : (-(s : Int) ≤ mm) = False := eq_false (by omega)
    clear hmm
    go_enter Tryz.func87, Tryz.ntmps87
    go_wp2_with fail
    refine HS.out.mono ?_
    rintro e w1 ⟨rfl, rfl⟩
    go_wp2_with fail
    clear hmk
    generalize hW : World.alloc w _ = W
    have hb : Box W w.heap.size 93 (digA (List.replicate x 0)) := by rw [← hW]; exact Box.new _ _ _
    have hE : Ext w W := by rw [← hW]; exact Ext.alloc _ _
    obtain ⟨g, hg⟩ : ∃ g, g = w.heap.size := ⟨_, rfl⟩
    have hgw : w.heap.size ≤ g := Nat.le_of_eq hg.symm
    rw [← hg] at hb ⊢
    clear hW hg d0 d1 d1' d2 d3 d5 d6 d7
    go_loopw [37] (fun i wr => ∃ (j : Nat) (o : List Nat), j ≤ x ∧ i = .int .i64 j ∧ o.length = x ∧ Ext w wr ∧ Box wr g 93 (digA o) ∧ Hid (OkD o) ∧ Hid (2 ^ s * val (o.take j) + la.getD 0 0 % 2 ^ s = val (la.take j) + BB ^ j * (la.getD j 0 % 2 ^ s))) (fun i _ => x - (intOf i).toNat)
    case atStart => exact ⟨0, _, Nat.zero_le _, rfl, by simp, hE, hb, Lib.hid (ok_zeros _), Lib.hid (by simp [val])⟩
    case round =>
      clear hE hb
      obtain ⟨j, o, hj, rfl, ho, hE, hb, HO, HV⟩ := hrel
      by_cases hlt : j < x
      · have dj : ((j : Int) < (x : Int)) = True := eq_true (by omega)
        have hda := HDA.out wr hE j
        have hdb := HDA.out wr hE (j + 1)
        obtain ⟨y, z, q, r, e1, e2, e3, e4, hr, hrB⟩ := shr_word (HOA.out.getD j) (HOA.out.getD (j + 1)) hs
        have HV2 := Lib.hid (show 2 ^ s * val ((o.set j r).take (j + 1)) + la.getD 0 0 % 2 ^ s = val (la.take (j + 1)) + BB ^ (j + 1) * (la.getD (j + 1) 0 % 2 ^ s) from by
          have h1 := HV.out
          rw [val_set_take _ _ _ (by omega), val_take_succ, Nat.pow_succ]
          generalize la.getD j 0 = x0 at *
          generalize la.getD (j + 1) 0 = x1 at *
          generalize BB ^ j = P at *
          have h2 : P * (2 ^ s * r + x0 % 2 ^ s) = P * (x0 + BB * (x1 % 2 ^ s)) := by rw [hr]
          grind)
        have HO2 := Lib.hid (ok_set HO.out j hrB)
        have ec := (hb.cell j).trans (digA_at (o := o) (i := j) (by omega))
        have ef := hb.frozen j
        have hb2 := hb.set j (.int .u32 (r : Int))
        rw [digA_set] at hb2
        have hE2 := hE.setNew hgw j (.int .u32 (r : Int))
        obtain ⟨j1, hj1⟩ : ∃ j1, j1 = j + 1 := ⟨_, rfl⟩
        have w8 : IntKind.i64.wrap ((j : Int) + 1) = (j1 : Int) := by rw [IntWalk.i64_in _ (by omega)]; omega
        have w9 : IntKind.i64.wrap (j : Int) = (j : Int) := by rw [IntWalk.i64_in _ (by omega)]
        rw [← hj1] at hdb HV2 e1
        have hj1x : j1 ≤ x := by omega
        have hm : x - j1 < x - j := by omega
        generalize la.getD j 0 = x0 at *
        obtain ⟨x1, hx1⟩ : ∃ x1, la.getD j1 0 = x1 := ⟨_, rfl⟩
        rw [hx1] at hdb HV2 e1
        have HX1 := Lib.hid hx1
        clear hx1
        generalize o.getD j 0 = oj at *
        have hjo : j < o.length := by omega
        clear hb HV HO hr hj1
        go_wp2_with fail
        refine hda.mono ?_
        rintro e w1 ⟨rfl, rfl⟩
        go_wp2_with fail
        refine hdb.mono ?_
        rintro e w1 ⟨rfl, rfl⟩
        clear hda hdb
        go_wp2_with fail
        go_roundw
        case rel => exact ⟨j1, o.set j r, hj1x, by go_num, by rw [List.length_set]; exact ho, hE2, hb2, HO2, by rw [HX1.out]; exact HV2⟩
        case measure => simp [intOf]; exact hm
      · have dj : ((j : Int) < (x : Int)) = False := eq_false (by omega)
        obtain rfl : j = x := by omega
        have hval : val o = a / 2 ^ s := by
          have h1 := HV.out
          have hp0 : 0 < 2 ^ s := Nat.pow_pos (by decide)
          have h2 : la.getD j 0 = 0 := by rw [List.getD_eq_getElem?_getD, List.getElem?_eq_none (by rw [HX.out]; exact Nat.le_refl _)]; rfl
          rw [List.take_of_length_le (by omega), List.take_of_length_le (l := la) (by rw [HX.out]; exact Nat.le_refl _), HVA.out, h2, Nat.zero_mod, Nat.mul_zero, Nat.add_zero] at h1
          rw [← h1, Nat.mul_add_div hp0, Nat.div_eq_of_lt (Nat.mod_lt _ hp0), Nat.add_zero]
        have HS := Lib.hid (short_any (some ⟨g, 0, none⟩) j j o wr ho (Nat.le_refl _) (by omega) HO.out (digA_row (c := 0) hb))
        have hDV := DV.short hb HO.out (by omega)
        rw [hval] at HS hDV
        clear HV hval
        go_wp2_with fail
        refine HS.out.mono ?_
        rintro e w1 ⟨rfl, rfl⟩
        go_wp2
        go_ret
        exact ⟨_, rfl, hE, hDV⟩
end Go.Proofs.YtodefmfgoehkhaaGreat

/- natural: the estimate of a quotient's digit. -/
set_option linter.unusedVariables false
set_option linter.unusedSimpArgs false
namespace Go.Proofs.YtodefmfgoehkhaaGreat
open Go.RowKit Go.Par Go.TN

set_option maxRecDepth 100000 in
set_option maxHeartbeats 1600000 in
theorem guess_any (us vs : List Nat) (A B : Option Addr) (m n n1 c d : Nat) (w : World) (hnm : n = m + 2) (hn1 : n1 = n + 1) (hu : us.length = n1) (hv : vs.length = n) (hn0 : n ≤ 600000000) (hou : OkD us) (hov : OkD vs) (hA : natE.At w A us) (hB : natE.At w B vs)
    (hV1 : 2147483648 ≤ vs.getD (m + 1) 0) (hlt : val us < BB * val vs) :
    Calls Tryz.prog 88 #[.slice A n1 c, .slice B n d] w fun e w' => ∃ q : Nat, e = .returned (.int .u64 (q : Int)) ∧ Ext w w' ∧ q < BB ∧ val us / val vs ≤ q ∧ q ≤ val us / val vs + 1 := by
  have hU := top3 (l := us) (m := m) (by omega)
  have hVV := top2 (l := vs) (m := m) (by omega)
  have hlu := val_lt (hou.take m)
  have hlv := val_lt (hov.take m)
  rw [List.length_take, Nat.min_eq_left (by omega)] at hlu hlv
  obtain ⟨ba, oa, rfl, hca⟩ := hA (fun e => by rw [e] at hu; simp at hu; omega)
  obtain ⟨bb, ob, rfl, hcb⟩ := hB (fun e => by rw [e] at hv; simp at hv; omega)
  have a0 := nat_cell hca (getD_some (l := us) (i := m) (by omega))
  have a1 := nat_cell hca (getD_some (l := us) (i := m + 1) (by omega))
  have a2 := nat_cell hca (getD_some (l := us) (i := m + 2) (by omega))
  have b0 := nat_cell hcb (getD_some (l := vs) (i := m) (by omega))
  have b1 := nat_cell hcb (getD_some (l := vs) (i := m + 1) (by omega))
  have g0 := hou.getD m
  have g1 := hou.getD (m + 1)
  have g2 := hou.getD (m + 2)
  have f0 := hov.getD m
  have f1 := hov.getD (m + 1)
  have c0 := wrap64 (d := us.getD m 0) (Nat.lt_of_lt_of_le g0 (by decide))
  have c1 := wrap64 (d := us.getD (m + 1) 0) (Nat.lt_of_lt_of_le g1 (by decide))
  have c2 := wrap64 (d := us.getD (m + 2) 0) (Nat.lt_of_lt_of_le g2 (by decide))
  have e0 := wrap64 (d := vs.getD m 0) (Nat.lt_of_lt_of_le f0 (by decide))
  have e1 := wrap64 (d := vs.getD (m + 1) 0) (Nat.lt_of_lt_of_le f1 (by decide))
  generalize us.getD m 0 = u2 at *
  generalize us.getD (m + 1) 0 = u1 at *
  generalize us.getD (m + 2) 0 = u0 at *
  generalize vs.getD m 0 = v2 at *
  generalize vs.getD (m + 1) 0 = v1 at *
  generalize val (us.take m) = lowu at *
  generalize val (vs.take m) = lowv at *
  generalize BB ^ m = P at *
  generalize val us = U at *
  generalize val vs = V at *
  obtain ⟨T, hT⟩ : ∃ T, T = u0 * BB + u1 := ⟨_, rfl⟩
  have hU' : U = lowu + P * (u2 + BB * T) := by rw [hU, hT]; grind
  have hP : 0 < P := by omega
  have hTv : T ≤ BB * v1 + v2 := by
    have k1 : P * (BB * T) ≤ U := by
      rw [hU', Nat.mul_add]; omega
    have k2 : BB * V < BB * (P * (v2 + BB * v1 + 1)) := by
      apply Nat.mul_lt_mul_of_pos_left _ (by decide)
      rw [hVV, Nat.mul_add P _ 1, Nat.mul_one]; omega
    have k3 : P * (BB * T) < P * (BB * (v2 + BB * v1 + 1)) := by
      have : BB * (P * (v2 + BB * v1 + 1)) = P * (BB * (v2 + BB * v1 + 1)) := by grind
      omega
    have k4 := Nat.lt_of_mul_lt_mul_left (Nat.lt_of_mul_lt_mul_left k3)
    omega
  have hVp : 0 < V := by
    have h1 : 0 < BB * v1 := Nat.mul_pos (by decide) (by omega)
    have h2 : 0 < P * (v2 + BB * v1) := Nat.mul_pos hP (by omega)
    omega
  have hQB : U / V < BB := Nat.div_lt_of_lt_mul (by rw [Nat.mul_comm]; exact hlt)
  have HK := Lib.hid (fun (q r : Nat) => guess_keep (U := U) (V := V) (u2 := u2) (T := T) (v1 := v1) (v2 := v2) (q := q) (r := r) (lowu := lowu) (lowv := lowv) (P := P) hU' hVV hlu)
  have HE := Lib.hid (fun (q r : Nat) => guess_end (U := U) (V := V) (u2 := u2) (T := T) (v1 := v1) (v2 := v2) (q := q) (r := r) (lowu := lowu) (lowv := lowv) (P := P) hU' hVV hlv)
  have HQ := Lib.hid hQB
  have HVp := Lib.hid hVp
  have hTB : T < 18446744073709551616 := by
    have e : BB = 4294967296 := rfl
    rw [e] at hT g0 g1 g2
    omega
  obtain ⟨y, hy⟩ : ∃ y, y = u0 * BB := ⟨_, rfl⟩
  have t1 : IntKind.u64.wrap ((u0 : Int) * 4294967296) = (y : Int) := by
    have : (u0 : Int) * 4294967296 = ((u0 * BB : Nat) : Int) := by rw [Int.natCast_mul]; rfl
    rw [this, hy]
    exact wrap64 (by omega)
  have t2 : bits .or .u64 (y : Int) (u1 : Int) = (T : Int) := by rw [hy, hT]; exact or_hi g2 g1
  have t3 : (T : Int).tdiv (v1 : Int) = ((T / v1 : Nat) : Int) := rfl
  have t4 : (T : Int).tmod (v1 : Int) = ((T % v1 : Nat) : Int) := rfl
  have hv1p : 0 < v1 := by omega
  have t5 := wrap64 (d := T / v1) (Nat.lt_of_le_of_lt (Nat.div_le_self _ _) hTB)
  have t6 := wrap64 (d := T % v1) (Nat.lt_of_le_of_lt (Nat.mod_le _ _) hTB)
  have hqr : T / v1 * v1 + T % v1 = T := by rw [Nat.mul_comm]; exact Nat.div_add_mod T v1
  have hrv : T % v1 < v1 := Nat.mod_lt _ hv1p
  have hge0 : U / V ≤ T / v1 := by
    rw [Nat.le_div_iff_mul_le hv1p]
    have k1 : U / V * V ≤ U := Nat.div_mul_le_self U V
    have k2 : U / V * (P * (BB * v1)) ≤ U / V * V := Nat.mul_le_mul_left _ (by rw [hVV, Nat.mul_add]; omega)
    have k3 : U < P * (BB * (T + 1)) := by
      have k4 : P * (u2 + BB * T) + P ≤ P * (BB * (T + 1)) := by
        rw [← Nat.mul_succ]
        apply Nat.mul_le_mul_left
        rw [Nat.mul_add, Nat.mul_one]
        omega
      omega
    have k5 : P * (BB * (U / V * v1)) < P * (BB * (T + 1)) := by
      have : U / V * (P * (BB * v1)) = P * (BB * (U / V * v1)) := by grind
      omega
    have k6 := Nat.lt_of_mul_lt_mul_left (Nat.lt_of_mul_lt_mul_left k5)
    omega
  obtain ⟨m1, hm1⟩ : ∃ m1, m1 = m + 1 := ⟨_, rfl⟩
  rw [← hm1] at a1 b1
  have i1 : IntKind.i64.wrap ((n : Int) - 1) = (m1 : Int) := by rw [IntWalk.i64_in _ (by omega)]; omega
  have i2 : IntKind.i64.wrap ((n : Int) - 2) = (m : Int) := by rw [IntWalk.i64_in _ (by omega)]; omega
  rw [← hnm] at a2
  have j0 : n < n1 := by omega
  have j1 : m1 < n1 := by omega
  have j2 : m < n1 := by omega
  have j3 : m1 < n := by omega
  have j4 : m < n := by omega
  have hvz : ((v1 : Int) == 0) = false := by simp; omega
  have hvz' : ¬ v1 = 0 := by omega
  generalize T / v1 = q0 at *
  generalize T % v1 = r0 at *
  clear hU hVV hU' hlu hlv hP hT hca hcb hA hB hou hov hlt hQB hVp hu hv hm1 hnm hn1 hy
  go_enter Tryz.func88, Tryz.ntmps88
  go_wp2_with fail
  go_quiet (fail)
  go_wp2_with fail
  go_quiet (fail)
  go_wp2_with fail
  clear t1 t2 t3 t4 t5 t6
  go_loopw [7, 8] (fun a b wr => ∃ q r : Nat, a = .int .u64 (q : Int) ∧ b = .int .u64 (r : Int) ∧ Ext w wr ∧ r < BB ∧ q * v1 + r = T ∧ U / V ≤ q ∧ q < 18446744073709551616) (fun a _ _ => (intOf a).toNat)
  case atStart => exact ⟨q0, r0, rfl, rfl, (Ext.drewN _ _).trans (Ext.drewN _ _), by omega, hqr, hge0, by
    have : q0 * 1 ≤ q0 * v1 := Nat.mul_le_mul_left q0 hv1p
    omega⟩
  case round =>
    clear hqr hge0 hrv
    obtain ⟨q, r, rfl, rfl, hE, hrB0, hqr, hge, hqb0⟩ := hrel
    replace a0 := hE.cell a0
    replace b0 := hE.cell b0
    replace b1 := hE.cell b1
    have w0 := shr32 q
    by_cases hqB : BB ≤ q
    · have w5 : (((q / BB : Nat) : Int) != 0) = true := by
        have : 1 ≤ q / BB := (Nat.le_div_iff_mul_le (by decide)).2 (by omega)
        simp; omega
      generalize q / BB = qh at *
      have hq1 : 1 ≤ q := by omega
      obtain ⟨q', hq'⟩ : ∃ q', q = q' + 1 := ⟨q - 1, by omega⟩
      have hge' : U / V ≤ q' := by
        have := HK.out q r hqr hge HVp.out (.inl ⟨hqB, HQ.out⟩)
        rw [hq'] at this
        exact this
      have hqr' : q' * v1 + (r + v1) = T := by rw [← hqr, hq', Nat.add_mul, Nat.one_mul]; omega
      have w1 : IntKind.u64.wrap ((q : Int) - 1) = (q' : Int) := by
        rw [hq']
        have : ((q' + 1 : Nat) : Int) - 1 = (q' : Int) := by omega
        rw [this]
        exact wrap64 (by omega)
      have w2 : IntKind.u64.wrap ((r : Int) + (v1 : Int)) = ((r + v1 : Nat) : Int) := by
        have : (r : Int) + (v1 : Int) = ((r + v1 : Nat) : Int) := by omega
        rw [this]
        exact wrap64 (by have : BB = 4294967296 := rfl; omega)
      have hbr : BB ≤ r + v1 → q' < BB := fun h => by
        rcases Nat.lt_or_ge q' BB with h' | h'
        · exact h'
        · exfalso
          have k1 := Nat.mul_le_mul_right v1 h'
          omega
      have hqb : q' < 18446744073709551616 := by omega
      obtain ⟨r', hr'⟩ : ∃ r', r' = r + v1 := ⟨_, rfl⟩
      rw [← hr'] at w2 hqr' hbr
      have w3 := shr32 r'
      by_cases hb : BB ≤ r'
      · have w4 : (((r' / BB : Nat) : Int) != 0) = true := by
          have : 1 ≤ r' / BB := (Nat.le_div_iff_mul_le (by decide)).2 (by omega)
          simp; omega
        have hfin := HE.out q' r' hqr' (hbr hb) (by omega) (.inr hb) f0
        have hqf := hbr hb
        generalize r' / BB = rh at *
        clear hbr hqr' hr' hq'
        go_wp2_with fail
        go_quiet (fail)
        go_wp2
        go_ret
        exact ⟨q', rfl, hE.trans (Ext.drewN _ _), hqf, hge', hfin⟩
      · have w4 : (((r' / BB : Nat) : Int) != 0) = false := by
          have : r' / BB = 0 := Nat.div_eq_of_lt (by omega)
          rw [this]; rfl
        have hm : q' < q := by omega
        have hrB : r' < BB := by omega
        generalize r' / BB = rh at *
        clear hbr hr' hq' hb
        go_wp2_with fail
        go_quiet (fail)
        go_wp2_with fail
        go_roundw
        case rel => exact ⟨q', r', rfl, rfl, hE.trans (Ext.drewN _ _), hrB, hqr', hge', hqb⟩
        case measure => simp [intOf]; exact hm
    · have w5 : (((q / BB : Nat) : Int) != 0) = false := by
        have : q / BB = 0 := Nat.div_eq_of_lt (by omega)
        rw [this]; rfl
      generalize q / BB = qh at *
      have hp : q * v2 < 18446744073709551616 := by
        have k1 : q * v2 ≤ (BB - 1) * (BB - 1) := Nat.mul_le_mul (by omega) (by omega)
        have k2 : (BB - 1) * (BB - 1) = 18446744065119617025 := rfl
        omega
      have hz : r * BB < 18446744073709551616 := by
        have k1 := Nat.mul_le_mul_right BB (show r ≤ BB - 1 by omega)
        have k2 : (BB - 1) * BB = 18446744069414584320 := rfl
        omega
      obtain ⟨pp, hpp⟩ : ∃ pp, pp = q * v2 := ⟨_, rfl⟩
      obtain ⟨zz, hzz⟩ : ∃ zz, zz = r * BB := ⟨_, rfl⟩
      obtain ⟨zu, hzu⟩ : ∃ zu, zu = r * BB + u2 := ⟨_, rfl⟩
      have x1 : IntKind.u64.wrap ((q : Int) * (v2 : Int)) = (pp : Int) := by
        rw [hpp, ← Int.natCast_mul]; exact wrap64 hp
      have x2 : IntKind.u64.wrap ((r : Int) * 4294967296) = (zz : Int) := by
        have : (r : Int) * 4294967296 = ((r * BB : Nat) : Int) := by rw [Int.natCast_mul]; rfl
        rw [this, hzz]
        exact wrap64 hz
      have x3 : bits .or .u64 (zz : Int) (u2 : Int) = (zu : Int) := by rw [hzz, hzu]; exact or_hi hrB0 g0
      by_cases hzp0 : zu < pp
      · have x4 : ((zu : Int) < (pp : Int)) = True := eq_true (by omega)
        have hzp : r * BB + u2 < q * v2 := by rw [← hzu, ← hpp]; exact hzp0
        clear hpp hzz hzu hp hz hzp0
        have hq1 : 1 ≤ q := by
          rcases Nat.eq_zero_or_pos q with h | h
          · rw [h, Nat.zero_mul] at hzp
            exact absurd hzp (Nat.not_lt_zero _)
          · exact h
        obtain ⟨q', hq'⟩ : ∃ q', q = q' + 1 := ⟨q - 1, by omega⟩
        have hge' : U / V ≤ q' := by
          have := HK.out q r hqr hge HVp.out (.inr hzp)
          rw [hq'] at this
          exact this
        have hqr' : q' * v1 + (r + v1) = T := by rw [← hqr, hq', Nat.add_mul, Nat.one_mul]; omega
        have w1 : IntKind.u64.wrap ((q : Int) - 1) = (q' : Int) := by
          rw [hq']
          have : ((q' + 1 : Nat) : Int) - 1 = (q' : Int) := by omega
          rw [this]
          exact wrap64 (by omega)
        have w2 : IntKind.u64.wrap ((r : Int) + (v1 : Int)) = ((r + v1 : Nat) : Int) := by
          have : (r : Int) + (v1 : Int) = ((r + v1 : Nat) : Int) := by omega
          rw [this]
          exact wrap64 (by have : BB = 4294967296 := rfl; omega)
        have hbr : BB ≤ r + v1 → q' < BB := fun h => by
          rcases Nat.lt_or_ge q' BB with h' | h'
          · exact h'
          · exfalso
            have k1 := Nat.mul_le_mul_right v1 h'
            omega
        have hqb : q' < 18446744073709551616 := by omega
        obtain ⟨r', hr'⟩ : ∃ r', r' = r + v1 := ⟨_, rfl⟩
        rw [← hr'] at w2 hqr' hbr
        have w3 := shr32 r'
        by_cases hb : BB ≤ r'
        · have w4 : (((r' / BB : Nat) : Int) != 0) = true := by
            have : 1 ≤ r' / BB := (Nat.le_div_iff_mul_le (by decide)).2 (by omega)
            simp; omega
          have hfin := HE.out q' r' hqr' (hbr hb) (by omega) (.inr hb) f0
          have hqf := hbr hb
          generalize r' / BB = rh at *
          clear hbr hqr' hr' hq'
          go_wp2_with fail
          go_quiet (fail)
          go_wp2
          go_ret
          exact ⟨q', rfl, hE.trans (Ext.drewN _ _), hqf, hge', hfin⟩
        · have w4 : (((r' / BB : Nat) : Int) != 0) = false := by
            have : r' / BB = 0 := Nat.div_eq_of_lt (by omega)
            rw [this]; rfl
          have hm : q' < q := by omega
          have hrB : r' < BB := by omega
          generalize r' / BB = rh at *
          clear hbr hr' hq' hb
          go_wp2_with fail
          go_quiet (fail)
          go_wp2_with fail
          go_roundw
          case rel => exact ⟨q', r', rfl, rfl, hE.trans (Ext.drewN _ _), hrB, hqr', hge', hqb⟩
          case measure => simp [intOf]; exact hm
      · have x4 : ((zu : Int) < (pp : Int)) = False := eq_false (by omega)
        have hzp : q * v2 ≤ r * BB + u2 := by rw [← hzu, ← hpp]; omega
        have hfin := HE.out q r hqr (by omega) (by omega) (.inl hzp) f0
        have hqf : q < BB := by omega
        clear hpp hzz hzu hp hz hzp0 hzp hqB
        go_wp2_with fail
        go_quiet (fail)
        go_wp2
        go_ret
        exact ⟨q, rfl, hE.trans (Ext.drewN _ _), hqf, hge, hfin⟩
end Go.Proofs.YtodefmfgoehkhaaGreat

/- natural: a multiple taken off in place. -/
set_option linter.unusedVariables false
set_option linter.unusedSimpArgs false
namespace Go.Proofs.YtodefmfgoehkhaaGreat
open Go.RowKit Go.Par Go.TN

/-- block g begins with these digits -/
def UB (w : World) (g : Nat) (us : List Nat) : Prop := ∃ cur, Box w g 93 cur ∧ ∀ i, i < us.length → cur[i]? = some (.int .u32 ((us.getD i 0 : Nat) : Int))
theorem UB.cell {w : World} {g : Nat} {us : List Nat} (h : UB w g us) {i : Nat} (hi : i < us.length) : w.cell? ⟨g, i, none⟩ = some (.int .u32 ((us.getD i 0 : Nat) : Int)) := by
  obtain ⟨cur, hb, hc⟩ := h
  exact (hb.cell i).trans (hc i hi)
theorem UB.frozen {w : World} {g : Nat} {us : List Nat} (h : UB w g us) (i : Nat) : w.frozen? ⟨g, i, none⟩ = false := by
  obtain ⟨cur, hb, hc⟩ := h
  exact hb.frozen i
theorem UB.lt {w : World} {g : Nat} {us : List Nat} (h : UB w g us) : g < w.heap.size := by
  obtain ⟨cur, hb, hc⟩ := h
  exact hb.lt
theorem UB.ext {w w' : World} {g : Nat} {us : List Nat} (h : UB w g us) (he : Ext w w') : UB w' g us := by
  obtain ⟨cur, hb, hc⟩ := h
  exact ⟨cur, hb.ext he, hc⟩
theorem UB.set {w : World} {g : Nat} {us : List Nat} (h : UB w g us) (i d : Nat) : UB (w.setCell ⟨g, i, none⟩ (.int .u32 (d : Int))) g (us.set i d) := by
  obtain ⟨cur, hb, hc⟩ := h
  refine ⟨_, hb.set i _, fun j hj => ?_⟩
  rw [List.length_set] at hj
  rw [Array.getElem?_setIfInBounds]
  by_cases e : i = j
  · subst e
    have := (Array.getElem?_eq_some_iff.1 (hc i hj)).1
    rw [if_pos rfl, if_pos this, List.getD_eq_getElem?_getD, List.getElem?_set_self hj]
    rfl
  · rw [if_neg e, hc j hj, getD_set_ne e]
theorem UB.at {w : World} {g : Nat} {us : List Nat} (h : UB w g us) : natE.At w (some ⟨g, 0, none⟩) us := by
  obtain ⟨cur, hb, hc⟩ := h
  refine EL.At.box hb fun j v hv => ?_
  rw [natE_cells, List.getElem?_map] at hv
  cases e : us[j]? with
  | none => rw [e] at hv; cases hv
  | some d =>
    rw [e] at hv
    simp only [Option.map_some, Option.some.injEq] at hv
    have hj := (List.getElem?_eq_some_iff.1 e).1
    rw [hc j hj, ← hv, List.getD_eq_getElem?_getD, e]
    rfl
theorem set_mid {pre p post : List Nat} {k i d : Nat} (hk : pre.length = k) (hi : i < p.length) : (pre ++ (p ++ post)).set (k + i) d = pre ++ (p.set i d ++ post) := by
  rw [List.set_append_right _ _ (by omega), show k + i - pre.length = i by omega, List.set_append_left _ _ hi]
theorem getD_mid {pre p post : List Nat} {k i : Nat} (hk : pre.length = k) (hi : i < p.length) : (pre ++ (p ++ post)).getD (k + i) 0 = p.getD i 0 := by
  rw [List.getD_eq_getElem?_getD, List.getD_eq_getElem?_getD, List.getElem?_append_right (by omega), show k + i - pre.length = i by omega, List.getElem?_append_left hi]
/-- one digit taken off -/
theorem take_digit {c q y u bo : Nat} (hc : c < BB) (hq : q < BB) (hy : y < BB) (hu : u < BB) (hb : bo ≤ 1) :
    ∃ (p s lo : Nat) (x : Int) (v r c' b' : Nat), IntKind.u64.wrap ((q : Int) * (y : Int)) = (p : Int) ∧ IntKind.u64.wrap ((c : Int) + (p : Int)) = (s : Int) ∧ bits .and .u64 (s : Int) 4294967295 = (lo : Int) ∧ IntKind.u64.wrap ((u : Int) - (lo : Int)) = x ∧
      IntKind.u64.wrap (x - (bo : Int)) = (v : Int) ∧ IntKind.u32.wrap (v : Int) = (r : Int) ∧ (s : Int) / 4294967296 = (c' : Int) ∧ (v : Int) / 9223372036854775808 = (b' : Int) ∧ s = c + q * y ∧ r + (c + q * y) % BB + bo = u + BB * b' ∧ c' = (c + q * y) / BB ∧ r < BB ∧ c' < BB ∧ b' ≤ 1 := by
  have hB : BB = 4294967296 := rfl
  have h1 : q * y ≤ (BB - 1) * (BB - 1) := Nat.mul_le_mul (by omega) (by omega)
  have h2 : (BB - 1) * (BB - 1) = 18446744065119617025 := rfl
  have h3 : BB * BB = 18446744073709551616 := rfl
  have hs : c + q * y < BB * BB := by omega
  obtain ⟨x, v, r, b', k1, k2, k3, k4, k5, k6, k7⟩ := sub_digit (d1 := u) (d2 := (c + q * y) % BB) (bo := bo) hu (Nat.mod_lt _ (by decide)) hb
  refine ⟨q * y, c + q * y, (c + q * y) % BB, x, v, r, (c + q * y) / BB, b', ?_, ?_, and_lo (by omega), k1, k2, k3, shr32 _, k4, rfl, by omega, rfl, k6, Nat.div_lt_of_lt_mul hs, k7⟩
  · rw [← Int.natCast_mul]; exact wrap64 (by omega)
  · rw [← Int.natCast_add]; exact wrap64 (by omega)
set_option maxRecDepth 100000 in
set_option maxHeartbeats 3200000 in
theorem take_any (pre part post vs : List Nat) (B : Option Addr) (g k n n1 c d q : Nat) (w : World) (hk : pre.length = k) (hp : part.length = n1) (hn1 : n1 = n + 1) (hv : vs.length = n) (hn0 : n ≤ 600000000) (hop : OkD part) (hov : OkD vs) (hq : q < BB)
    (hub : UB w g (pre ++ (part ++ post))) (hB : ∀ w', But g w w' → natE.At w' B vs) :
    Calls Tryz.prog 89 #[.slice (some ⟨g, k, none⟩) n1 c, .slice B n d, .int .u64 (q : Int)] w fun e w' => ∃ (p : List Nat) (b : Nat), e = .returned (.bool (decide (b = 1))) ∧ But g w w' ∧ p.length = n1 ∧ OkD p ∧ UB w' g (pre ++ (p ++ post)) ∧ b ≤ 1 ∧ val p + q * val vs = val part + BB ^ n1 * b := by
  have HK := Lib.hid hk
  have HP := Lib.hid hp
  have HV := Lib.hid hv
  have HOP := Lib.hid hop
  have HOV := Lib.hid hov
  have HN1 := Lib.hid hn1
  have hnn : n < n1 := by omega
  have hB0 : natE.At w B vs := hB w (But.refl _ _)
  clear hk hp hv hop hov hn1
  go_enter Tryz.func89, Tryz.ntmps89
  go_wp2_with fail
  go_loopw [7, 8, 15] (fun s t i wr => ∃ (j cy bo : Nat) (p : List Nat), j ≤ n ∧ s = .int .u64 (cy : Int) ∧ t = .int .u64 (bo : Int) ∧ i = .int .i64 (j : Int) ∧ p.length = n1 ∧ cy < BB ∧ bo ≤ 1 ∧ But g w wr ∧ UB wr g (pre ++ (p ++ post)) ∧ Hid (OkD p) ∧ Hid (val (p.take j) + q * val (vs.take j) = val (part.take j) + BB ^ j * (cy + bo)) ∧ Hid (∀ t, j ≤ t → p.getD t 0 = part.getD t 0)) (fun _ _ i _ => n - (intOf i).toNat)
  case atStart => exact ⟨0, 0, 0, part, Nat.zero_le _, rfl, rfl, rfl, HP.out, by decide, by omega, But.refl _ _, hub, HOP, Lib.hid (by simp [val]), Lib.hid (fun _ _ => rfl)⟩
  case round =>
    clear hub
    obtain ⟨j, cy, bo, p, hj, rfl, rfl, rfl, hpl, hcy, hbo, hE, hub, HO, HE, HS⟩ := hrel
    have hat := hB wr hE
    by_cases hlt : j < n
    · have dj : ((j : Int) < (n : Int)) = True := eq_true (by omega)
      obtain ⟨bb, ob, rfl, hcb⟩ := hat (fun e => by have := HV.out; rw [e] at this; simp at this; omega)
      have eb := nat_cell hcb (getD_some (l := vs) (i := j) (by rw [HV.out]; exact hlt))
      have hy := HOV.out.getD j
      have hu := HO.out.getD j
      have w6 := wrap64 (d := vs.getD j 0) (Nat.lt_of_lt_of_le hy (by decide))
      have w7 := wrap64 (d := p.getD j 0) (Nat.lt_of_lt_of_le hu (by decide))
      obtain ⟨pp, s, lo, x, v, r, c', b', q1, q2, q3, q4, q5, q6, q7, q8, hs, hr, hc', hrB, hcB, hb1⟩ := take_digit hcy hq hy hu hbo
      have HST := Lib.hid (take_step (u := part) (v := vs) (o := p) (i := j) (q := q) (c := cy) (b := bo) (n := r) (c' := c') (b' := b') (by omega) HE.out (by rw [← HS.out j (Nat.le_refl _)]; exact hr) hc')
      have HO2 := Lib.hid (ok_set HO.out j hrB)
      have HS2 := Lib.hid (show ∀ t, j + 1 ≤ t → (p.set j r).getD t 0 = part.getD t 0 from fun t ht => by rw [getD_set_ne (by omega)]; exact HS.out t (by omega))
      have ec := hub.cell (i := k + j) (by rw [List.length_append, List.length_append, HK.out]; omega)
      rw [getD_mid HK.out (by omega)] at ec
      have ef := hub.frozen (k + j)
      have hub2 := hub.set (k + j) r
      rw [set_mid HK.out (by omega)] at hub2
      have hE2 := hE.set (k + j) (.int .u32 (r : Int))
      have hjn1 : j < n1 := by omega
      generalize vs.getD j 0 = y at *
      generalize p.getD j 0 = u at *
      clear hcb hub HE HS HO hs hr hc' hat
      go_wp2_with fail
      go_roundw
      case rel => exact ⟨j + 1, c', b', p.set j r, by omega, rfl, rfl, by go_num, by rw [List.length_set]; exact hpl, hcB, hb1, hE2, hub2, HO2, HST, HS2⟩
      case measure => simp [intOf]; omega
    · have dj : ((j : Int) < (n : Int)) = False := eq_false (by omega)
      obtain rfl : j = n := by omega
      have hu := HO.out.getD j
      obtain ⟨x, v, r, b', q4, q5, q6, q8, hr, hrB, hb1⟩ := sub_digit (d1 := p.getD j 0) (d2 := cy) (bo := bo) hu hcy hbo
      have w7 := wrap64 (d := p.getD j 0) (Nat.lt_of_lt_of_le hu (by decide))
      have HF := Lib.hid (show val (p.set j r) + q * val vs = val part + BB ^ n1 * b' from by
        have h1 := HE.out
        rw [List.take_of_length_le (l := vs) (by rw [HV.out]; exact Nat.le_refl _)] at h1
        have e1 : val (p.set j r) = val (p.take j) + BB ^ j * r := by
          have := val_set_take p j r (by omega)
          rw [List.take_of_length_le (by rw [List.length_set, hpl, HN1.out]; exact Nat.le_refl _)] at this
          exact this
        have e2 : val part = val (part.take j) + BB ^ j * part.getD j 0 := by
          have := val_take_succ part j
          rw [List.take_of_length_le (by rw [HP.out, HN1.out]; exact Nat.le_refl _)] at this
          exact this
        rw [← HS.out j (Nat.le_refl _)] at e2
        have e3 : BB ^ n1 = BB ^ j * BB := by rw [HN1.out, Nat.pow_succ]
        rw [e1, e2, e3]
        generalize BB ^ j = P at *
        have e4 : P * (r + (cy + bo)) = P * (p.getD j 0 + BB * b') := by rw [hr]
        grind)
      have HO2 := Lib.hid (ok_set HO.out j hrB)
      have ec := hub.cell (i := k + j) (by rw [List.length_append, List.length_append, HK.out]; omega)
      rw [getD_mid HK.out (by omega)] at ec
      have ef := hub.frozen (k + j)
      have hub2 := hub.set (k + j) r
      rw [set_mid HK.out (by omega)] at hub2
      have hE2 := hE.set (k + j) (.int .u32 (r : Int))
      have hneg : (((b' : Nat) : Int) != 0) = decide (b' = 1) := by
        rcases (by omega : b' = 0 ∨ b' = 1) with h | h <;> subst h <;> rfl
      have hpl2 : (p.set j r).length = n1 := by rw [List.length_set]; exact hpl
      generalize p.getD j 0 = u at *
      clear hub HE HS HO hr hat
      go_wp2
      go_ret
      exact ⟨_, b', ret_eq rfl, hE2, hpl2, HO2.out, hub2, hb1, HF.out⟩
end Go.Proofs.YtodefmfgoehkhaaGreat
