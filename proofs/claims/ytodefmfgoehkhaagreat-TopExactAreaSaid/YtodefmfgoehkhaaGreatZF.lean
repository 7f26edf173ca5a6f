/- Texts put together: TnAdd, TnMul, TnOne. -/
import Derived.Test.YtodefmfgoehkhaaGreatZE
import Derived.WalkMore
import Derived.Test.YtodefmfgoehkhaaGreatZD
/- natural: Add and Sub. -/
set_option linter.unusedVariables false
set_option linter.unusedSimpArgs false
namespace Go.Proofs.YtodefmfgoehkhaaGreat
open Go.RowKit Go.Par Go.TN

theorem ok_zeros (n : Nat) : OkD (List.replicate n 0) := fun d hd => by rw [List.eq_of_mem_replicate hd]; decide
theorem shr32 (s : Nat) : (s : Int) / 4294967296 = ((s / BB : Nat) : Int) := by
  show (s : Int) / 4294967296 = ((s / 4294967296 : Nat) : Int)
  omega
/-- digits of a number in a slice without room -/
abbrev DVF (w : World) (v : Value) (n : Nat) : Prop := ∃ A, v = .slice A (L n) (L n) ∧ L n ≤ 17592186044416 ∧ natE.At w A (dig n)
theorem DVF.dv {w : World} {v : Value} {n : Nat} (h : DVF w v n) : DV w v n := by
  obtain ⟨A, e, h1, h2⟩ := h
  exact ⟨A, _, e, Nat.le_refl _, h1, h2⟩
theorem DVF.short {w : World} {g : Nat} {o : List Nat} (hb : Box w g 93 (digA o)) (ho : OkD o) (hl : o.length ≤ 17592186044416) : DVF w (.slice (some ⟨g, 0, none⟩) (L (val o)) (L (val o))) (val o) :=
  ⟨_, rfl, Nat.le_trans (L_val ho) hl, dig_at ho (digA_row (c := 0) hb)⟩
/-- what short leaves of a buffer -/
theorem DV.short {w : World} {g : Nat} {o : List Nat} (hb : Box w g 93 (digA o)) (ho : OkD o) (hl : o.length ≤ 17592186044416) : DV w (.slice (some ⟨g, 0, none⟩) (L (val o)) (L (val o))) (val o) :=
  ⟨_, _, rfl, Nat.le_refl _, Nat.le_trans (L_val ho) hl, dig_at ho (digA_row (c := 0) hb)⟩
set_option maxRecDepth 100000 in
set_option maxHeartbeats 1600000 in
theorem addN_any (l m : List Nat) (A B : Option Addr) (n c k d : Nat) (w : World) (hn : l.length = n) (hm : m.length = k) (hn0 : n ≤ 500000000) (hk0 : k ≤ 500000000) (hl : OkD l) (hm' : OkD m) (hA : natE.At w A l) (hB : natE.At w B m) :
    Calls Tryz.prog 63 #[.slice A n c, .slice B k d] w fun e w' => ∃ v, e = .returned v ∧ Ext w w' ∧ DV w' v (val l + val m) := by
  obtain ⟨N, hN⟩ : ∃ N, N = max n k + 1 := ⟨_, rfl⟩
  obtain ⟨M, hM⟩ : ∃ M, M = max n k := ⟨_, rfl⟩
  have hmx : (if n < k then (k : Int) else (n : Int)) = (M : Int) := by split <;> omega
  have hmx1 : IntKind.i64.wrap ((M : Int) + 1) = (N : Int) := by rw [IntWalk.i64_in _ (by omega)]; omega
  have hNn : n < N := by omega
  have hNk : k < N := by omega
  have hNb : N ≤ 1000000000 := by omega
  have hmk := make_digits N hNb
  have HN := Lib.hid hn
  have HK := Lib.hid hm
  have HL := Lib.hid hl
  have HM := Lib.hid hm'
  clear hn hm hl hm'
  have HDA := Lib.hid (fun W (h : Ext w W) (i : Nat) => digit_any l A n c i W HN.out (by omega) HL.out (hA.ext h))
  have HDB := Lib.hid (fun W (h : Ext w W) (i : Nat) => digit_any m B k d i W HK.out (by omega) HM.out (hB.ext h))
  have HN2 := Lib.hid hN
  clear hN hA hB hM
  go_enter Tryz.func63, Tryz.ntmps63
  go_wp2_with fail
  clear hmk hmx1 hmx
  generalize hW : World.alloc w _ = W
  have hb : Box W w.heap.size 93 (digA (List.replicate N 0)) := by rw [← hW]; exact Box.new _ _ _
  have hE : Ext w W := by rw [← hW]; exact Ext.alloc _ _
  obtain ⟨g, hg⟩ : ∃ g, g = w.heap.size := ⟨_, rfl⟩
  rw [← hg] at hb ⊢
  clear hW
  have hgw : w.heap.size ≤ g := Nat.le_of_eq hg.symm
  clear hg
  go_loopw [6, 17] (fun s i wr => ∃ (j cy : Nat) (o : List Nat), j ≤ N ∧ s = .int .u64 cy ∧ i = .int .i64 j ∧ o.length = N ∧ cy ≤ 1 ∧ Ext w wr ∧ Box wr g 93 (digA o) ∧ Hid (OkD o) ∧ Hid (val (o.take j) + BB ^ j * cy = val (l.take j) + val (m.take j))) (fun _ i _ => N - (intOf i).toNat)
  case atStart => exact ⟨0, 0, _, Nat.zero_le _, rfl, rfl, by simp, by omega, hE, hb, Lib.hid (ok_zeros _), Lib.hid (by simp [val])⟩
  case round =>
    clear hE hb
    obtain ⟨j, cy, o, hj, rfl, rfl, ho, hcy, hE, hb, HO, HV⟩ := hrel
    by_cases hlt : j < N
    · have dj : ((j : Int) < (N : Int)) = True := eq_true (by omega)
      have hd1 := HL.out.getD j
      have hd2 := HM.out.getD j
      obtain ⟨s, hs⟩ : ∃ s, s = cy + (l.getD j 0 + m.getD j 0) := ⟨_, rfl⟩
      have hst := Lib.hid (add_step (by omega) HV.out hs)
      have hda := HDA.out wr hE j
      have hdb := HDB.out wr hE j
      generalize l.getD j 0 = d1 at *
      generalize m.getD j 0 = d2 at *
      have ht : s / BB ≤ 1 := Nat.le_of_lt_succ (Nat.div_lt_of_lt_mul (show s < BB * 2 by omega))
      have hB : BB = 4294967296 := rfl
      have q1 : IntKind.u64.wrap ((d1 : Int) + (d2 : Int)) = (d1 : Int) + (d2 : Int) := by
        show ((d1 : Int) + (d2 : Int)) % 18446744073709551616 = _
        omega
      have q2 : IntKind.u64.wrap ((cy : Int) + ((d1 : Int) + (d2 : Int))) = (s : Int) := by
        show ((cy : Int) + ((d1 : Int) + (d2 : Int))) % 18446744073709551616 = _
        omega
      have hr : s % BB < BB := Nat.mod_lt _ (by decide)
      have q3 := wrap32 s
      have q4 := shr32 s
      have HO2 := Lib.hid (ok_set HO.out j hr)
      generalize s % BB = r at *
      generalize s / BB = t at *
      have ec := (hb.cell j).trans (digA_at (o := o) (i := j) (by omega))
      have ef := hb.frozen j
      have hb2 := hb.set j (.int .u32 (r : Int))
      rw [digA_set] at hb2
      have hE2 := hE.setNew hgw j (.int .u32 (r : Int))
      have hjo : j < o.length := by omega
      clear hb HV HO hs hd1 hd2 hB
      go_wp2_with fail
      refine hda.mono ?_
      rintro e w1 ⟨rfl, rfl⟩
      go_wp2_with fail
      refine hdb.mono ?_
      rintro e w1 ⟨rfl, rfl⟩
      clear hda hdb
      go_wp2_with fail
      go_roundw
      case rel => exact ⟨j + 1, t, o.set j r, by omega, rfl, by go_num, by rw [List.length_set]; exact ho, ht, hE2, hb2, HO2, hst⟩
      case measure => simp [intOf]; omega
    · have dj : ((j : Int) < (N : Int)) = False := eq_false (by omega)
      have hNj : j = N := by omega
      subst hNj
      have hval : val o = val l + val m := by
        have := HV.out
        have hx := HN2.out
        rw [List.take_of_length_le (by omega), List.take_of_length_le (l := l) (by rw [HN.out]; omega), List.take_of_length_le (l := m) (by rw [HK.out]; omega)] at this
        have h1 := val_lt HL.out
        have h2 := val_lt HM.out
        have hP1 := Nat.pow_le_pow_right (show 0 < BB by decide) (show l.length ≤ max n k by rw [HN.out]; omega)
        have hP2 := Nat.pow_le_pow_right (show 0 < BB by decide) (show m.length ≤ max n k by rw [HK.out]; omega)
        have hP3 : BB ^ j = BB ^ (max n k) * BB := by rw [hx, Nat.pow_succ]
        have hc0 : cy = 0 := by
          rcases (by omega : cy = 0 ∨ cy = 1) with h | h
          · exact h
          · exfalso
            subst h
            rw [hP3] at this
            have hp := TN.pow_pos (max n k)
            generalize BB ^ max n k = P at *
            have : P * BB ≥ P * 2 := Nat.mul_le_mul_left P (by decide)
            omega
        subst hc0
        rw [Nat.mul_zero, Nat.add_zero] at this
        exact this
      have HS := Lib.hid (short_any (some ⟨g, 0, none⟩) j j o wr ho (Nat.le_refl _) (by omega) HO.out (digA_row (c := 0) hb))
      have hDV := DV.short hb HO.out (by omega)
      rw [hval] at HS hDV
      clear HV hval
      go_wp2_with fail
      refine HS.out.mono ?_
      rintro e w1 ⟨rfl, rfl⟩
      go_wp2
      go_ret
      exact ⟨_, rfl, hE, hDV⟩
theorem val_take_lt {m : List Nat} {N : Nat} (h : val m < BB ^ N) : val (m.take N) = val m := by
  rcases Nat.lt_or_ge N m.length with h1 | h1
  · have e := val_take_drop m N (Nat.le_of_lt h1)
    have : val (m.drop N) = 0 := by
      rcases Nat.eq_zero_or_pos (val (m.drop N)) with h2 | h2
      · exact h2
      · exfalso
        have := Nat.mul_le_mul_left (BB ^ N) h2
        rw [Nat.mul_succ, Nat.mul_zero, Nat.zero_add] at this
        generalize BB ^ N = P at *
        omega
    rw [this, Nat.mul_zero, Nat.add_zero] at e
    exact e.symm
  · rw [List.take_of_length_le h1]
/-- a difference of digits as the machine reckons it -/
theorem sub_digit {d1 d2 bo : Nat} (h1 : d1 < BB) (h2 : d2 < BB) (hb : bo ≤ 1) :
    ∃ (x : Int) (v r c : Nat), IntKind.u64.wrap ((d1 : Int) - (d2 : Int)) = x ∧ IntKind.u64.wrap (x - (bo : Int)) = (v : Int) ∧ IntKind.u32.wrap (v : Int) = (r : Int) ∧ (v : Int) / 9223372036854775808 = (c : Int) ∧ r + (d2 + bo) = d1 + BB * c ∧ r < BB ∧ c ≤ 1 := by
  have hB : BB = 4294967296 := rfl
  refine ⟨((d1 : Int) - (d2 : Int)) % 18446744073709551616, ((((d1 : Int) - (d2 : Int)) % 18446744073709551616 - (bo : Int)) % 18446744073709551616).toNat, (((d1 : Int) - d2 - bo) % 4294967296).toNat, if d1 < d2 + bo then 1 else 0, rfl, ?_, ?_, ?_, ?_, ?_, ?_⟩
  · show (((d1 : Int) - (d2 : Int)) % 18446744073709551616 - (bo : Int)) % 18446744073709551616 = _
    omega
  · show (((((((d1 : Int) - (d2 : Int)) % 18446744073709551616 - (bo : Int)) % 18446744073709551616).toNat : Nat) : Int)) % 4294967296 = _
    omega
  · split <;> omega
  · split <;> omega
  · omega
  · split <;> omega
set_option maxRecDepth 100000 in
set_option maxHeartbeats 1600000 in
theorem subN_any (l m : List Nat) (A B : Option Addr) (n c k d : Nat) (w : World) (hn : l.length = n) (hm : m.length = k) (hnc : n ≤ c) (hkd : k ≤ d) (hcm : n ≤ 1000000000) (hdm : k ≤ 1000000000) (hn0 : n ≤ 500000000) (hk0 : k ≤ 500000000) (hl : OkD l) (hm' : OkD m) (hA : natE.At w A l) (hB : natE.At w B m) (hge : val m ≤ val l) :
    Calls Tryz.prog 64 #[.slice A n c, .slice B k d] w fun e w' => ∃ v, e = .returned (.tuple #[v, .bool true]) ∧ Ext w w' ∧ DV w' v (val l - val m) := by
  have HC := Lib.hid (cmpN_any l m A B n c k d w hn hm hnc hkd hcm hdm hn0 hk0 hl hm' hA hB)
  obtain ⟨r0, hr0⟩ : ∃ r, cmpN (val l) (val m) = r := ⟨_, rfl⟩
  have hr1 : 0 ≤ r0 := by
    rw [← hr0]
    unfold cmpN
    rw [if_neg (by omega)]
    split <;> decide
  rw [hr0] at HC
  have HSH := Lib.hid (fun W (h : Ext w W) => short_any A c n l W hn hnc hcm hl (hA.ext h))
  obtain ⟨N, hN⟩ : ∃ N, L (val l) = N := ⟨_, rfl⟩
  rw [hN] at HSH
  have hNn : N ≤ n := by rw [← hN, ← hn]; exact L_val hl
  have hmk := make_digits N (by omega)
  have HN := Lib.hid hn
  have HK := Lib.hid hm
  have HL := Lib.hid hl
  have HM := Lib.hid hm'
  have HG := Lib.hid hge
  have HDA := Lib.hid (fun W (h : Ext w W) (i : Nat) => digit_any l A n c i W HN.out (by omega) HL.out (hA.ext h))
  have HDB := Lib.hid (fun W (h : Ext w W) (i : Nat) => digit_any m B k d i W HK.out (by omega) HM.out (hB.ext h))
  have HN2 := Lib.hid hN
  clear hN hA hB hn hm hl hm' hge hr0
  have d0 : (r0 < 0) = False := eq_false (by omega)
  go_enter Tryz.func64, Tryz.ntmps64
  go_wp2_with fail
  refine HC.out.mono ?_
  rintro e w1 ⟨rfl, hE⟩
  have hgw := hE.size
  go_wp2_with fail
  refine (HSH.out _ hE).mono ?_
  rintro e w2 ⟨rfl, rfl⟩
  go_wp2_with fail
  clear hmk d0
  generalize hW : World.alloc w1 _ = W
  have hb : Box W w1.heap.size 93 (digA (List.replicate N 0)) := by rw [← hW]; exact Box.new _ _ _
  replace hE : Ext w W := by rw [← hW]; exact hE.trans (Ext.alloc _ _)
  obtain ⟨g, hg⟩ : ∃ g, g = w1.heap.size := ⟨_, rfl⟩
  rw [← hg] at hb hgw ⊢
  clear hW hg
  go_loopw [7, 20] (fun s i wr => ∃ (j bo : Nat) (o : List Nat), j ≤ N ∧ s = .int .u64 bo ∧ i = .int .i64 j ∧ o.length = N ∧ bo ≤ 1 ∧ Ext w wr ∧ Box wr g 93 (digA o) ∧ Hid (OkD o) ∧ Hid (val (o.take j) + val (m.take j) = val (l.take j) + BB ^ j * bo)) (fun _ i _ => N - (intOf i).toNat)
  case atStart => exact ⟨0, 0, _, Nat.zero_le _, rfl, rfl, by simp, by omega, hE, hb, Lib.hid (ok_zeros _), Lib.hid (by simp [val])⟩
  case round =>
    clear hE hb
    obtain ⟨j, bo, o, hj, rfl, rfl, ho, hbo, hE, hb, HO, HV⟩ := hrel
    by_cases hlt : j < N
    · have dj : ((j : Int) < (N : Int)) = True := eq_true (by omega)
      obtain ⟨x, v, r, b', q1, q2, q3, q4, hst, hrB, hb1⟩ := sub_digit (HL.out.getD j) (HM.out.getD j) hbo
      have HST := Lib.hid (sub_step (by omega) HV.out hst)
      have HO2 := Lib.hid (ok_set HO.out j hrB)
      have hda := HDA.out wr hE j
      have hdb := HDB.out wr hE j
      generalize l.getD j 0 = d1 at *
      generalize m.getD j 0 = d2 at *
      have ec := (hb.cell j).trans (digA_at (o := o) (i := j) (by omega))
      have ef := hb.frozen j
      have hb2 := hb.set j (.int .u32 (r : Int))
      rw [digA_set] at hb2
      have hE2 := hE.setNew hgw j (.int .u32 (r : Int))
      have hjo : j < o.length := by omega
      clear hb HV HO hst hrB
      go_wp2_with fail
      refine hda.mono ?_
      rintro e w1 ⟨rfl, rfl⟩
      go_wp2_with fail
      refine hdb.mono ?_
      rintro e w1 ⟨rfl, rfl⟩
      clear hda hdb
      go_wp2_with fail
      go_roundw
      case rel => exact ⟨j + 1, b', o.set j r, by omega, rfl, by go_num, by rw [List.length_set]; exact ho, hb1, hE2, hb2, HO2, HST⟩
      case measure => simp [intOf]; omega
    · have dj : ((j : Int) < (N : Int)) = False := eq_false (by omega)
      have hNj : j = N := by omega
      subst hNj
      have hval : val o = val l - val m := by
        have hv := HV.out
        have hN2 : (dig (val l)).length = j := HN2.out
        have e1 : val (l.take j) = val l := by rw [← hN2, dig_prefix HL.out, val_dig]
        have h1 := val_lt (ok_dig (val l))
        rw [val_dig, hN2] at h1
        have e2 : val (m.take j) = val m := val_take_lt (Nat.lt_of_le_of_lt HG.out h1)
        rw [List.take_of_length_le (by omega), e1, e2] at hv
        have h2 := val_lt HO.out
        rw [ho] at h2
        have h3 := HG.out
        rcases (by omega : bo = 0 ∨ bo = 1) with h | h
        · subst h; rw [Nat.mul_zero] at hv; omega
        · subst h
          rw [Nat.mul_one] at hv
          generalize BB ^ j = P at *
          omega
      have HS := Lib.hid (short_any (some ⟨g, 0, none⟩) j j o wr ho (Nat.le_refl _) (by omega) HO.out (digA_row (c := 0) hb))
      have hDV := DV.short hb HO.out (by omega)
      rw [hval] at HS hDV
      clear HV hval
      go_wp2_with fail
      refine HS.out.mono ?_
      rintro e w1 ⟨rfl, rfl⟩
      go_wp2
      exact bodyPost_ret (v := .tuple #[.slice (some ⟨g, 0, none⟩) (L (val l - val m)) (L (val l - val m)), .bool true]) (by simp [results, Tryz.results64, go_sem, List.size_toArray]) rfl ⟨_, rfl, hE, hDV⟩
set_option maxHeartbeats 800000 in
theorem subNo_any (l m : List Nat) (A B : Option Addr) (n c k d : Nat) (w : World) (hn : l.length = n) (hm : m.length = k) (hnc : n ≤ c) (hkd : k ≤ d) (hcm : n ≤ 1000000000) (hdm : k ≤ 1000000000) (hn0 : n ≤ 500000000) (hk0 : k ≤ 500000000) (hl : OkD l) (hm' : OkD m) (hA : natE.At w A l) (hB : natE.At w B m) (hlt : val l < val m) :
    Calls Tryz.prog 64 #[.slice A n c, .slice B k d] w fun e w' => e = .returned (.tuple #[.slice none 0 0, .bool false]) ∧ Ext w w' := by
  have HC := Lib.hid (cmpN_any l m A B n c k d w hn hm hnc hkd hcm hdm hn0 hk0 hl hm' hA hB)
  rw [show cmpN (val l) (val m) = -1 from by unfold cmpN; rw [if_pos hlt]] at HC
  clear hn hm hnc hkd hcm hdm hn0 hk0 hl hm' hA hB hlt
  go_enter Tryz.func64, Tryz.ntmps64
  go_wp2_with fail
  refine HC.out.mono ?_
  rintro e w1 ⟨rfl, hE⟩
  go_wp2
  exact bodyPost_ret (v := .tuple #[.slice none 0 0, .bool false]) (by simp [results, Tryz.results64, go_sem, List.size_toArray]) rfl ⟨rfl, hE⟩
end Go.Proofs.YtodefmfgoehkhaaGreat

/- natural: Mul. -/
set_option linter.unusedVariables false
set_option linter.unusedSimpArgs false
namespace Go.Proofs.YtodefmfgoehkhaaGreat
open Go.RowKit Go.Par Go.TN

/-- one digit of a product, as the machine reckons it -/
theorem mul_digit {c x y d : Nat} (hc : c < BB) (hx : x < BB) (hy : y < BB) (hd : d < BB) :
    ∃ (p q s r t : Nat), IntKind.u64.wrap ((x : Int) * (y : Int)) = (p : Int) ∧ IntKind.u64.wrap ((p : Int) + (d : Int)) = (q : Int) ∧ IntKind.u64.wrap ((c : Int) + (q : Int)) = (s : Int) ∧ IntKind.u32.wrap (s : Int) = (r : Int) ∧ (s : Int) / 4294967296 = (t : Int) ∧
      s = c + (x * y + d) ∧ r = s % BB ∧ t = s / BB ∧ r < BB ∧ t < BB := by
  have hB : BB = 4294967296 := rfl
  have h1 : x * y ≤ (BB - 1) * (BB - 1) := Nat.mul_le_mul (by omega) (by omega)
  have h2 : (BB - 1) * (BB - 1) = 18446744065119617025 := rfl
  have hs : c + (x * y + d) < BB * BB := by
    have h3 : BB * BB = 18446744073709551616 := rfl
    omega
  have ht : (c + (x * y + d)) / BB < BB := Nat.div_lt_of_lt_mul hs
  have h3 : BB * BB = 18446744073709551616 := rfl
  refine ⟨x * y, x * y + d, c + (x * y + d), (c + (x * y + d)) % BB, (c + (x * y + d)) / BB, ?_, ?_, ?_, wrap32 _, shr32 _, rfl, rfl, rfl, Nat.mod_lt _ (by decide), ht⟩
  · rw [← Int.natCast_mul]; exact wrap64 (by omega)
  · rw [← Int.natCast_add]; exact wrap64 (by omega)
  · rw [← Int.natCast_add]; exact wrap64 (by omega)
theorem getD_set_ne {o : List Nat} {i j d : Nat} (h : i ≠ j) : (o.set i d).getD j 0 = o.getD j 0 := by
  rw [List.getD_eq_getElem?_getD, List.getD_eq_getElem?_getD, List.getElem?_set_ne h]
set_option maxRecDepth 100000 in
set_option maxHeartbeats 3200000 in
theorem mulN_any (l m : List Nat) (A B : Option Addr) (n c k d : Nat) (w : World) (hn : l.length = n) (hm : m.length = k) (hnc : n ≤ c) (hkd : k ≤ d) (hcm : n ≤ 1000000000) (hdm : k ≤ 1000000000) (hn0 : n ≤ 500000000) (hk0 : k ≤ 500000000) (hl : OkD l) (hm' : OkD m) (hA : natE.At w A l) (hB : natE.At w B m) :
    Calls Tryz.prog 78 #[.slice A n c, .slice B k d] w fun e w' => ∃ v, e = .returned v ∧ Ext w w' ∧ DV w' v (val l * val m) := by
  have HS := Lib.hid (short_any A c n l w hn hnc hcm hl hA)
  have HT := Lib.hid (short_any B d k m w hm hkd hdm hm' hB)
  have hA' := dig_at hl hA
  have hB' := dig_at hm' hB
  have hLa : L (val l) ≤ n := by rw [← hn]; exact L_val hl
  have hLb : L (val m) ≤ k := by rw [← hm]; exact L_val hm'
  generalize val l = a at *
  generalize val m = b at *
  obtain ⟨x, hx⟩ : ∃ x, L a = x := ⟨_, rfl⟩
  obtain ⟨y, hy⟩ : ∃ y, L b = y := ⟨_, rfl⟩
  rw [hx] at HS hLa
  rw [hy] at HT hLb
  have hoa := ok_dig a
  have hob := ok_dig b
  have hva := val_dig a
  have hvb := val_dig b
  have hx' : (dig a).length = x := hx
  have hy' : (dig b).length = y := hy
  generalize dig a = la at *
  generalize dig b = lb at *
  obtain ⟨N, hN⟩ : ∃ N, N = x + y := ⟨_, rfl⟩
  have q0 : IntKind.i64.wrap ((x : Int) + (y : Int)) = (N : Int) := by rw [IntWalk.i64_in _ (by omega)]; omega
  have hNb : N ≤ 1000000000 := by omega
  have hmk := make_digits N hNb
  have HX := Lib.hid hx'
  have HY := Lib.hid hy'
  have HOA := Lib.hid hoa
  have HOB := Lib.hid hob
  have HVA := Lib.hid hva
  have HVB := Lib.hid hvb
  have HN := Lib.hid hN
  have HB := Lib.hid hB'
  have HA := Lib.hid hA'
  clear hA hB hl hm' hn hm hx hy hx' hy' hoa hob hva hvb hA' hB' hN
  go_enter Tryz.func78, Tryz.ntmps78
  go_wp2_with fail
  go_step3
  go_wp2_with fail
  refine HS.out.mono ?_
  rintro e w1 ⟨rfl, rfl⟩
  go_wp2_with fail
  refine HT.out.mono ?_
  rintro e w1 ⟨rfl, rfl⟩
  go_wp2_with fail
  clear hmk q0 HS HT
  go_step3
  go_wp2_with fail
  generalize hW : World.alloc w _ = W
  have hb : Box W w.heap.size 93 (digA (List.replicate N 0)) := by rw [← hW]; exact Box.new _ _ _
  have hE : Ext w W := by rw [← hW]; exact Ext.alloc _ _
  obtain ⟨g, hg⟩ : ∃ g, g = w.heap.size := ⟨_, rfl⟩
  have hgw : w.heap.size ≤ g := Nat.le_of_eq hg.symm
  rw [← hg] at hb ⊢
  clear hW hg
  go_loopw [23] (fun i wr => ∃ (j : Nat) (o : List Nat), j ≤ x ∧ i = .int .i64 j ∧ o.length = N ∧ Ext w wr ∧ Box wr g 93 (digA o) ∧ Hid (OkD o) ∧ Hid (val (o.take (j + y)) = val (la.take j) * b) ∧ Hid (∀ t, j + y ≤ t → o.getD t 0 = 0)) (fun i _ => x - (intOf i).toNat)
  case atStart => exact ⟨0, _, Nat.zero_le _, rfl, by simp, hE, hb, Lib.hid (ok_zeros _), Lib.hid (by rw [val_zeros (fun d hd => List.eq_of_mem_replicate (List.mem_of_mem_take hd))]; simp [val]), Lib.hid (fun t _ => by rw [List.getD_eq_getElem?_getD, List.getElem?_replicate]; split <;> rfl)⟩
  case round =>
    clear hE hb
    obtain ⟨j, o, hj, rfl, ho, hE, hb, HO, HV, HZ⟩ := hrel
    by_cases hlt : j < x
    · have dj : ((j : Int) < (x : Int)) = True := eq_true (by omega)
      obtain ⟨ba, oa, rfl, hca⟩ := HA.out (fun e => by have := HX.out; rw [e] at this; simp at this; omega)
      have hla := getD_some (l := la) (i := j) (by rw [HX.out]; exact hlt)
      have ea := hE.cell (nat_cell hca hla)
      have hd1 := HOA.out.getD j
      have HT := Lib.hid (val_take_succ la j)
      generalize la.getD j 0 = d1 at *
      clear hca hla
      by_cases hz : d1 = 0
      · subst hz
        have HV2 := Lib.hid (show val (o.take (j + 1 + y)) = val (la.take (j + 1)) * b from by
          rw [show j + 1 + y = j + y + 1 by omega, val_take_succ, HZ.out _ (Nat.le_refl _), HT.out, HV.out]; simp)
        have HZ2 := Lib.hid (show ∀ t, j + 1 + y ≤ t → o.getD t 0 = 0 from fun t ht => HZ.out t (by omega))
        have ea : wr.cell? ⟨ba, oa + j, none⟩ = some (.int .u32 0) := ea
        clear HV HZ HT
        go_wp2_with fail
        go_roundw
        case rel => exact ⟨j + 1, o, by omega, by go_num, ho, hE, hb, HO, HV2, HZ2⟩
        case measure => simp [intOf]; omega
      · have dz : ((d1 : Int) == 0) = false := by simp [hz]
        have q1 := wrap64 (d := d1) (Nat.lt_of_lt_of_le hd1 (by decide))
        go_wp2_with fail
        generalize hwo : wr = wo at *
        clear hwo
        go_loopw [8, 32] (fun s i wi => ∃ (t cy : Nat) (o' : List Nat), t ≤ y ∧ s = .int .u64 cy ∧ i = .int .i64 t ∧ o'.length = N ∧ cy < BB ∧ Ext w wi ∧ Box wi g 93 (digA o') ∧ Hid (OkD o') ∧ Hid (val (o'.take (j + t)) + BB ^ (j + t) * cy = val (o.take (j + t)) + BB ^ j * (d1 * val (lb.take t))) ∧ Hid (∀ u, j + t ≤ u → o'.getD u 0 = o.getD u 0)) (fun _ i _ => y - (intOf i).toNat)
        case atStart => exact ⟨0, 0, o, Nat.zero_le _, rfl, rfl, ho, by decide, hE, hb, HO, Lib.hid (by simp [val]), Lib.hid (fun _ _ => rfl)⟩
        case round =>
          clear hb
          obtain ⟨t, cy, o', ht, rfl, rfl, ho', hcy, hE', hb, HO', HV', HS'⟩ := hrel
          by_cases htl : t < y
          · have dt : ((t : Int) < (y : Int)) = True := eq_true (by omega)
            obtain ⟨bb, ob, rfl, hcb⟩ := HB.out (fun e => by have := HY.out; rw [e] at this; simp at this; omega)
            have hlb := getD_some (l := lb) (i := t) (by rw [HY.out]; exact htl)
            have eb := hE'.cell (nat_cell hcb hlb)
            have hd2 := HOB.out.getD t
            have hz : j + t < N := by rw [HN.out]; omega
            have hold := HO'.out.getD (j + t)
            have eold := HS'.out (j + t) (Nat.le_refl _)
            obtain ⟨p, q, s, r, t', w1, w2, w3, w4, w5, hs, hr, ht', hrB, htB⟩ := mul_digit hcy hd1 hd2 hold
            have hstep := mul_step (b := lb) (o := o') (base := j) (k := t) (x := d1) (c := cy) (s := s) (lowv := val (o.take (j + t))) (by rw [HY.out]; exact htl) (by rw [ho']; exact hz) HV'.out _ hs rfl
            rw [eold, ← val_take_succ, ← hr, ← ht'] at hstep
            have HSTEP := Lib.hid hstep
            have HS2 := Lib.hid (show ∀ u, j + (t + 1) ≤ u → (o'.set (j + t) r).getD u 0 = o.getD u 0 from fun u hu => by rw [getD_set_ne (by omega)]; exact HS'.out u (by omega))
            have HO2 := Lib.hid (ok_set HO'.out (j + t) hrB)
            have w6 := wrap64 (d := o'.getD (j + t) 0) (Nat.lt_of_lt_of_le hold (by decide))
            have w7 := wrap64 (d := lb.getD t 0) (Nat.lt_of_lt_of_le hd2 (by decide))
            have ec := (hb.cell (j + t)).trans (digA_at (o := o') (i := j + t) (by rw [ho']; exact hz))
            have w8 : IntKind.i64.wrap ((j : Int) + (t : Int)) = ((j + t : Nat) : Int) := by rw [IntWalk.i64_in _ (by omega)]; omega
            clear hs hr ht' hstep hcb hlb eold HV' HO' hold
            obtain ⟨z, hze⟩ : ∃ z, z = j + t := ⟨_, rfl⟩
            rw [← hze] at hz HSTEP HS2 HO2 w6 ec w8 w2
            have HZE := Lib.hid hze
            have ef := hb.frozen z
            have hb2 := hb.set z (.int .u32 (r : Int))
            rw [digA_set] at hb2
            have hE2 := hE'.setNew hgw z (.int .u32 (r : Int))
            generalize o'.getD z 0 = d3 at *
            generalize lb.getD t 0 = d2 at *
            clear hb HS' hze
            go_wp2_with fail
            go_roundw
            case rel => exact ⟨t + 1, t', o'.set z r, by omega, rfl, by go_num, by rw [List.length_set]; exact ho', htB, hE2, hb2, HO2, Lib.hid (by have h1 := HSTEP.out; rw [HZE.out] at h1 ⊢; exact h1), Lib.hid (by have h1 := HS2.out; exact h1)⟩
            case measure => simp [intOf]; omega
          · have dt : ((t : Int) < (y : Int)) = False := eq_false (by omega)
            obtain rfl : t = y := by omega
            have hz : j + t < N := by rw [HN.out]; omega
            have w8 : IntKind.i64.wrap ((j : Int) + (t : Int)) = ((j + t : Nat) : Int) := by rw [IntWalk.i64_in _ (by omega)]; omega
            have w9 : IntKind.u32.wrap (cy : Int) = (cy : Int) := by rw [wrap32, Nat.mod_eq_of_lt hcy]
            have HV2 := Lib.hid (show val ((o'.set (j + t) cy).take (j + 1 + t)) = val (la.take (j + 1)) * b from by
              have h1 := HV'.out
              have h2 := HV.out
              have h3 := HVB.out
              have h4 := HT.out
              rw [List.take_of_length_le (l := lb) (by rw [HY.out]; exact Nat.le_refl _), h3, h2] at h1
              rw [show j + 1 + t = j + t + 1 by omega, val_set_take _ _ _ (by rw [ho']; exact hz), h1, h4]
              grind)
            have HZ2 := Lib.hid (show ∀ u, j + 1 + t ≤ u → (o'.set (j + t) cy).getD u 0 = 0 from fun u hu => by
              rw [getD_set_ne (by omega), HS'.out u (by omega)]
              exact HZ.out u (by omega))
            have HO2 := Lib.hid (ok_set HO'.out (j + t) hcy)
            have ec := (hb.cell (j + t)).trans (digA_at (o := o') (i := j + t) (by rw [ho']; exact hz))
            clear HV' HV HZ HS' HT HO HO'
            obtain ⟨z, hze⟩ : ∃ z, z = j + t := ⟨_, rfl⟩
            rw [← hze] at hz HV2 HZ2 HO2 ec w8
            have ef := hb.frozen z
            have hb2 := hb.set z (.int .u32 (cy : Int))
            rw [digA_set] at hb2
            have hE2 := hE'.setNew hgw z (.int .u32 (cy : Int))
            generalize o'.getD z 0 = d3 at *
            clear hb hze hE
            go_wp2_with fail
            go_roundw
            case rel => exact ⟨j + 1, _, by omega, by go_num, by rw [List.length_set]; exact ho', hE2, hb2, HO2, HV2, HZ2⟩
            case measure => simp [intOf]; omega
    · have dj : ((j : Int) < (x : Int)) = False := eq_false (by omega)
      obtain rfl : j = x := by omega
      have hval : val o = a * b := by
        have h1 := HV.out
        rw [List.take_of_length_le (by rw [ho, HN.out]; exact Nat.le_refl _), List.take_of_length_le (l := la) (by rw [HX.out]; exact Nat.le_refl _), HVA.out] at h1
        exact h1
      have HS := Lib.hid (short_any (some ⟨g, 0, none⟩) N N o wr ho (Nat.le_refl _) (by omega) HO.out (digA_row (c := 0) hb))
      have hDV := DV.short hb HO.out (by omega)
      rw [hval] at HS hDV
      clear HV HZ hval
      go_wp2_with fail
      refine HS.out.mono ?_
      rintro e w1 ⟨rfl, rfl⟩
      go_wp2
      rw [Exit.noGoto_ret]
      go_ret
      exact ⟨_, rfl, hE, hDV⟩
end Go.Proofs.YtodefmfgoehkhaaGreat

/- natural: one (division by a digit). -/
set_option linter.unusedVariables false
set_option linter.unusedSimpArgs false
namespace Go.Proofs.YtodefmfgoehkhaaGreat
open Go.RowKit Go.Par Go.TN

set_option maxRecDepth 100000 in
set_option maxHeartbeats 1600000 in
theorem one_any (l : List Nat) (A : Option Addr) (n c d : Nat) (w : World) (hn : l.length = n) (hn0 : n ≤ 500000000) (hl : OkD l) (hA : natE.At w A l) (hd0 : 0 < d) (hd1 : d < BB) :
    Calls Tryz.prog 85 #[.slice A n c, .int .u32 (d : Int)] w fun e w' => ∃ v, e = .returned (.tuple #[v, .int .u32 ((val l % d : Nat) : Int)]) ∧ Ext w w' ∧ DV w' v (val l / d) := by
  have hmk := make_digits n (by omega)
  have HN := Lib.hid hn
  have HL := Lib.hid hl
  have q0 := wrap64 (d := d) (Nat.lt_of_lt_of_le hd1 (by decide))
  clear hn hl
  go_enter Tryz.func85, Tryz.ntmps85
  go_wp2_with fail
  clear hmk
  generalize hW : World.alloc w _ = W
  have hb : Box W w.heap.size 93 (digA (List.replicate n 0)) := by rw [← hW]; exact Box.new _ _ _
  have hE : Ext w W := by rw [← hW]; exact Ext.alloc _ _
  obtain ⟨g, hg⟩ : ∃ g, g = w.heap.size := ⟨_, rfl⟩
  have hgw : w.heap.size ≤ g := Nat.le_of_eq hg.symm
  rw [← hg] at hb ⊢
  clear hW hg
  go_loopw [7, 8] (fun s i wr => ∃ (j rest : Nat) (t : Int) (o : List Nat), j ≤ n ∧ t + 1 = j ∧ s = .int .u64 rest ∧ i = .int .i64 t ∧ o.length = n ∧ rest < d ∧ Ext w wr ∧ Box wr g 93 (digA o) ∧ Hid (OkD o) ∧ Hid (val (l.drop j) = val (o.drop j) * d + rest)) (fun _ i _ => (intOf i + 1).toNat)
  case atStart => exact ⟨n, 0, (n : Int) - 1, _, Nat.le_refl _, by omega, rfl, by go_num, by simp, hd0, hE, hb, Lib.hid (ok_zeros _), Lib.hid (by rw [List.drop_of_length_le (by rw [HN.out]; exact Nat.le_refl _), List.drop_of_length_le (by simp)]; simp [val])⟩
  case round =>
    clear hE hb
    obtain ⟨j, rest, t, o, hj, htj, rfl, rfl, ho, hr, hE, hb, HO, HV⟩ := hrel
    by_cases h0 : j = 0
    · subst h0
      have ht : t = -1 := by omega
      subst ht
      have hv : val l = val o * d + rest := by simpa using HV.out
      have hq : val o = val l / d := by
        rw [hv, Nat.mul_comm, Nat.mul_add_div hd0, Nat.div_eq_of_lt hr, Nat.add_zero]
      have hm : val l % d = rest := by rw [hv, Nat.mul_comm, Nat.mul_add_mod, Nat.mod_eq_of_lt hr]
      have HS := Lib.hid (short_any (some ⟨g, 0, none⟩) n n o wr ho (Nat.le_refl _) (by omega) HO.out (digA_row (c := 0) hb))
      have hDV := DV.short hb HO.out (by omega)
      have w1 : IntKind.u32.wrap (rest : Int) = (rest : Int) := by rw [wrap32, Nat.mod_eq_of_lt (by omega)]
      have HM := Lib.hid hm
      rw [hq] at HS hDV
      clear HV hv hq hm
      go_wp2_with fail
      refine HS.out.mono ?_
      rintro e w2 ⟨rfl, rfl⟩
      go_wp2
      exact bodyPost_ret (v := .tuple #[.slice (some ⟨g, 0, none⟩) (L (val l / d)) (L (val l / d)), .int .u32 (rest : Int)]) (by simp [results, Tryz.results85, go_sem, List.size_toArray]) rfl ⟨_, by rw [HM.out], hE, hDV⟩
    · obtain ⟨i, rfl⟩ : ∃ i : Nat, t = i := ⟨t.toNat, by omega⟩
      obtain rfl : j = i + 1 := by omega
      have dj : (0 ≤ (i : Int)) = True := eq_true (by omega)
      obtain ⟨ba, oa, rfl, hca⟩ := hA (fun e => by have := HN.out; rw [e] at this; simp at this; omega)
      have hla := getD_some (l := l) (i := i) (by rw [HN.out]; omega)
      have ea := hE.cell (nat_cell hca hla)
      have hd2 := HL.out.getD i
      have w6 := wrap64 (d := l.getD i 0) (Nat.lt_of_lt_of_le hd2 (by decide))
      have hrB : rest < BB := Nat.lt_trans hr hd1
      obtain ⟨s, hs⟩ : ∃ s, s = rest * BB + l.getD i 0 := ⟨_, rfl⟩
      have hsd : s < d * BB := by
        have h1 := Nat.mul_le_mul_right BB (show rest + 1 ≤ d by omega)
        rw [Nat.add_mul, Nat.one_mul] at h1
        omega
      have hsB : s < 18446744073709551616 := Nat.lt_of_lt_of_le hsd (by
        have := Nat.mul_le_mul_right BB (show d ≤ BB by omega)
        exact this)
      have hqB : s / d < BB := Nat.div_lt_of_lt_mul hsd
      have hst := Lib.hid (one_step (a := l) (q := o) (i := i) (d := d) (by rw [HN.out]; omega) (by omega) HV.out hs)
      obtain ⟨y, hy⟩ : ∃ y, y = rest * BB := ⟨_, rfl⟩
      have e1 : IntKind.u64.wrap ((rest : Int) * 4294967296) = (y : Int) := by
        rw [hy]
        have : (rest : Int) * 4294967296 = ((rest * BB : Nat) : Int) := by rw [Int.natCast_mul]; rfl
        rw [this]
        exact wrap64 (by omega)
      have e2 : bits .or .u64 (y : Int) ((l.getD i 0 : Nat) : Int) = (s : Int) := by rw [hy, hs]; exact or_hi hrB hd2
      have e3 : (s : Int).tdiv (d : Int) = ((s / d : Nat) : Int) := rfl
      have e4 : (s : Int).tmod (d : Int) = ((s % d : Nat) : Int) := rfl
      have hrd : s % d < d := Nat.mod_lt _ hd0
      have e5 := wrap64 (d := s / d) (Nat.lt_of_lt_of_le hqB (by decide))
      have e6 : IntKind.u32.wrap ((s / d : Nat) : Int) = ((s / d : Nat) : Int) := by rw [wrap32, Nat.mod_eq_of_lt hqB]
      have e7 := wrap64 (d := s % d) (by have : BB = 4294967296 := rfl; omega)
      have HO2 := Lib.hid (ok_set HO.out i hqB)
      generalize l.getD i 0 = x at *
      generalize s / d = q at *
      generalize s % d = r at *
      have dd : ((d : Int) == 0) = false := by simp; omega
      have dd' : ¬ d = 0 := by omega
      have w8 : IntKind.i64.wrap ((i : Int) - 1) = (i : Int) - 1 := IntWalk.i64_in _ (by omega)
      have hin : i < n := by omega
      have ec := (hb.cell i).trans (digA_at (o := o) (i := i) (by omega))
      have ef := hb.frozen i
      have hb2 := hb.set i (.int .u32 (q : Int))
      rw [digA_set] at hb2
      have hE2 := hE.setNew hgw i (.int .u32 (q : Int))
      clear hca hla hb HV HO hs hy hsd hsB
      go_wp2_with fail
      go_roundw
      case rel => exact ⟨i, r, (i : Int) - 1, _, by omega, by omega, rfl, rfl, by rw [List.length_set]; exact ho, hrd, hE2, hb2, HO2, hst⟩
      case measure => simp [intOf]
end Go.Proofs.YtodefmfgoehkhaaGreat
