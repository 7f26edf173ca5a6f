/- Texts put together: TnLen, TnDiv. -/
import Derived.Shelf.Lay
import Derived.Shelf.Small.Bits
import Derived.Ground.NamesProg
import Derived.Test.YtodefmfgoehkhaaGreatZB
import Derived.Test.YtodefmfgoehkhaaGreatRows
import Derived.Test.YtodefmfgoehkhaaGreatZD
import Derived.Test.YtodefmfgoehkhaaGreatZG
/- bits.Len32, LeadingZeros32 off the kit's shelf. -/
set_option linter.unusedVariables false
namespace Go.Proofs
open Go.Shelf
def Tryz.lays128_ren : Go.Shelf.Ren := ⟨fun | 128 => 110 | n => n, fun | 51 => 93 | 3 => 3 | 4 => 4 | 46 => 57 | 5 => 5 | 9 => 9 | n => n, fun | n => n⟩
theorem Tryz.lays128 : Go.Proofs.Lays.n128 Tryz.prog Tryz.lays128_ren := {
  mixed := by kernel_rfl
  f128 := Tryz.func110.trans (congrArg some (by kernel_rfl))
  t3 := Tryz.underlying3
  a3 := Tryz.isAgg3
  z3 := Tryz.sizeOf3
  v3 := Tryz.zeroValue3
  t4 := Tryz.underlying4
  a4 := Tryz.isAgg4
  z4 := Tryz.sizeOf4
  v4 := Tryz.zeroValue4
  t5 := Tryz.underlying5
  a5 := Tryz.isAgg5
  z5 := Tryz.sizeOf5
  v5 := Tryz.zeroValue5
  t9 := Tryz.underlying9
  a9 := Tryz.isAgg9
  z9 := Tryz.sizeOf9
  v9 := Tryz.zeroValue9
  t46 := Tryz.underlying57
  a46 := Tryz.isAgg57
  z46 := Tryz.sizeOf57
  v46 := Tryz.zeroValue57
  t51 := Tryz.underlying93
  a51 := Tryz.isAgg93
  z51 := Tryz.sizeOf93
  v51 := Tryz.zeroValue93 }
def Tryz.lays133_ren : Go.Shelf.Ren := ⟨fun | 133 => 86 | 128 => 110 | n => n, fun | 51 => 93 | 3 => 3 | 4 => 4 | 46 => 57 | 5 => 5 | 9 => 9 | n => n, fun | n => n⟩
theorem Tryz.lays133 : Go.Proofs.Lays.n133 Tryz.prog Tryz.lays133_ren := {
  mixed := by kernel_rfl
  f128 := Tryz.func110.trans (congrArg some (by kernel_rfl))
  f133 := Tryz.func86.trans (congrArg some (by kernel_rfl))
  t3 := Tryz.underlying3
  a3 := Tryz.isAgg3
  z3 := Tryz.sizeOf3
  v3 := Tryz.zeroValue3
  t4 := Tryz.underlying4
  a4 := Tryz.isAgg4
  z4 := Tryz.sizeOf4
  v4 := Tryz.zeroValue4
  t5 := Tryz.underlying5
  a5 := Tryz.isAgg5
  z5 := Tryz.sizeOf5
  v5 := Tryz.zeroValue5
  t9 := Tryz.underlying9
  a9 := Tryz.isAgg9
  z9 := Tryz.sizeOf9
  v9 := Tryz.zeroValue9
  t46 := Tryz.underlying57
  a46 := Tryz.isAgg57
  z46 := Tryz.sizeOf57
  v46 := Tryz.zeroValue57
  t51 := Tryz.underlying93
  a51 := Tryz.isAgg93
  z51 := Tryz.sizeOf93
  v51 := Tryz.zeroValue93 }
end Go.Proofs
namespace Go.Proofs.YtodefmfgoehkhaaGreat
open Go.RowKit Go.Par Go.TN
theorem bitLen_zero : Lib.bitLen 0 = 0 := rfl
theorem bitLen_bounds : ∀ x : Nat, 0 < x → x < 18446744073709551616 → 1 ≤ Lib.bitLen x ∧ 2 ^ (Lib.bitLen x - 1) ≤ x ∧ x < 2 ^ Lib.bitLen x := by
  intro x
  induction x using Nat.strongRecOn with
  | _ x ih =>
    intro h0 h1
    have e := Lib.bitLen_half x (by omega) h1
    by_cases hx : x / 2 = 0
    · have : x = 1 := by omega
      subst this
      decide
    · obtain ⟨h2, h3, h4⟩ := ih (x / 2) (by omega) (by omega) (by omega)
      rw [e]
      generalize Lib.bitLen (x / 2) = k at *
      obtain ⟨j, rfl⟩ : ∃ j, k = j + 1 := ⟨k - 1, by omega⟩
      refine ⟨by omega, ?_, ?_⟩
      · rw [show 1 + (j + 1) - 1 = j + 1 by omega, Nat.pow_succ]
        rw [Nat.add_sub_cancel] at h3
        omega
      · rw [show 1 + (j + 1) = j + 1 + 1 by omega, Nat.pow_succ]
        omega
theorem len32_any (x : Nat) (w : World) (h : x < BB) : Calls Tryz.prog 110 #[.int .u32 (x : Int)] w fun e w' => e = .returned (.int .i64 (Lib.bitLen x)) ∧ w = w' :=
  (Go.Proofs.Any.bits_Len32 Tryz.lays128 (x : Int) w (by omega) (by have : BB = 4294967296 := rfl; omega)).mono fun e w' ⟨h1, h2⟩ => ⟨h1, h2.symm⟩
theorem lz32_any (x : Nat) (w : World) (h : x < BB) : Calls Tryz.prog 86 #[.int .u32 (x : Int)] w fun e w' => e = .returned (.int .i64 (32 - (Lib.bitLen x : Int))) ∧ w = w' :=
  (Go.Proofs.Any.bits_LeadingZeros32 Tryz.lays133 (x : Int) w (by omega) (by have : BB = 4294967296 := rfl; omega)).mono fun e w' ⟨h1, h2⟩ => ⟨h1, h2.symm⟩
end Go.Proofs.YtodefmfgoehkhaaGreat

/- natural: DivMod. -/
set_option linter.unusedVariables false
set_option linter.unusedSimpArgs false
namespace Go.Proofs.YtodefmfgoehkhaaGreat
open Go.RowKit Go.Par Go.TN

theorem DV.nil0 (w : World) : DV w (.slice none 0 0) 0 := ⟨none, 0, by rw [dig_zero]; rfl, by rw [dig_zero]; exact Nat.le_refl _, by rw [dig_zero]; decide, by rw [dig_zero]; exact EL.At.nil _ _⟩
set_option maxRecDepth 100000 in
set_option maxHeartbeats 1600000 in
theorem divLess_any (l m : List Nat) (A B : Option Addr) (n c k d : Nat) (w : World) (hn : l.length = n) (hm : m.length = k) (hnc : n ≤ c) (hkd : k ≤ d) (hcm : n ≤ 1000000000) (hdm : k ≤ 1000000000) (hn0 : n ≤ 500000000) (hk0 : k ≤ 500000000) (hl : OkD l) (hm' : OkD m) (hA : natE.At w A l) (hB : natE.At w B m)
    (hlt : val l < val m) :
    Calls Tryz.prog 62 #[.slice A n c, .slice B k d] w fun e w' => ∃ q r, e = .returned (.tuple #[q, r, .int .i64 0]) ∧ Ext w w' ∧ DV w' q (val l / val m) ∧ DV w' r (val l % val m) := by
  have HS := Lib.hid (short_any A c n l w hn hnc hcm hl hA)
  have HT := Lib.hid (short_any B d k m w hm hkd hdm hm' hB)
  have hA' := dig_at hl hA
  have hB' := dig_at hm' hB
  have hLa : L (val l) ≤ n := by rw [← hn]; exact L_val hl
  have hLb : L (val m) ≤ k := by rw [← hm]; exact L_val hm'
  generalize val l = a at *
  generalize val m = b at *
  have HC := Lib.hid (cmpN_any (dig a) (dig b) A B (L a) (L a) (L b) (L b) w rfl rfl (Nat.le_refl _) (Nat.le_refl _) (by omega) (by omega) (by omega) (by omega) (ok_dig a) (ok_dig b) hA' hB')
  rw [val_dig, val_dig, show cmpN a b = -1 from by unfold cmpN; rw [if_pos hlt]] at HC
  have HCL := Lib.hid (fun W (h : Ext w W) => cloneU_any (dig a) A (L a) (L a) W rfl (Nat.le_refl _) (by omega) (hA'.ext h))
  have hLb0 : ¬ L b = 0 := fun e => by
    have : dig b = [] := List.eq_nil_of_length_eq_zero e
    have := dig_nil.1 this
    omega
  have e1 : a / b = 0 := Nat.div_eq_of_lt hlt
  have e2 : a % b = a := Nat.mod_eq_of_lt hlt
  rw [e1, e2]
  have HLA : Hid ((dig a).length ≤ 17592186044416) := Lib.hid (Nat.le_trans hLa (by omega))
  generalize L a = x at *
  generalize L b = y at *
  have hdb : ((y : Int) == 0) = false := by simp; omega
  clear hA hB hl hm' hn hm hlt e1 e2 hA' hB'
  go_enter Tryz.func62, Tryz.ntmps62
  go_wp2_with fail
  refine HS.out.mono ?_
  rintro e w1 ⟨rfl, rfl⟩
  go_wp2_with fail
  refine HT.out.mono ?_
  rintro e w1 ⟨rfl, rfl⟩
  go_wp2_with fail
  refine HC.out.mono ?_
  rintro e w1 ⟨rfl, hE⟩
  go_wp2_with fail
  refine (HCL.out _ hE).mono ?_
  rintro e w2 ⟨v, rfl, hE2, hown⟩
  go_wp2
  obtain ⟨Av, cv, hv, _⟩ := hown.len
  subst hv
  exact bodyPost_ret (v := .tuple #[.slice none 0 0, .slice Av (dig a).length cv, .int .i64 0]) (by simp [results, Tryz.results62, go_sem, List.size_toArray]) rfl ⟨_, _, rfl, hE.trans hE2, DV.nil0 _, DV.of_own hown HLA.out⟩
set_option maxRecDepth 100000 in
set_option maxHeartbeats 1600000 in
theorem divOne_any (l m : List Nat) (A B : Option Addr) (n c k d : Nat) (w : World) (hn : l.length = n) (hm : m.length = k) (hnc : n ≤ c) (hkd : k ≤ d) (hcm : n ≤ 1000000000) (hdm : k ≤ 1000000000) (hn0 : n ≤ 500000000) (hk0 : k ≤ 500000000) (hl : OkD l) (hm' : OkD m) (hA : natE.At w A l) (hB : natE.At w B m)
    (hge : val m ≤ val l) (h1 : L (val m) = 1) :
    Calls Tryz.prog 62 #[.slice A n c, .slice B k d] w fun e w' => ∃ q r, e = .returned (.tuple #[q, r, .int .i64 0]) ∧ Ext w w' ∧ DV w' q (val l / val m) ∧ DV w' r (val l % val m) := by
  have HS := Lib.hid (short_any A c n l w hn hnc hcm hl hA)
  have HT := Lib.hid (short_any B d k m w hm hkd hdm hm' hB)
  have hA' := dig_at hl hA
  have hB' := dig_at hm' hB
  have hLa : L (val l) ≤ n := by rw [← hn]; exact L_val hl
  generalize val l = a at *
  generalize val m = b at *
  have HC := Lib.hid (cmpN_any (dig a) (dig b) A B (L a) (L a) (L b) (L b) w rfl rfl (Nat.le_refl _) (Nat.le_refl _) (by omega) (by omega) (by omega) (by omega) (ok_dig a) (ok_dig b) hA' hB')
  rw [val_dig, val_dig] at HC
  obtain ⟨cr, hcr⟩ : ∃ cr, cmpN a b = cr := ⟨_, rfl⟩
  have hcr0 : ¬ cr < 0 := by rw [← hcr]; unfold cmpN; rw [if_neg (by omega)]; split <;> decide
  rw [hcr, h1] at HC
  rw [h1] at HT
  have hdl : (dig b).length = 1 := h1
  have hvb := val_dig b
  have hob := ok_dig b
  generalize hdb : dig b = db at *
  obtain ⟨t, rfl⟩ : ∃ t, db = [t] := List.length_eq_one_iff.1 hdl
  have hbt : b = t := by rw [← hvb]; simp [val]
  subst hbt
  have hb0 : 0 < b := by
    rcases Nat.eq_zero_or_pos b with h | h
    · subst h; rw [dig_zero] at hdb; cases hdb
    · exact h
  have hbB : b < BB := hob b (List.mem_singleton.2 rfl)
  have HO := Lib.hid (fun W (h : Ext w W) => one_any (dig a) A (L a) (L a) b W rfl (by omega) (ok_dig a) (hA'.ext h) hb0 hbB)
  rw [val_dig] at HO
  obtain ⟨bb, ob, rfl, hcb⟩ := hB' (by simp)
  have eb : w.cell? ⟨bb, ob, none⟩ = some (.int .u32 (b : Int)) := by
    have := nat_cell (k := 0) (d := b) hcb rfl
    simpa using this
  have hmb : a % b < b := Nat.mod_lt _ hb0
  have HF := Lib.hid (fun W => fromU_any (a % b) W (by have : BB = 4294967296 := rfl; omega))
  have w1 := wrap64 (d := a % b) (by have : BB = 4294967296 := rfl; omega)
  have HLQ : Hid ((dig (a % b)).length ≤ 17592186044416) := Lib.hid (by
    have : L (a % b) ≤ L a := L_le (Nat.mod_le _ _)
    exact Nat.le_trans this (by omega))
  generalize a % b = rr at *
  generalize a / b = qq at *
  generalize L a = x at *
  clear hA hB hl hm' hn hm hge hA' hB' hcb hcr h1 hdl hvb hob hdb hmb
  have dcr : (cr < 0) = False := eq_false hcr0
  go_enter Tryz.func62, Tryz.ntmps62
  go_wp2_with fail
  refine HS.out.mono ?_
  rintro e w2 ⟨rfl, rfl⟩
  go_wp2_with fail
  refine HT.out.mono ?_
  rintro e w2 ⟨rfl, rfl⟩
  go_wp2_with fail
  refine HC.out.mono ?_
  rintro e w2 ⟨rfl, hE⟩
  have eb2 := hE.cell eb
  go_wp2_with fail
  refine (HO.out _ hE).mono ?_
  rintro e w3 ⟨v, rfl, hE2, hq⟩
  obtain ⟨Av, cv, rfl, hvc, hvl, hva⟩ := hq
  go_wp2_with fail
  refine (HF.out _).mono ?_
  rintro e w4 ⟨v, rfl, hE3, hown⟩
  have hr := DV.of_own hown HLQ.out
  obtain ⟨Ar, cr', hv, _⟩ := hown.len
  subst hv
  go_wp2
  exact bodyPost_ret (v := .tuple #[.slice Av (dig qq).length cv, .slice Ar (dig rr).length cr', .int .i64 0]) (by simp [results, Tryz.results62, go_sem, List.size_toArray]) rfl ⟨_, _, rfl, (hE.trans hE2).trans hE3, ⟨Av, cv, rfl, hvc, hvl, hva.ext hE3⟩, hr⟩
end Go.Proofs.YtodefmfgoehkhaaGreat
