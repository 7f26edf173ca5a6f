/- Texts put together: TnTop, TiInt. -/
import Derived.Test.YtodefmfgoehkhaaGreatTnDiv2
import Derived.Deep.LoopGhost
/- natural: the contracts over numbers; GCD, BitLen. -/
set_option linter.unusedVariables false
set_option linter.unusedSimpArgs false
namespace Go.Proofs.YtodefmfgoehkhaaGreat
open Go.RowKit Go.Par Go.TN

/-- the slice (A, n, c) reads as the digits of k -/
structure NS (w : World) (A : Option Addr) (n c k : Nat) : Prop where
  len : n = L k
  cap : n ≤ c
  at_ : natE.At w A (dig k)
theorem NS.ext {w w' : World} {A : Option Addr} {n c k : Nat} (h : NS w A n c k) (he : Ext w w') : NS w' A n c k := ⟨h.len, h.cap, h.at_.ext he⟩
/-- a value that reads so -/
def NV (w : World) (v : Value) (k : Nat) : Prop := ∃ A n c, v = .slice A n c ∧ NS w A n c k
theorem NV.ext {w w' : World} {v : Value} {k : Nat} (h : NV w v k) (he : Ext w w') : NV w' v k := by
  obtain ⟨A, n, c, e, h⟩ := h
  exact ⟨A, n, c, e, h.ext he⟩
theorem NV.stable (k : Nat) : Stable (fun v w => NV w v k) := fun _ _ _ h he => h.ext he
theorem NS.nil (w : World) : NS w none 0 0 0 := ⟨by show 0 = (dig 0).length; rw [dig_zero]; rfl, Nat.le_refl _, by rw [dig_zero]; exact EL.At.nil _ _⟩
theorem NV.nil (w : World) : NV w (.slice none 0 0) 0 := ⟨none, 0, 0, rfl, NS.nil w⟩
/-- with a bound on the capacity that any result keeps -/
theorem NV.of_own {w : World} {B : Nat} {v : Value} {n : Nat} (h : natE.Own w B v (dig n)) (hb : L n ≤ 17592186044416) : NV w v n := by
  obtain ⟨A, c, e, h1, h2⟩ := h.len
  obtain ⟨A', c', e', h3, h4⟩ := h.at (n := L n) rfl hb
  rw [e] at e'
  injection e' with e1 e2 e3
  subst e1
  exact ⟨A, L n, c, e, rfl, h1, h4⟩
theorem NV.of_dv {w : World} {v : Value} {n : Nat} (h : DV w v n) : NV w v n := by
  obtain ⟨A, c, e, h1, h2, h3⟩ := h
  exact ⟨A, L n, c, e, rfl, h1, h3⟩
theorem L_zero : L 0 = 0 := by show (dig 0).length = 0; rw [dig_zero]; rfl
theorem L_pos {n : Nat} (h : n ≠ 0) : 0 < L n := by
  rcases Nat.eq_zero_or_pos (L n) with e | e
  · exact absurd (dig_nil.1 (List.eq_nil_of_length_eq_zero e)) h
  · exact e
theorem L_add (a b : Nat) : L (a + b) ≤ max (L a) (L b) + 1 := by
  have h1 := val_lt (ok_dig a)
  have h2 := val_lt (ok_dig b)
  rw [val_dig] at h1 h2
  refine dig_lt ?_
  have p1 := Nat.pow_le_pow_right (show 0 < BB by decide) (show (dig a).length ≤ max (L a) (L b) from Nat.le_max_left _ _)
  have p2 := Nat.pow_le_pow_right (show 0 < BB by decide) (show (dig b).length ≤ max (L a) (L b) from Nat.le_max_right _ _)
  rw [Nat.pow_succ]
  generalize BB ^ max (L a) (L b) = P at *
  generalize BB ^ (dig a).length = P1 at *
  generalize BB ^ (dig b).length = P2 at *
  have : P * BB ≥ P * 2 := Nat.mul_le_mul_left P (by decide)
  omega
theorem L_mul (a b : Nat) : L (a * b) ≤ L a + L b := by
  have h1 := val_lt (ok_dig a)
  have h2 := val_lt (ok_dig b)
  rw [val_dig] at h1 h2
  refine dig_lt ?_
  rw [Nat.pow_add]
  exact Nat.mul_lt_mul'' h1 h2
section
variable {A B : Option Addr} {n c k d a b : Nat} {w : World}
theorem normS (ha : NS w A n c a) (hn : n ≤ 400000000) : Calls Tryz.prog 58 #[.slice A n c] w fun e w' => ∃ v, e = .returned v ∧ Ext w w' ∧ NV w' v a := by
  have := normalizeN_any (dig a) A n c w ha.len.symm ha.cap (by omega) (by omega) (ok_dig a) ha.at_
  rw [val_dig] at this
  exact this.mono fun e w' ⟨v, h1, h2, h3⟩ => ⟨v, h1, h2, NV.of_own h3 (by rw [← ha.len]; omega)⟩
theorem addSn (ha : NS w A n c a) (hb : NS w B k d b) (hn : n ≤ 400000000) (hk : k ≤ 400000000) : Calls Tryz.prog 63 #[.slice A n c, .slice B k d] w fun e w' => ∃ v, e = .returned v ∧ Ext w w' ∧ NV w' v (a + b) := by
  have := addN_any (dig a) (dig b) A B n c k d w ha.len.symm hb.len.symm (by omega) (by omega) (ok_dig a) (ok_dig b) ha.at_ hb.at_
  rw [val_dig, val_dig] at this
  exact this.mono fun e w' ⟨v, h1, h2, h3⟩ => ⟨v, h1, h2, NV.of_dv h3⟩
theorem mulSn (ha : NS w A n c a) (hb : NS w B k d b) (hn : n ≤ 400000000) (hk : k ≤ 400000000) : Calls Tryz.prog 78 #[.slice A n c, .slice B k d] w fun e w' => ∃ v, e = .returned v ∧ Ext w w' ∧ NV w' v (a * b) := by
  have := mulN_any (dig a) (dig b) A B n c k d w ha.len.symm hb.len.symm ha.cap hb.cap (by omega) (by omega) (by omega) (by omega) (ok_dig a) (ok_dig b) ha.at_ hb.at_
  rw [val_dig, val_dig] at this
  exact this.mono fun e w' ⟨v, h1, h2, h3⟩ => ⟨v, h1, h2, NV.of_dv h3⟩
theorem subSn (ha : NS w A n c a) (hb : NS w B k d b) (hn : n ≤ 400000000) (hk : k ≤ 400000000) (hge : b ≤ a) : Calls Tryz.prog 64 #[.slice A n c, .slice B k d] w fun e w' => ∃ v, e = .returned (.tuple #[v, .bool true]) ∧ Ext w w' ∧ NV w' v (a - b) := by
  have := subN_any (dig a) (dig b) A B n c k d w ha.len.symm hb.len.symm ha.cap hb.cap (by omega) (by omega) (by omega) (by omega) (ok_dig a) (ok_dig b) ha.at_ hb.at_ (by rw [val_dig, val_dig]; exact hge)
  rw [val_dig, val_dig] at this
  exact this.mono fun e w' ⟨v, h1, h2, h3⟩ => ⟨v, h1, h2, NV.of_dv h3⟩
theorem subNoS (ha : NS w A n c a) (hb : NS w B k d b) (hn : n ≤ 400000000) (hk : k ≤ 400000000) (hlt : a < b) : Calls Tryz.prog 64 #[.slice A n c, .slice B k d] w fun e w' => e = .returned (.tuple #[.slice none 0 0, .bool false]) ∧ Ext w w' :=
  subNo_any (dig a) (dig b) A B n c k d w ha.len.symm hb.len.symm ha.cap hb.cap (by omega) (by omega) (by omega) (by omega) (ok_dig a) (ok_dig b) ha.at_ hb.at_ (by rw [val_dig, val_dig]; exact hlt)
theorem divS (ha : NS w A n c a) (hb : NS w B k d b) (hn : n ≤ 400000000) (hk : k ≤ 400000000) (hb0 : b ≠ 0) : Calls Tryz.prog 62 #[.slice A n c, .slice B k d] w fun e w' => ∃ q r, e = .returned (.tuple #[q, r, .int .i64 0]) ∧ Ext w w' ∧ NV w' q (a / b) ∧ NV w' r (a % b) := by
  have key : Calls Tryz.prog 62 #[.slice A n c, .slice B k d] w fun e w' => ∃ q r, e = .returned (.tuple #[q, r, .int .i64 0]) ∧ Ext w w' ∧ DV w' q (val (dig a) / val (dig b)) ∧ DV w' r (val (dig a) % val (dig b)) := by
    by_cases hlt : a < b
    · exact divLess_any (dig a) (dig b) A B n c k d w ha.len.symm hb.len.symm ha.cap hb.cap (by omega) (by omega) (by omega) (by omega) (ok_dig a) (ok_dig b) ha.at_ hb.at_ (by rw [val_dig, val_dig]; exact hlt)
    · by_cases h1 : L b = 1
      · exact divOne_any (dig a) (dig b) A B n c k d w ha.len.symm hb.len.symm ha.cap hb.cap (by omega) (by omega) (by omega) (by omega) (ok_dig a) (ok_dig b) ha.at_ hb.at_ (by rw [val_dig, val_dig]; omega) (by rw [val_dig]; exact h1)
      · have := L_pos hb0
        exact divKnuth_any (dig a) (dig b) A B n c k d w ha.len.symm hb.len.symm ha.cap hb.cap (by omega) (by omega) (by omega) (by omega) (ok_dig a) (ok_dig b) ha.at_ hb.at_ (by rw [val_dig, val_dig]; omega) (by rw [val_dig]; omega)
  rw [val_dig, val_dig] at key
  exact key.mono fun e w' ⟨q, r, h1, h2, h3, h4⟩ => ⟨q, r, h1, h2, NV.of_dv h3, NV.of_dv h4⟩
set_option maxRecDepth 100000 in
set_option maxHeartbeats 800000 in
theorem gcdS (ha : NS w A n c a) (hb : NS w B k d b) (hn : n ≤ 400000000) (hk : k ≤ 400000000) : Calls Tryz.prog 60 #[.slice A n c, .slice B k d] w fun e w' => ∃ v, e = .returned v ∧ Ext w w' ∧ NV w' v (Nat.gcd a b) := by
  have HA := Lib.hid (normS ha hn)
  have HB := Lib.hid (fun W (h : Ext w W) => normS (hb.ext h) hk)
  have HLA := Lib.hid ha.len
  have HLB := Lib.hid hb.len
  clear ha hb
  go_enter Tryz.func60, Tryz.ntmps60
  go_wp2_with fail
  refine HA.out.mono ?_
  rintro e w1 ⟨v, rfl, hE1, A1, n1, c1, rfl, h1⟩
  go_wp2_with fail
  refine (HB.out _ hE1).mono ?_
  rintro e w2 ⟨v, rfl, hE2, B1, k1, d1, rfl, h2⟩
  have hn1 : n1 ≤ 400000000 := by rw [h1.len, ← HLA.out]; exact hn
  have hk1 : k1 ≤ 400000000 := by rw [h2.len, ← HLB.out]; exact hk
  replace h1 := h1.ext hE2
  replace hE1 := hE1.trans hE2
  clear hE2 HA HB HLA HLB
  go_wp2_with fail
  go_loopg [0, 1] b (fun y u v wr => ∃ (x : Nat) (A1 B1 : Option Addr) (n1 c1 k1 d1 : Nat), u = .slice A1 n1 c1 ∧ v = .slice B1 k1 d1 ∧ n1 ≤ 400000000 ∧ k1 ≤ 400000000 ∧ NS wr A1 n1 c1 x ∧ NS wr B1 k1 d1 y ∧ Ext w wr ∧ Hid (Nat.gcd x y = Nat.gcd a b))
  case atStart => exact ⟨a, A1, B1, n1, c1, k1, d1, rfl, rfl, hn1, hk1, h1, h2, hE1, Lib.hid rfl⟩
  case round =>
    clear h1 h2 hE1 hn1 hk1
    obtain ⟨x, A2, B2, n2, c2, k2, d2, rfl, rfl, hn2, hk2, h1, h2, hE, HG⟩ := hrel
    by_cases hy : gk = 0
    · subst hy
      have hk0 : k2 = 0 := by rw [h2.len, L_zero]
      subst hk0
      have hg : NS wr A2 n2 c2 (Nat.gcd a b) := by
        rw [← HG.out, Nat.gcd_zero_right]; exact h1
      go_wp2
      go_ret
      exact ⟨_, rfl, hE, A2, n2, c2, rfl, hg⟩
    · have hk0 : 0 < k2 := by rw [h2.len]; exact L_pos hy
      have dk : ((0 : Int) < (k2 : Int)) = True := eq_true (by omega)
      have HD := Lib.hid (divS h1 h2 hn2 hk2 hy)
      have hlt : x % gk < gk := Nat.mod_lt _ (by omega)
      have HLEN2 := Lib.hid h2.len
      clear h1
      go_wp2_with fail
      refine HD.out.mono ?_
      rintro e w3 ⟨q, r, rfl, hE3, hq, A3, n3, c3, rfl, h3⟩
      obtain ⟨Aq, nq, cq, rfl, _⟩ := hq
      have h2' := h2.ext hE3
      have hn3 : n3 ≤ 400000000 := by
        rw [h3.len]
        exact Nat.le_trans (L_le (Nat.le_of_lt hlt)) (by rw [← HLEN2.out]; exact hk2)
      have hE4 := hE.trans hE3
      have HG2 := Lib.hid (show Nat.gcd gk (x % gk) = Nat.gcd a b from by rw [← HG.out, Nat.gcd_comm gk, ← Nat.gcd_rec, Nat.gcd_comm])
      clear h2 HLEN2 HD
      go_wp2_with fail
      go_roundg (x % gk)
      case measure => exact hlt
      case rel => exact ⟨gk, B2, A3, k2, d2, n3, c3, rfl, rfl, hk2, hn3, h2', h3, hE4, HG2⟩
set_option maxHeartbeats 800000 in
/-- zero just where the number is -/
theorem bitlenS (ha : NS w A n c a) (hn : n ≤ 400000000) : Calls Tryz.prog 79 #[.slice A n c] w fun e w' => ∃ r : Nat, e = .returned (.int .i64 (r : Int)) ∧ w = w' ∧ (r = 0 ↔ a = 0) := by
  have HS := Lib.hid (short_any A c n (dig a) w ha.len.symm ha.cap (by omega) (ok_dig a) ha.at_)
  rw [val_dig, ← ha.len] at HS
  by_cases h0 : a = 0
  · subst h0
    have hz : n = 0 := by rw [ha.len, L_zero]
    subst hz
    clear ha hn
    go_enter Tryz.func79, Tryz.ntmps79
    go_wp2_with fail
    refine HS.out.mono ?_
    rintro e w1 ⟨rfl, rfl⟩
    go_wp2
    go_ret
    exact ⟨0, ret_eq rfl, rfl, by simp⟩
  · have hp : 0 < n := by rw [ha.len]; exact L_pos h0
    have hl : (dig a).length = n := ha.len.symm
    obtain ⟨b, o, rfl, hc⟩ := ha.at_ (fun e => by rw [e] at hl; simp at hl; omega)
    have ec := nat_cell hc (getD_some (l := dig a) (i := n - 1) (by omega))
    have ht := (ok_dig a).getD (n - 1)
    have ht0 : 0 < (dig a).getD (n - 1) 0 := by
      have h3 := dig_last (n := a) (d := (dig a).getD (n - 1) 0) (by rw [List.getLast?_eq_getElem?, hl]; exact getD_some (by omega))
      omega
    generalize (dig a).getD (n - 1) 0 = t at *
    have HL := Lib.hid (fun W => len32_any t W ht)
    obtain ⟨b1, _, b3⟩ := bitLen_bounds t ht0 (Nat.lt_of_lt_of_le ht (by decide))
    have hbl : Lib.bitLen t ≤ 64 := Lib.bitLen_le t 64 (by omega) (by have : BB = 4294967296 := rfl; omega)
    have d1 : ((n : Int) == 0) = false := by simp; omega
    have d1' : ¬ n = 0 := by omega
    have q1 : IntKind.i64.wrap ((n : Int) - 1) = ((n - 1 : Nat) : Int) := by rw [IntWalk.i64_in _ (by omega)]; omega
    obtain ⟨m, hm⟩ : ∃ m, m = n - 1 := ⟨_, rfl⟩
    rw [← hm] at q1 ec
    obtain ⟨m32, hm32⟩ : ∃ m32, m32 = 32 * m := ⟨_, rfl⟩
    have q2 : IntKind.i64.wrap (32 * (m : Int)) = (m32 : Int) := by rw [IntWalk.i64_in _ (by omega)]; omega
    have q3 : IntKind.i64.wrap ((m32 : Int) + (Lib.bitLen t : Int)) = ((m32 + Lib.bitLen t : Nat) : Int) := by rw [IntWalk.i64_in _ (by omega)]; omega
    have hmn : m < n := by omega
    generalize Lib.bitLen t = bl at *
    clear ha hc hl b3 hm hm32
    go_enter Tryz.func79, Tryz.ntmps79
    go_wp2_with fail
    refine HS.out.mono ?_
    rintro e w1 ⟨rfl, rfl⟩
    go_wp2_with fail
    refine (HL.out _).mono ?_
    rintro e w1 ⟨rfl, rfl⟩
    go_wp2
    go_ret
    exact ⟨m32 + bl, ret_eq rfl, rfl, by omega⟩
end
end Go.Proofs.YtodefmfgoehkhaaGreat

/- integer: New, FromInt, Sign, Neg. -/
set_option linter.unusedVariables false
set_option linter.unusedSimpArgs false
namespace Go.Proofs.YtodefmfgoehkhaaGreat
open Go.RowKit Go.Par Go.TN

/-- the words (b, A, n, c) read as the number z -/
structure IS (w : World) (b : Bool) (A : Option Addr) (n c : Nat) (z : Int) : Prop where
  neg : b = decide (z < 0)
  ns : NS w A n c z.natAbs
theorem IS.ext {w w' : World} {b : Bool} {A : Option Addr} {n c : Nat} {z : Int} (h : IS w b A n c z) (he : Ext w w') : IS w' b A n c z := ⟨h.neg, h.ns.ext he⟩
def IV (w : World) (v : Value) (z : Int) : Prop := ∃ b A n c, v = .agg #[.bool b, .slice A n c] ∧ IS w b A n c z
theorem IV.ext {w w' : World} {v : Value} {z : Int} (h : IV w v z) (he : Ext w w') : IV w' v z := by
  obtain ⟨b, A, n, c, e, h⟩ := h
  exact ⟨b, A, n, c, e, h.ext he⟩
theorem IV.stable (z : Int) : Stable (fun v w => IV w v z) := fun _ _ _ h he => h.ext he
def mkI (b : Bool) (k : Nat) : Int := if b then -(k : Int) else k
theorem mkI_abs (b : Bool) (k : Nat) : (mkI b k).natAbs = k := by cases b <;> simp [mkI]
theorem mkI_neg (b : Bool) (k : Nat) : decide (mkI b k < 0) = (b && decide (0 < k)) := by
  cases b
  · simp [mkI]
  · by_cases h : 0 < k <;> simp [mkI, h] <;> omega
/-- a block that holds no digits -/
def NoDig (w : World) (b : Nat) : Prop := ∀ i (d : Int), w.cell? ⟨b, i, none⟩ ≠ some (.int .u32 d)
theorem NoDig.box {w : World} {b : Nat} {t : TypeId} {cs : Array Value} (h : Box w b t cs) (hc : ∀ (i : Nat) (d : Int), cs[i]? ≠ some (Value.int .u32 d)) : NoDig w b := fun i d => by rw [h.cell]; exact hc i d
theorem NoDig.int {w : World} {b : Nat} {t : TypeId} {x : Bool} {A : Option Addr} {n c : Nat} (h : Box w b t #[.bool x, .slice A n c]) : NoDig w b := NoDig.box h fun i d => by
  rcases i with _ | _ | i <;> simp
theorem NoDig.rat {w : World} {b : Nat} {t : TypeId} {x y : Bool} {A B : Option Addr} {n c m d : Nat} (h : Box w b t #[.bool x, .slice A n c, .bool y, .slice B m d]) : NoDig w b := NoDig.box h fun i d => by
  rcases i with _ | _ | _ | _ | i <;> simp
theorem NS.but {w w' : World} {A : Option Addr} {n c k b : Nat} (h : NS w A n c k) (hb : NoDig w b) (he : But b w w') : NS w' A n c k := by
  refine ⟨h.len, h.cap, fun hl => ?_⟩
  obtain ⟨b0, o, e, hc⟩ := h.at_ hl
  refine ⟨b0, o, e, fun i x hx j v hv => ?_⟩
  have h1 := hc i x hx j v hv
  by_cases hbb : b0 = b
  · subst hbb
    exfalso
    have : v = .int .u32 (x : Int) := by
      cases j with
      | zero => simpa [natE] using hv.symm
      | succ j => simp [natE] at hv
    subst this
    exact hb _ _ h1
  · exact he.cell h1 hbb
theorem IS.but {w w' : World} {b : Bool} {A : Option Addr} {n c g : Nat} {z : Int} (h : IS w b A n c z) (hb : NoDig w g) (he : But g w w') : IS w' b A n c z := ⟨h.neg, h.ns.but hb he⟩
set_option maxHeartbeats 400000 in
theorem newI {b : Bool} {A : Option Addr} {n c k : Nat} {w : World} (ha : NS w A n c k) (hn : n ≤ 400000000) :
    Calls Tryz.prog 45 #[.bool b, .slice A n c] w fun e w' => ∃ v, e = .returned v ∧ Ext w w' ∧ IV w' v (mkI b k) := by
  have HN := Lib.hid (fun W (h : Ext w W) => normS (ha.ext h) hn)
  have HM := Lib.hid (mkI_neg b k)
  have HA := Lib.hid (mkI_abs b k)
  generalize mkI b k = z at *
  clear ha hn
  go_enter Tryz.func45, Tryz.ntmps45
  have hE := Ext.alloc w (.cells #[.bool false, .slice none 0 0] 27)
  have b4 := Box.new w 27 #[.bool false, .slice none 0 0]
  go_wp2_with fail
  refine (HN.out _ hE).mono ?_
  rintro e w1 ⟨v, rfl, hE1, A1, n1, c1, rfl, h1⟩
  have b5 := b4.ext hE1
  have c4 := b5.cell
  have f4 := b5.frozen
  have hfin : ∀ (bb : Bool), bb = (b && decide (0 < k)) → IS ((w1.setCell ⟨w.heap.size, 0, none⟩ (.bool bb)).setCell ⟨w.heap.size, 1, none⟩ (.slice A1 n1 c1)) bb A1 n1 c1 z := fun bb hbb => ⟨by rw [hbb, HM.out], by rw [HA.out]; exact h1.but (NoDig.int b5) (((But.refl _ _).set _ _).set _ _)⟩
  have hEF : ∀ bb : Bool, Ext w ((w1.setCell ⟨w.heap.size, 0, none⟩ (.bool bb)).setCell ⟨w.heap.size, 1, none⟩ (.slice A1 n1 c1)) := fun bb => (((hE.trans hE1).setNew (Nat.le_refl _) _ _).setNew (Nat.le_refl _) _ _)
  have hn1 : n1 = L k := h1.len
  cases b
  · have hf := hfin false rfl
    have hEf := hEF false
    clear hfin hEF HM HA h1 hn1
    go_wp2
    exact bodyPost_ret (v := .agg #[.bool false, .slice A1 n1 c1]) (by simp [results, Tryz.results45, go_sem, c4, f4]) rfl ⟨_, rfl, hEf, _, _, _, _, rfl, hf⟩
  · by_cases h0 : 0 < k
    · have hf := hfin true (by simp [h0])
      have hEf := hEF true
      have hp : 0 < n1 := by rw [hn1]; exact L_pos (by omega)
      have hp' : ((0 : Int) < (n1 : Int)) = True := eq_true (by omega)
      clear hfin hEF HM HA h1 hn1
      go_wp2
      exact bodyPost_ret (v := .agg #[.bool true, .slice A1 n1 c1]) (by simp [results, Tryz.results45, go_sem, c4, f4]) rfl ⟨_, rfl, hEf, _, _, _, _, rfl, hf⟩
    · have hf := hfin false (by simp [h0])
      have hEf := hEF false
      have hp : n1 = 0 := by rw [hn1, show k = 0 by omega, L_zero]
      subst hp
      clear hfin hEF HM HA h1 hn1
      go_wp2
      exact bodyPost_ret (v := .agg #[.bool false, .slice A1 0 c1]) (by simp [results, Tryz.results45, go_sem, c4, f4]) rfl ⟨_, rfl, hEf, _, _, _, _, rfl, hf⟩
theorem L_small {m : Nat} (h : m < 18446744073709551616) : L m ≤ 2 := dig_lt (show m < BB ^ 2 from h)
theorem fromUS (n : Nat) (w : World) (hn : n < 18446744073709551616) : Calls Tryz.prog 46 #[.int .u64 (n : Int)] w fun e w' => ∃ v, e = .returned v ∧ Ext w w' ∧ NV w' v n :=
  (fromU_any n w hn).mono fun e w' ⟨v, h1, h2, h3⟩ => ⟨v, h1, h2, NV.of_own h3 (by have := L_small hn; omega)⟩
/-- what stands in a result's block of two cells -/
theorem putInt {w w1 : World} {g : Nat} {b b' : Bool} {A A' : Option Addr} {n c n' c' : Nat} {z : Int} (hg : Box w1 g 27 #[.bool b', .slice A' n' c']) (hgw : w.heap.size ≤ g) (hE : Ext w w1) (h : IS w1 b A n c z) :
    Ext w ((w1.setCell ⟨g, 0, none⟩ (.bool b)).setCell ⟨g, 1, none⟩ (.slice A n c)) ∧ IS ((w1.setCell ⟨g, 0, none⟩ (.bool b)).setCell ⟨g, 1, none⟩ (.slice A n c)) b A n c z :=
  ⟨(hE.setNew hgw _ _).setNew hgw _ _, h.but (NoDig.int hg) (((But.refl _ _).set _ _).set _ _)⟩
set_option maxHeartbeats 400000 in
theorem fromI (z : Int) (w : World) (h1 : -9223372036854775808 ≤ z) (h2 : z ≤ 9223372036854775807) :
    Calls Tryz.prog 21 #[.int .i64 z] w fun e w' => ∃ v, e = .returned v ∧ Ext w w' ∧ IV w' v z := by
  have hE := Ext.alloc w (.cells #[.bool false, .slice none 0 0] 27)
  have b4 := Box.new w 27 #[.bool false, .slice none 0 0]
  by_cases h0 : z < 0
  · obtain ⟨m, hm⟩ : ∃ m : Nat, m = (-z).toNat := ⟨_, rfl⟩
    have q1 : IntKind.u64.wrap (-(IntKind.u64.wrap z)) = (m : Int) := by
      show (-(z % 18446744073709551616)) % 18446744073709551616 = _
      omega
    have hmB : m < 18446744073709551616 := by omega
    have hz : mkI true m = z := by simp [mkI]; omega
    have HZ := Lib.hid hz
    have HF := Lib.hid (fun W => fromUS m W hmB)
    have hL := L_small hmB
    clear hm hz
    obtain ⟨x, hx⟩ : ∃ x, IntKind.u64.wrap z = x := ⟨_, rfl⟩
    rw [hx] at q1
    go_enter Tryz.func21, Tryz.ntmps21
    go_wp2_with fail
    refine (HF.out _).mono ?_
    rintro e w1 ⟨v, rfl, hE1, A1, n1, c1, rfl, g1⟩
    go_wp2_with fail
    refine (newI g1 (by rw [g1.len]; omega)).mono ?_
    rintro e w2 ⟨v, rfl, hE2, b, A, n, c, rfl, g2⟩
    rw [HZ.out] at g2
    have b5 := (b4.ext hE1).ext hE2
    obtain ⟨hEf, gf⟩ := putInt b5 (Nat.le_refl _) ((hE.trans hE1).trans hE2) g2
    have c4 := b5.cell
    have f4 := b5.frozen
    clear g1 g2
    go_wp2
    exact bodyPost_ret (v := .agg #[.bool b, .slice A n c]) (by simp [results, Tryz.results21, go_sem, c4, f4]) rfl ⟨_, rfl, hEf, _, _, _, _, rfl, gf⟩
  · obtain ⟨m, rfl⟩ : ∃ m : Nat, z = m := ⟨z.toNat, by omega⟩
    have d0 : ((m : Int) < 0) = False := eq_false (by omega)
    have hmB : m < 18446744073709551616 := by omega
    have q1 := wrap64 (d := m) hmB
    have HZ := Lib.hid (show mkI false m = m from rfl)
    have HF := Lib.hid (fun W => fromUS m W hmB)
    have hL := L_small hmB
    go_enter Tryz.func21, Tryz.ntmps21
    go_wp2_with fail
    refine (HF.out _).mono ?_
    rintro e w1 ⟨v, rfl, hE1, A1, n1, c1, rfl, g1⟩
    go_wp2_with fail
    refine (newI g1 (by rw [g1.len]; omega)).mono ?_
    rintro e w2 ⟨v, rfl, hE2, b, A, n, c, rfl, g2⟩
    rw [HZ.out] at g2
    have b5 := (b4.ext hE1).ext hE2
    obtain ⟨hEf, gf⟩ := putInt b5 (Nat.le_refl _) ((hE.trans hE1).trans hE2) g2
    have c4 := b5.cell
    have f4 := b5.frozen
    clear g1 g2
    go_wp2
    exact bodyPost_ret (v := .agg #[.bool b, .slice A n c]) (by simp [results, Tryz.results21, go_sem, c4, f4]) rfl ⟨_, rfl, hEf, _, _, _, _, rfl, gf⟩
def signZ (z : Int) : Int := if z = 0 then 0 else if z < 0 then -1 else 1
set_option maxHeartbeats 400000 in
theorem signI {b : Bool} {A : Option Addr} {n c : Nat} {z : Int} {w : World} (h : IS w b A n c z) (hn : n ≤ 400000000) :
    Calls Tryz.prog 56 #[.agg #[.bool b, .slice A n c]] w fun e w' => e = .returned (.int .i64 (signZ z)) ∧ Ext w w' := by
  have hE := Ext.alloc w (.cells #[.bool b, .slice A n c] 27)
  have HB := Lib.hid (bitlenS (h.ns.ext hE) hn)
  have hneg := h.neg
  clear h
  rcases Int.lt_trichotomy z 0 with hz | hz | hz
  · rw [show signZ z = -1 from by unfold signZ; rw [if_neg (by omega), if_pos hz]]
    have hb : b = true := by rw [hneg]; simp [hz]
    subst hb
    clear hneg
    go_enter Tryz.func56, Tryz.ntmps56
    go_wp2_with fail
    refine HB.out.mono ?_
    rintro e w1 ⟨r, rfl, rfl, hr⟩
    have d0 : ((r : Int) == 0) = false := by simp; omega
    have d0' : ¬ r = 0 := by omega
    clear hr HB
    go_wp2
    go_ret
    exact ⟨ret_eq rfl, hE⟩
  · subst hz
    rw [show signZ 0 = 0 from rfl]
    clear hneg
    go_enter Tryz.func56, Tryz.ntmps56
    go_wp2_with fail
    refine HB.out.mono ?_
    rintro e w1 ⟨r, rfl, rfl, hr⟩
    have h0 : r = 0 := hr.2 rfl
    subst h0
    clear hr HB
    go_wp2
    go_ret
    exact ⟨ret_eq rfl, hE⟩
  · rw [show signZ z = 1 from by unfold signZ; rw [if_neg (by omega), if_neg (by omega)]]
    have hb : b = false := by rw [hneg]; simp; omega
    subst hb
    clear hneg
    go_enter Tryz.func56, Tryz.ntmps56
    go_wp2_with fail
    refine HB.out.mono ?_
    rintro e w1 ⟨r, rfl, rfl, hr⟩
    have d0 : ((r : Int) == 0) = false := by simp; omega
    have d0' : ¬ r = 0 := by omega
    clear hr HB
    go_wp2
    go_ret
    exact ⟨ret_eq rfl, hE⟩
set_option maxHeartbeats 400000 in
theorem negI {b : Bool} {A : Option Addr} {n c : Nat} {z : Int} {w : World} (h : IS w b A n c z) (hn : n ≤ 400000000) :
    Calls Tryz.prog 80 #[.agg #[.bool b, .slice A n c]] w fun e w' => ∃ v, e = .returned v ∧ Ext w w' ∧ IV w' v (-z) := by
  have hE := (Ext.alloc w (.cells #[.bool b, .slice A n c] 27)).trans (Ext.alloc _ (.cells #[.bool false, .slice none 0 0] 27))
  have b4 := Box.at1 (w := w) (o := .cells #[.bool b, .slice A n c] 27) (t := 27) (cs := #[.bool false, .slice none 0 0])
  have HN := Lib.hid (newI (b := !b) (h.ns.ext hE) hn)
  have hz : mkI (!b) z.natAbs = -z := by
    rw [h.neg]
    unfold mkI
    by_cases h0 : z < 0
    · simp [h0]; omega
    · simp [h0]; omega
  rw [hz] at HN
  clear h hz
  go_enter Tryz.func80, Tryz.ntmps80
  go_wp2_with fail
  refine HN.out.mono ?_
  rintro e w2 ⟨v, rfl, hE2, b', A', n', c', rfl, g2⟩
  have b5 := b4.ext hE2
  obtain ⟨hEf, gf⟩ := putInt b5 (by omega) (hE.trans hE2) g2
  have c4 := b5.cell
  have f4 := b5.frozen
  clear g2 HN
  go_wp2
  exact bodyPost_ret (v := .agg #[.bool b', .slice A' n' c']) (by simp [results, Tryz.results80, go_sem, c4, f4]) rfl ⟨_, rfl, hEf, _, _, _, _, rfl, gf⟩
end Go.Proofs.YtodefmfgoehkhaaGreat
