/- Texts put together: TnNat, TnNat2. -/
import Derived.Test.YtodefmfgoehkhaaGreatRows
import Derived.Test.YtodefmfgoehkhaaGreatZB
import Derived.Test.YtodefmfgoehkhaaGreatZD
import Derived.BigRegion
/- natural: rows of digits; short. -/
set_option linter.unusedVariables false
set_option linter.unusedSimpArgs false
namespace Go.Proofs.YtodefmfgoehkhaaGreat
open Go.RowKit Go.Par Go.TN

def natE : EL Tryz.prog Nat where
  enc := fun d => [.int .u32 (d : Int)]
  size := 1
  t := 93
  st := 25
  zero := .int .u32 0
  bytes := 4
  len := fun _ => rfl
  one := fun x v hv => by simp at hv; rcases hv with rfl; rfl
  pos := by decide
  und := Tryz.underlying25
  info := by kernel_rfl
  zsize := rfl
  small := by decide
theorem natE_cells (l : List Nat) : natE.cells l = l.map fun (d : Nat) => Value.int .u32 (d : Int) := by
  induction l with
  | nil => rfl
  | cons x l ih => rw [EL.cells_cons, ih]; rfl
theorem nat_cell {w : World} {b o : Nat} {l : List Nat} (hcell : ∀ i x, l[i]? = some x → ∀ j v, (natE.enc x)[j]? = some v → w.cell? ⟨b, o + i * natE.size + j, none⟩ = some v) {k d : Nat} (hk : l[k]? = some d) :
    w.cell? ⟨b, o + k, none⟩ = some (.int .u32 (d : Int)) := by
  have := hcell k d hk 0 _ rfl
  simpa [natE] using this
/-- the length of a number -/
abbrev L (n : Nat) : Nat := (dig n).length
/-- digits of a number, as a slice reads -/
abbrev DV (w : World) (v : Value) (n : Nat) : Prop := natE.Row w v (dig n)
theorem getD_some {l : List Nat} {i : Nat} (h : i < l.length) : l[i]? = some (l.getD i 0) := by
  rw [List.getD_eq_getElem?_getD, List.getElem?_eq_getElem h]; rfl
set_option maxHeartbeats 400000 in
theorem short_any (A : Option Addr) (c n : Nat) (ds : List Nat) (w : World) (hn : ds.length = n) (hnc : n ≤ c) (hcm : n ≤ 1000000000) (hd : OkD ds) (h : natE.At w A ds) :
    Calls Tryz.prog 82 #[.slice A n c] w fun e w' => e = .returned (.slice A (L (val ds)) (L (val ds))) ∧ w = w' := by
  have HN := Lib.hid hn
  have HD := Lib.hid hd
  have hmax : maxLen ≤ 9223372036854775807 := by decide
  clear hn hd
  obtain ⟨kk, hkk⟩ : ∃ kk, L (val ds) = kk := ⟨_, rfl⟩
  rw [hkk]
  have HKK := Lib.hid hkk
  clear hkk
  go_enter Tryz.func82, Tryz.ntmps82
  go_wp2_with fail
  go_loopw [3] (fun s wr => ∃ k : Nat, k ≤ n ∧ s = .int .i64 k ∧ wr = w ∧ Hid (∀ i, k ≤ i → ds.getD i 0 = 0)) (fun s _ => (intOf s).toNat)
  case atStart => exact ⟨n, Nat.le_refl _, rfl, rfl, Lib.hid fun i hi => by rw [List.getD_eq_getElem?_getD, List.getElem?_eq_none (by rw [HN.out]; exact hi)]; rfl⟩
  case round =>
    obtain ⟨k, hk, rfl, rfl, HZ⟩ := hrel
    have fin : (k = 0 ∨ ds.getD (k - 1) 0 ≠ 0) → k = kk := fun h0 => by
      have := short_law HD.out (k := k) (by rw [HN.out]; exact hk) HZ.out h0
      rw [← HKK.out]
      show k = (dig (val ds)).length
      rw [← this, List.length_take, HN.out]; omega
    by_cases h0 : k = 0
    · have := fin (.inl h0)
      subst this
      have d0 : ((0 : Int) < (k : Int)) = False := eq_false (by omega)
      have d1 : (0 ≤ (k : Int)) = True := eq_true (by omega)
      have d2 : ((k : Int) ≤ (c : Int)) = True := eq_true (by omega)
      go_wp2
      go_ret
      exact ⟨ret_eq rfl, rfl⟩
    · have d0 : ((0 : Int) < (k : Int)) = True := eq_true (by omega)
      have d1 : (0 ≤ (k : Int)) = True := eq_true (by omega)
      have d2 : ((k : Int) ≤ (c : Int)) = True := eq_true (by omega)
      have e1 : IntKind.i64.wrap ((k : Int) - 1) = ((k - 1 : Nat) : Int) := by rw [IntWalk.i64_in _ (by omega)]; omega
      have hlt : k - 1 < n := by omega
      have hk0 : 0 < k := by omega
      obtain ⟨b, o, rfl, hcell⟩ := h (fun e => by have := HN.out; rw [e] at this; simp at this; omega)
      have ec := nat_cell hcell (getD_some (l := ds) (i := k - 1) (by rw [HN.out]; exact hlt))
      by_cases hz : ds.getD (k - 1) 0 = 0
      · rw [hz] at ec
        have ec : wr.cell? ⟨b, o + (k - 1), none⟩ = some (.int .u32 0) := ec
        have HZ' := Lib.hid (show ∀ i, k - 1 ≤ i → ds.getD i 0 = 0 from fun i hi => by
          rcases Nat.eq_or_lt_of_le hi with rfl | hi
          · exact hz
          · exact HZ.out i (by omega))
        clear fin hz hcell
        go_wp2_with fail
        go_roundw
        case rel => exact ⟨k - 1, by omega, by go_num, trivial, HZ'⟩
        case measure => simp [intOf]; omega
      · have := fin (.inr hz)
        subst this
        generalize ds.getD (k - 1) 0 = d at *
        have dz : ((d : Int) == 0) = false := by simp [hz]
        clear fin hcell
        go_wp2
        go_ret
        exact ⟨ret_eq rfl, rfl⟩
end Go.Proofs.YtodefmfgoehkhaaGreat

/- natural: buffers of digits; Clone, Normalize, FromUint64, digit, Cmp. -/
set_option linter.unusedVariables false
set_option linter.unusedSimpArgs false
namespace Go.Proofs.YtodefmfgoehkhaaGreat
open Go.RowKit Go.Par Go.TN

theorem _root_.Go.Par.EL.make {P : Program} {α : Type} (E : EL P α) (c n : Nat) (hn : n ≤ c) (hc : c ≤ 1000000000) :
    ∃ cs : Array Value, cs = madeCells E.zero.cells (c * E.size) ∧ cs.size = c * E.size ∧ ∀ W, (Instr.makeSlice E.st (.int .i64 (n : Int)) (.int .i64 (c : Int))).run P W = .ok (.slice (some ⟨W.heap.size, 0, none⟩) n c) (W.alloc (.cells cs E.t)) := by
  obtain ⟨i0, hi, hz0, hz1, hz2⟩ := info_parts E.info
  have hb : (i0.bytes : Int) * (c : Int) ≤ 281474976710656 := by
    have := Nat.mul_le_mul E.small hc
    rw [← hz2] at this
    have e : ((i0.bytes * c : Nat) : Int) = (i0.bytes : Int) * (c : Int) := Int.natCast_mul _ _
    omega
  refine ⟨_, rfl, by rw [size_madeCells], fun W => ?_⟩
  have := run_make (P := P) W E.st E.t i0 E.zero E.und hi hz0 .i64 .i64 n c (by omega) (by omega) hb (by omega)
  rw [Int.toNat_natCast, Int.toNat_natCast, hz1] at this
  exact this
/-- a block of digits, known whole -/
def digA (o : List Nat) : Array Value := (o.map fun (d : Nat) => Value.int .u32 (d : Int)).toArray
theorem digA_at {o : List Nat} {i : Nat} (h : i < o.length) : (digA o)[i]? = some (.int .u32 ((o.getD i 0 : Nat) : Int)) := by
  unfold digA
  rw [List.getElem?_toArray, List.getElem?_map, getD_some h]
  rfl
theorem digA_set (o : List Nat) (i d : Nat) : (digA o).setIfInBounds i (.int .u32 (d : Int)) = digA (o.set i d) := by
  unfold digA
  rw [List.setIfInBounds_toArray, List.map_set]
theorem digA_row {w : World} {g c : Nat} {o : List Nat} (h : Box w g 93 (digA o)) : natE.At w (some ⟨g, 0, none⟩) o :=
  EL.At.box h fun j v hv => by
    rw [natE_cells] at hv
    unfold digA
    rw [List.getElem?_toArray]
    exact hv
/-- a new buffer of zeros -/
theorem make_digits (c : Nat) (hc : c ≤ 1000000000) : ∀ W, (Instr.makeSlice 25 (.int .i64 (c : Int)) (.int .i64 (c : Int))).run Tryz.prog W = .ok (.slice (some ⟨W.heap.size, 0, none⟩) c c) (W.alloc (.cells (digA (List.replicate c 0)) 93)) := by
  obtain ⟨cs, h1, h2, h3⟩ := EL.make natE c c (Nat.le_refl _) hc
  have : cs = digA (List.replicate c 0) := by
    rw [h1]
    refine Array.ext_getElem? fun i => ?_
    unfold madeCells digA
    rw [Array.getElem?_map, Array.getElem?_range, List.getElem?_toArray, List.getElem?_map, List.getElem?_replicate]
    by_cases hi : i < c
    · rw [if_pos (by show i < c * 1; omega), if_pos hi]
      show some _ = some _
      congr 1
      show (#[Value.int .u32 0] : Array Value)[i % 1]! = _
      rw [Nat.mod_one]; rfl
    · rw [if_neg (by show ¬ i < c * 1; omega), if_neg hi]; rfl
  rw [this] at h3
  exact h3
theorem L_le {a b : Nat} (h : a ≤ b) : L a ≤ L b := by
  rcases Nat.lt_or_ge (L b) (L a) with h' | h'
  · have := len_lt_val h'; omega
  · exact h'
theorem L_val {l : List Nat} (h : OkD l) : L (val l) ≤ l.length := dig_len_le h
theorem nil_eqU (c : Nat) (w : World) : (binOp .eql 25 (.slice none 0 c) (.slice none 0 0)).run Tryz.prog w = .ok (.bool true) w := by kernel_rfl
theorem some_eqU (a : Addr) (n c : Nat) (w : World) : (binOp .eql 25 (.slice (some a) n c) (.slice none 0 0)).run Tryz.prog w = .ok (.bool false) w := by kernel_rfl
set_option maxRecDepth 100000 in
set_option maxHeartbeats 800000 in
theorem cloneU_any (l : List Nat) (A : Option Addr) (n c : Nat) (w : World) (hn : l.length = n) (hlc : n ≤ c) (hc : n ≤ 500000000) (hP : natE.At w A l) :
    Calls Tryz.prog 81 #[.slice A n c] w fun e w' => ∃ v, e = .returned v ∧ Ext w w' ∧ natE.Own w' w.heap.size v l := by
  cases A with
  | none =>
    have e : l = [] := by
      cases l with
      | nil => rfl
      | cons p l => obtain ⟨b, o, e, _⟩ := hP (by simp); cases e
    subst e
    subst hn
    clear hP hc
    go_enter Tryz.func81, Tryz.ntmps81
    have heq := nil_eqU c
    go_wp2
    go_ret
    exact ⟨_, rfl, Ext.refl w, EL.Own.nil w _⟩
  | some a =>
    have hpts : ∀ W, Ext w W → natE.Row W (.slice (some a) n c) l := fun W h => by subst hn; exact ⟨some a, c, rfl, hlc, by omega, hP.ext h⟩
    have hb : ([] : List Nat).length + l.length ≤ 1000000000 := by simp; omega
    clear hn hP
    go_enter Tryz.func81, Tryz.ntmps81
    have heq := some_eqU a n c
    go_wp2_with (at_builtin; refine EL.wpApp natE rfl _ _ rfl w.heap.size _ _ _ _ rfl rfl (EL.Own.made w) (hpts _ (Ext.alloc _ _)) hb (by simp) ?_; intro v' w' hown' hg _)
    have hE2 := growExt (Ext.alloc w _) (EL.Own.made (E := natE) w) (Nat.le_refl _) hg
    go_ret
    exact ⟨_, rfl, hE2, hown'⟩
theorem dig_at {w : World} {A : Option Addr} {l : List Nat} (hd : OkD l) (h : natE.At w A l) : natE.At w A (dig (val l)) := by
  rw [← dig_prefix hd]
  exact h.take _
theorem DV.of_own {w : World} {B : Nat} {v : Value} {n : Nat} (h : natE.Own w B v (dig n)) (hb : L n ≤ 17592186044416) : DV w v n := h.row hb
set_option maxHeartbeats 400000 in
theorem normalizeN_any (l : List Nat) (A : Option Addr) (n c : Nat) (w : World) (hn : l.length = n) (hlc : n ≤ c) (hcm : n ≤ 1000000000) (hc : n ≤ 500000000) (hd : OkD l) (hP : natE.At w A l) :
    Calls Tryz.prog 58 #[.slice A n c] w fun e w' => ∃ v, e = .returned v ∧ Ext w w' ∧ natE.Own w' w.heap.size v (dig (val l)) := by
  have HS := Lib.hid (short_any A c n l w hn hlc hcm hd hP)
  have hL : L (val l) ≤ n := by rw [← hn]; exact L_val hd
  have HC := Lib.hid (cloneU_any (dig (val l)) A (L (val l)) (L (val l)) w rfl (Nat.le_refl _) (by omega) (dig_at hd hP))
  clear hP hd hn
  generalize L (val l) = k at *
  generalize dig (val l) = m at *
  go_enter Tryz.func58, Tryz.ntmps58
  go_wp2_with fail
  refine HS.out.mono ?_
  rintro e w1 ⟨rfl, rfl⟩
  go_wp2_with fail
  refine HC.out.mono ?_
  rintro e w1 ⟨v, rfl, hE, hown⟩
  go_wp2
  go_ret
  exact ⟨_, rfl, hE, hown⟩
theorem wrap64 {d : Nat} (h : d < 18446744073709551616) : IntKind.u64.wrap (d : Int) = (d : Int) := by
  show (d : Int) % 18446744073709551616 = _
  omega
theorem wrap32 (d : Nat) : IntKind.u32.wrap (d : Int) = ((d % BB : Nat) : Int) := by
  show (d : Int) % 4294967296 = ((d % 4294967296 : Nat) : Int)
  omega
theorem val_two (n : Nat) : val [n % 4294967296, n / 4294967296] = n := by
  simp only [val]
  have := Nat.mod_add_div n 4294967296
  show n % 4294967296 + 4294967296 * (n / 4294967296 + 4294967296 * 0) = n
  omega
set_option maxHeartbeats 400000 in
theorem fromU_any (n : Nat) (w : World) (hn : n < 18446744073709551616) :
    Calls Tryz.prog 46 #[.int .u64 (n : Int)] w fun e w' => ∃ v, e = .returned v ∧ Ext w w' ∧ natE.Own w' w.heap.size v (dig n) := by
  have q1 : IntKind.u32.wrap (n : Int) = ((n % 4294967296 : Nat) : Int) := by
    show (n : Int) % 4294967296 = _
    omega
  have q2 : IntKind.u32.wrap ((n : Int) / 4294967296) = ((n / 4294967296 : Nat) : Int) := by
    show ((n : Int) / 4294967296) % 4294967296 = _
    omega
  have HN := Lib.hid (fun W (b : Nat) (k : Ext w W) (hb : Box W b 93 (digA [n % 4294967296, n / 4294967296])) => normalizeN_any [n % 4294967296, n / 4294967296] (some ⟨b, 0, none⟩) 2 2 W rfl (Nat.le_refl _) (by decide) (by omega)
    (OkD.mk (Nat.mod_lt _ (by decide)) (OkD.mk (by show _ < 4294967296; omega) OkD.nil)) (digA_row (c := 2) hb))
  rw [val_two, show digA [n % 4294967296, n / 4294967296] = #[.int .u32 ((n : Int) % 4294967296), .int .u32 ((n : Int) / 4294967296)] from by simp [digA]] at HN
  clear hn
  go_enter Tryz.func46, Tryz.ntmps46
  go_wp2_with fail
  refine (HN.out _ _ (Ext.alloc _ _) (Box.new _ _ _)).mono ?_
  rintro e w1 ⟨v, rfl, hE, hown⟩
  have hE0 := (Ext.alloc w (.cells #[.int .u32 ((n : Int) % 4294967296), .int .u32 ((n : Int) / 4294967296)] 93))
  go_wp2
  go_ret
  exact ⟨_, rfl, hE0.trans hE, hown.lower hE0.size⟩
set_option maxHeartbeats 400000 in
/-- digit i, or 0 beyond the last -/
theorem digit_any (l : List Nat) (A : Option Addr) (n c i : Nat) (w : World) (hn : l.length = n) (hc : n ≤ 1000000000) (hd : OkD l) (hP : natE.At w A l) :
    Calls Tryz.prog 90 #[.slice A n c, .int .i64 (i : Int)] w fun e w' => e = .returned (.int .u64 ((l.getD i 0 : Nat) : Int)) ∧ w = w' := by
  by_cases h : i < n
  · have d0 : ((i : Int) < (n : Int)) = True := eq_true (by omega)
    obtain ⟨b, o, rfl, hcell⟩ := hP (fun e => by rw [e] at hn; simp at hn; omega)
    have ec := nat_cell hcell (getD_some (l := l) (i := i) (by omega))
    have q := wrap64 (d := l.getD i 0) (Nat.lt_of_lt_of_le (hd.getD i) (by decide))
    generalize l.getD i 0 = d at *
    clear hcell hn hP hd
    go_enter Tryz.func90, Tryz.ntmps90
    go_wp2
    go_ret
    exact ⟨ret_eq rfl, rfl⟩
  · have d0 : ((i : Int) < (n : Int)) = False := eq_false (by omega)
    have e0 : l.getD i 0 = 0 := by rw [List.getD_eq_getElem?_getD, List.getElem?_eq_none (by omega)]; rfl
    rw [e0]
    clear hn hP e0 hd
    go_enter Tryz.func90, Tryz.ntmps90
    go_wp2
    go_ret
    exact ⟨ret_eq rfl, rfl⟩
theorem Ext.drewN (w : World) (n : Nat) : Ext w (w.drewN n) := ⟨⟨rfl, rfl, rfl, Nat.le_refl _, fun _ _ => rfl⟩, Nat.le_add_right _ _⟩
def cmpN (a b : Nat) : Int := if a < b then -1 else if a = b then 0 else 1
theorem dig_lenB {a : Nat} {n : Nat} (h : L a = n) (hb : n ≤ 500000000) : n ≤ 1000000000 := by omega
set_option maxRecDepth 100000 in
set_option maxHeartbeats 1600000 in
theorem cmpN_any (l m : List Nat) (A B : Option Addr) (n c k d : Nat) (w : World) (hn : l.length = n) (hm : m.length = k) (hnc : n ≤ c) (hkd : k ≤ d) (hcm : n ≤ 1000000000) (hdm : k ≤ 1000000000) (hn0 : n ≤ 500000000) (hk0 : k ≤ 500000000) (hl : OkD l) (hm' : OkD m) (hA : natE.At w A l) (hB : natE.At w B m) :
    Calls Tryz.prog 84 #[.slice A n c, .slice B k d] w fun e w' => e = .returned (.int .i64 (cmpN (val l) (val m))) ∧ Ext w w' := by
  have HS := Lib.hid (short_any A c n l w hn hnc hcm hl hA)
  have HT := Lib.hid (short_any B d k m w hm hkd hdm hm' hB)
  have hA' := dig_at hl hA
  have hB' := dig_at hm' hB
  have hLa : L (val l) ≤ n := by rw [← hn]; exact L_val hl
  have hLb : L (val m) ≤ k := by rw [← hm]; exact L_val hm'
  generalize val l = a at *
  generalize val m = b at *
  obtain ⟨x, hx⟩ : ∃ x, L a = x := ⟨_, rfl⟩
  obtain ⟨y, hy⟩ : ∃ y, L b = y := ⟨_, rfl⟩
  rw [hx] at HS hLa
  rw [hy] at HT hLb
  obtain ⟨r, hr⟩ : ∃ r, cmpN a b = r := ⟨_, rfl⟩
  rw [hr]
  have HX := Lib.hid hx
  have HY := Lib.hid hy
  have HR := Lib.hid hr
  clear hA hB hl hm' hn hm hx hy hr
  go_enter Tryz.func84, Tryz.ntmps84
  go_wp2_with fail
  refine HS.out.mono ?_
  rintro e w1 ⟨rfl, rfl⟩
  go_wp2_with fail
  refine HT.out.mono ?_
  rintro e w1 ⟨rfl, rfl⟩
  by_cases hxy : x = y
  · subst hxy
    have d0 : ((x : Int) != (x : Int)) = false := by simp
    go_wp2_with fail
    go_loopw [5] (fun s wr => ∃ (i : Nat) (t : Int), i ≤ x ∧ t + 1 = i ∧ s = .int .i64 t ∧ Ext w wr ∧ Hid ((dig a).drop i = (dig b).drop i)) (fun s _ => (intOf s + 1).toNat)
    case atStart => exact ⟨x, (x : Int) - 1, Nat.le_refl _, by omega, rfl, Ext.refl _, Lib.hid (by rw [List.drop_of_length_le (by rw [show (dig a).length = x from HX.out]; exact Nat.le_refl _), List.drop_of_length_le (by rw [show (dig b).length = x from HY.out]; exact Nat.le_refl _)])⟩
    case round =>
      obtain ⟨i, t, hi, hti, rfl, hE, HD⟩ := hrel
      by_cases hi0 : i = 0
      · subst hi0
        have ht : t = -1 := by omega
        subst ht
        have hr0 : r = 0 := by
          have h1 := HD.out
          rw [List.drop_zero, List.drop_zero] at h1
          rw [← HR.out, val_inj h1]
          unfold cmpN
          rw [if_neg (Nat.lt_irrefl _), if_pos rfl]
        subst hr0
        go_wp2
        go_ret
        exact ⟨ret_eq rfl, hE⟩
      · obtain ⟨j, rfl⟩ : ∃ j : Nat, t = j := ⟨t.toNat, by omega⟩
        obtain rfl : i = j + 1 := by omega
        have hj : j < x := by omega
        have hjI : (0 ≤ (j : Int)) = True := eq_true (by omega)
        obtain ⟨ba, oa, rfl, hca⟩ := hA' (fun e => by have := HX.out; unfold L at this; rw [e] at this; simp at this; omega)
        obtain ⟨bb, ob, rfl, hcb⟩ := hB' (fun e => by have := HY.out; unfold L at this; rw [e] at this; simp at this; omega)
        have ea := hE.cell (nat_cell hca (getD_some (l := dig a) (i := j) (by rw [show (dig a).length = x from HX.out]; exact hj)))
        have eb := hE.cell (nat_cell hcb (getD_some (l := dig b) (i := j) (by rw [show (dig b).length = x from HY.out]; exact hj)))
        have hlen : (dig a).length = (dig b).length := HX.out.trans HY.out.symm
        have key1 : (dig a).getD j 0 < (dig b).getD j 0 → r = -1 := fun h => by
          have := cmp_law (ok_dig a) (ok_dig b) hlen (by rw [show (dig a).length = x from HX.out]; exact hj) HD.out h
          rw [val_dig, val_dig] at this
          rw [← HR.out]; unfold cmpN; rw [if_pos this]
        have key2 : (dig b).getD j 0 < (dig a).getD j 0 → r = 1 := fun h => by
          have := cmp_law (ok_dig b) (ok_dig a) hlen.symm (by rw [show (dig b).length = x from HY.out]; exact hj) HD.out.symm h
          rw [val_dig, val_dig] at this
          rw [← HR.out]; unfold cmpN; rw [if_neg (by omega), if_neg (by omega)]
        have key3 : (dig a).getD j 0 = (dig b).getD j 0 → Hid ((dig a).drop j = (dig b).drop j) := fun h => Lib.hid (cmp_step (by rw [show (dig a).length = x from HX.out]; exact hj) (by rw [show (dig b).length = x from HY.out]; exact hj) HD.out h)
        generalize (dig a).getD j 0 = p at *
        generalize (dig b).getD j 0 = q at *
        clear hca hcb HD hlen
        rcases Nat.lt_trichotomy p q with h | h | h
        · have := key1 h
          subst this
          have d1 : ((p : Int) < (q : Int)) = True := eq_true (by omega)
          clear key1 key2 key3
          go_wp2_with fail
          go_quiet (fail)
          go_wp2
          go_ret
          exact ⟨ret_eq rfl, hE.trans (Ext.drewN _ _)⟩
        · have h' := key3 h
          subst h
          have d1 : ((p : Int) < (p : Int)) = False := eq_false (by omega)
          have q1 : IntKind.i64.wrap ((j : Int) - 1) = (j : Int) - 1 := IntWalk.i64_in _ (by omega)
          clear key1 key2 key3
          go_wp2_with fail
          go_quiet (fail)
          go_wp2_with fail
          go_quiet (fail)
          go_wp2_with fail
          go_roundw
          case rel => exact ⟨j, (j : Int) - 1, by omega, by omega, rfl, hE.trans (Ext.drewN _ _), h'⟩
          case measure => simp [intOf]
        · have := key2 h
          subst this
          have d1 : ((p : Int) < (q : Int)) = False := eq_false (by omega)
          have d2 : ((q : Int) < (p : Int)) = True := eq_true (by omega)
          clear key1 key2 key3
          go_wp2_with fail
          go_quiet (fail)
          go_wp2_with fail
          go_quiet (fail)
          go_wp2
          go_ret
          exact ⟨ret_eq rfl, (hE.trans (Ext.drewN _ _)).trans (Ext.drewN _ _)⟩
  · have d0 : ((x : Int) != (y : Int)) = true := by simp; omega
    by_cases hlt : x < y
    · have : r = -1 := by
        rw [← HR.out]
        unfold cmpN
        rw [if_pos (len_lt_val (by rw [show (dig a).length = x from HX.out, show (dig b).length = y from HY.out]; exact hlt))]
      subst this
      have d1 : ((x : Int) < (y : Int)) = True := eq_true (by omega)
      go_wp2
      go_ret
      exact ⟨ret_eq rfl, Ext.refl _⟩
    · have : r = 1 := by
        have := len_lt_val (a := b) (b := a) (by rw [show (dig a).length = x from HX.out, show (dig b).length = y from HY.out]; omega)
        rw [← HR.out]
        unfold cmpN
        rw [if_neg (by omega), if_neg (by omega)]
      subst this
      have d1 : ((x : Int) < (y : Int)) = False := eq_false (by omega)
      go_wp2
      go_ret
      exact ⟨ret_eq rfl, Ext.refl _⟩
end Go.Proofs.YtodefmfgoehkhaaGreat
