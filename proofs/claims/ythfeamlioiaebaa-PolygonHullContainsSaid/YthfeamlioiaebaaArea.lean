/- few; each; DoubleArea in the program and in the reference. -/
import Derived.Test.YthfeamlioiaebaaValid
set_option linter.unusedVariables false
set_option linter.unusedSimpArgs false
namespace Go.Proofs.Ythfeamlioiaebaa
open Go.RowKit Go.Par

def fewL (L : List (List P2)) : Bool := decide (L.length ≤ 40) && decide (lenS L ≤ 400)
theorem fewL_big {L : List (List P2)} {k : Nat} (h : 400 < lenS (L.take k)) : fewL L = false := by
  have := lenS_take_le L k
  unfold fewL
  rw [decide_eq_false (p := lenS L ≤ 400) (by omega), Bool.and_false]

set_option maxRecDepth 100000 in
set_option maxHeartbeats 800000 in
theorem few_any (L : List (List P2)) (A : Option Addr) (c : Nat) (w : World) (hc : L.length ≤ 17592186044416) (hL : RingsAt w A L) :
    Calls Try.prog 14 #[.slice A L.length c] w fun e w' => e = .returned (.bool (fewL L)) ∧ Ext w w' := by
  obtain ⟨n, hn⟩ : ∃ n, n = L.length := ⟨_, rfl⟩
  rw [← hn]
  have HN := Lib.hid hn
  rw [← hn] at hc
  clear hn
  go_enter Try.func14, Try.ntmps14
  go_wp2_with fail
  go_loopw [3, 4] (fun s i wr => ∃ k t : Nat, k ≤ n ∧ i = .int .i64 k ∧ s = .int .i64 t ∧ t ≤ 801 ∧ Ext w wr ∧ (t ≤ 400 → t = lenS (L.take k)) ∧ (400 < t → 400 < lenS (L.take k))) (fun _ i _ => n - (intOf i).toNat)
  case atStart => exact ⟨0, 0, Nat.zero_le _, rfl, rfl, by omega, Ext.refl _, fun _ => rfl, fun h => by omega⟩
  case round =>
    obtain ⟨k, t, hk, rfl, rfl, ht, hE, hs1, hs2⟩ := hrel
    have HS1 := Lib.hid hs1
    have HS2 := Lib.hid hs2
    clear hs1 hs2
    by_cases hgo : k < n ∧ t ≤ 400
    · obtain ⟨hlt, htl⟩ := hgo
      obtain ⟨r, hlk⟩ : ∃ r, L[k]? = some r := ⟨_, List.getElem?_eq_getElem (by rw [← HN.out]; exact hlt)⟩
      obtain ⟨b, o, rfl, hcell⟩ := hL (fun e => by rw [e] at hlk; simp at hlk)
      obtain ⟨v, c0, A', c', rfl, hlc, hlb, hP⟩ := hcell k r hlk
      have c1 := hE.cell c0
      have hsum := lenS_take_succ hlk
      have hst := HS1.out htl
      rw [← hst] at hsum
      have HL := Lib.hid hlk
      have HS := Lib.hid hsum
      obtain ⟨m, hm⟩ : ∃ m, m = r.length := ⟨_, rfl⟩
      rw [← hm] at c1 hlb
      have HM := Lib.hid hm
      clear hlk hcell hsum c0 hP hm hlc hst
      have d1 : decide ((k : Int) < (n : Int)) = true := by rw [decide_eq_true_eq]; omega
      have d2 : decide ((t : Int) ≤ 400) = true := by rw [decide_eq_true_eq]; omega
      by_cases hm4 : m ≤ 401
      · have hmin : min (m : Int) 401 = m := by omega
        go_wp2
        go_roundw
        case rel =>
          refine ⟨k + 1, t + m, by omega, by go_num, by first | go_num | (simp; omega), by omega, hE, fun h => ?_, fun h => ?_⟩
          · rw [HS.out, ← HM.out]
          · rw [HS.out, ← HM.out]; exact h
        case measure => simp [intOf]; omega
      · have hmin : min (m : Int) 401 = 401 := by omega
        go_wp2
        go_roundw
        case rel =>
          refine ⟨k + 1, t + 401, by omega, by go_num, by first | go_num | (simp; omega), by omega, hE, fun h => ?_, fun h => ?_⟩
          · omega
          · rw [HS.out, ← HM.out]; omega
        case measure => simp [intOf]; omega
    · by_cases hlt : k < n
      · have htb : 400 < t := by omega
        have d1 : decide ((k : Int) < (n : Int)) = true := by rw [decide_eq_true_eq]; omega
        have d2 : decide ((t : Int) ≤ 400) = false := by rw [decide_eq_false_iff_not]; omega
        have e : fewL L = false := fewL_big (HS2.out htb)
        have E := Lib.hid e
        clear e
        go_wp2
        all_goals
          go_ret
          exact ⟨ret_eq (by rw [E.out]; first | rfl | (simp; omega)), hE⟩
      · have d1 : decide ((k : Int) < (n : Int)) = false := by rw [decide_eq_false_iff_not]; omega
        have hkn : k = L.length := by rw [← HN.out]; omega
        have e : fewL L = (decide ((n : Int) ≤ 40) && decide ((t : Int) ≤ 400)) := by
          have h1 := HS1.out
          have h2 := HS2.out
          rw [hkn, List.take_length] at h1 h2
          unfold fewL
          rw [← HN.out]
          rw [Bool.eq_iff_iff]
          simp only [Bool.and_eq_true, decide_eq_true_eq]
          omega
        clear hkn
        have E := Lib.hid e
        clear e
        go_wp2
        all_goals
          go_ret
          exact ⟨ret_eq (by rw [E.out]; first | rfl | (simp; omega)), hE⟩

/-! ## the edges of a ring -/
def edgesS (r : List P2) : List (P2 × P2) := r.zip (r.drop 1 ++ r.take 1)
theorem edgesS_length (r : List P2) : (edgesS r).length = r.length := by
  unfold edgesS
  rw [List.length_zip, List.length_append, List.length_drop, List.length_take]
  omega
theorem edgesS_at {r : List P2} {k : Nat} {p q : P2} (hp : r[k]? = some p) (hq : r[(k + 1) % r.length]? = some q) : (edgesS r)[k]? = some (p, q) := by
  have hk := (List.getElem?_eq_some_iff.1 hp).1
  unfold edgesS
  rw [List.getElem?_zip_eq_some]
  refine ⟨hp, ?_⟩
  by_cases h : k + 1 < r.length
  · rw [Nat.mod_eq_of_lt h] at hq
    rw [List.getElem?_append_left (by rw [List.length_drop]; omega), List.getElem?_drop, Nat.add_comm]
    exact hq
  · have hk1 : k + 1 = r.length := by omega
    rw [hk1, Nat.mod_self] at hq
    rw [List.getElem?_append_right (by rw [List.length_drop]; omega), List.length_drop, show k - (r.length - 1) = 0 by omega, List.getElem?_take, if_pos (by omega)]
    exact hq

theorem areaC_call (args : Array Value) (w : World) : (callFunc 63 args).run Try.prog w = .ok (.enter 63 args) w := by kernel_rfl
set_option maxHeartbeats 400000 in
theorem areaC_any (x y u v s : Int) (b : Nat) (w : World) (hB : Box w b 3 #[.int .i64 s]) (h1 : -1000000000000000000 ≤ s) (h2 : s ≤ 1000000000000000000) :
    Calls Try.prog 63 #[.agg #[.int .i64 x, .int .i64 y], .agg #[.int .i64 u, .int .i64 v], .pointer (some ⟨b, 0, none⟩)] w fun e w' =>
      e = .returned (.tuple #[]) ∧ Box w' b 3 #[.int .i64 (s + crossS (holdS (x, y)) (holdS (u, v)))] ∧ But b w w' := by
  obtain ⟨t, ht⟩ : ∃ t, t = crossS (holdS (x, y)) (holdS (u, v)) := ⟨_, rfl⟩
  have hC := Cross_any x y u v
  rw [← ht] at hC ⊢
  have hb : -4398046511104 ≤ t ∧ t ≤ 4398046511104 := by
    have b1 := mul_bd (a := 1048576) (b := 1048576) (by decide) (by decide) (heldS_lo x) (heldS_hi x) (heldS_lo v) (heldS_hi v)
    have b2 := mul_bd (a := 1048576) (b := 1048576) (by decide) (by decide) (heldS_lo y) (heldS_hi y) (heldS_lo u) (heldS_hi u)
    rw [ht]
    unfold crossS holdS
    simp only
    omega
  clear ht
  obtain ⟨hb1, hb2⟩ := hb
  have HC := Lib.hid hC
  clear hC
  have hlt := hB.lt
  go_enter Try.func63, Try.ntmps63
  go_wp2_with fail
  apply wp_region_par' 5 (by kernel_rfl) (by kernel_rfl) rfl
  simp only [List.take_succ_cons, List.take_zero, List.drop_succ_cons, List.drop_zero]
  generalize hW : World.drew _ = W
  have hE : Ext w W := by rw [← hW]; exact ((Ext.alloc _ _).trans (Ext.alloc _ _)).trans (Ext.drew _)
  have b3 : Box W w.heap.size 24 #[.int .i64 x, .int .i64 y] := by rw [← hW]; exact ((Box.new _ _ _).alloc _).drew
  have b4 : Box W (w.heap.size + 1) 24 #[.int .i64 u, .int .i64 v] := by rw [← hW]; exact (Box.newAt (by simp)).drew
  clear hW
  have b2 := hB.ext hE
  have c2 := b2.lcell; have c3 := b3.lcell; have c4 := b4.lcell; have f2 := b2.lfrozen
  iterate 5
    refine parW_step rfl (fun K hK => ?_)
    apply Exists.intro
    refine ⟨fun z => ?_, ?_⟩
    focus
      go_simp
      first
        | rfl
        | exact calls_val (HC.out _)
    go_simp
    refine hK _ ?_
    clear hK K
  refine parW_end (fun z => ?_)
  go_wp2
  go_end0
  refine ⟨rfl, ?_, (But.of_ext (hE.later z)).set _ _⟩
  have := (b2.later z).set 0 (.int .i64 (s + t))
  simpa using this

set_option maxRecDepth 100000 in
set_option maxHeartbeats 800000 in
/-- each edge of a ring is handed to a closure: J k holds behind the first k of them -/
theorem each_any (f : FuncId) (cap : Array Value) (r : List P2) (A : Option Addr) (c : Nat) (w : World) (J : Nat → World → Prop) (hc : r.length ≤ 17592186044416)
    (hcall : ∀ args w, (callFunc f args).run Try.prog w = .ok (.enter f args) w) (h0 : J 0 w) (hJ : ∀ k w1, J k w1 → PtsAt w1 A r)
    (hf : ∀ k w1 w2 x y u v, J k w1 → Ext w1 w2 → (edgesS r)[k]? = some ((x, y), (u, v)) →
      Calls Try.prog f (#[.agg #[.int .i64 x, .int .i64 y], .agg #[.int .i64 u, .int .i64 v]] ++ cap) w2 fun e w' => e = .returned (.tuple #[]) ∧ J (k + 1) w') :
    Calls Try.prog 57 #[.slice A r.length c, .func (.func f) #[] cap] w fun e w' => e = .returned (.tuple #[]) ∧ J r.length w' := by
  obtain ⟨n, hn⟩ : ∃ n, n = r.length := ⟨_, rfl⟩
  rw [← hn]
  have HN := Lib.hid hn
  rw [← hn] at hc
  clear hn
  have HF := Lib.hid hf
  have HJ := Lib.hid hJ
  have HC := Lib.hid hcall
  clear hf hJ hcall
  go_enter Try.func57, Try.ntmps57
  go_wp2_with fail
  go_loopw [4, 5, 8] (fun _ _ i wr => ∃ k : Nat, k ≤ n ∧ i = .int .i64 k ∧ J k wr) (fun _ _ i _ => n - (intOf i).toNat)
  case atStart => exact ⟨0, Nat.zero_le _, rfl, h0⟩
  case round =>
    obtain ⟨k, hk, rfl, hj⟩ := hrel
    by_cases hlt : k < n
    · obtain ⟨j, hjm⟩ : ∃ j, j = (k + 1) % n := ⟨_, rfl⟩
      have hmod : j < n := by rw [hjm]; exact Nat.mod_lt _ (by omega)
      have w2 := emod_cast k n
      have w4 := tmod_cast k n
      rw [← hjm] at w2 w4
      obtain ⟨⟨x, y⟩, hlk⟩ : ∃ q, r[k]? = some q := ⟨_, List.getElem?_eq_getElem (by rw [← HN.out]; exact hlt)⟩
      obtain ⟨⟨u, v⟩, hlk1⟩ : ∃ q, r[j]? = some q := ⟨_, List.getElem?_eq_getElem (by rw [← HN.out]; exact hmod)⟩
      have hP := HJ.out k wr hj
      obtain ⟨b, o, rfl, hcell⟩ := hP (fun e => by rw [e] at hlk; simp at hlk)
      have c0 := (hcell k _ hlk).1
      have c1 := (hcell k _ hlk).2
      have d0 := (hcell _ _ hlk1).1
      have d1 := (hcell _ _ hlk1).2
      have hed := edgesS_at hlk (by rw [← HN.out, ← hjm]; exact hlk1)
      have HE := Lib.hid hed
      clear hlk hlk1 hcell hed hP hjm
      go_wp2_with fail
      apply wp_region_par' 10 (by kernel_rfl) (by kernel_rfl) rfl
      simp only [List.take_succ_cons, List.take_zero, List.drop_succ_cons, List.drop_zero]
      generalize hW : World.drew _ = W
      have hE : Ext wr W := by rw [← hW]; exact (Ext.alloc _ _).trans (Ext.drew _)
      have b5 : Box W wr.heap.size 24 #[.int .i64 x, .int .i64 y] := by rw [← hW]; exact (Box.new wr _ _).drew
      clear hW
      have hE' := hE
      have e0 := fun z : Later W => z.cell (hE.cell d0)
      have e1 := fun z : Later W => z.cell (hE.cell d1)
      have c5 := b5.lcell
      have w1 := wrap_add_one hlt hc
      have w3 : ¬ n = 0 := by omega
      clear c0 c1 d0 d1
      iterate 10
        refine parW_step rfl (fun K hK => ?_)
        apply Exists.intro
        refine ⟨fun z => ?_, ?_⟩
        focus
          go_simp
          first
            | rfl
            | fail
        go_simp
        refine hK _ ?_
        clear hK K
      refine parW_end (fun z => ?_)
      clear w1 w2 w3 w4 e0 e1 c5
      have hcc := HC.out
      go_wp2_with fail
      refine (HF.out k _ _ x y u v hj (hE.later z) HE.out).mono ?_
      rintro e w1 ⟨rfl, hj1⟩
      clear hcc
      go_wp2
      go_roundw
      case rel => exact ⟨k + 1, by omega, by go_num, hj1⟩
      case measure => simp [intOf]; omega
    · have hfin : J n wr := by rw [show n = k by omega]; exact hj
      go_wp2
      go_end0
      exact ⟨rfl, hfin⟩

def sumS (l : List (P2 × P2)) : Int := (l.map fun e => crossS (holdS e.1) (holdS e.2)).sum
def areaS (r : List P2) : Int := if validL [r] then sumS (edgesS r) else 0
theorem crossS_bd (p q : P2) : -4398046511104 ≤ crossS (holdS p) (holdS q) ∧ crossS (holdS p) (holdS q) ≤ 4398046511104 := by
  have b1 := mul_bd (a := 1048576) (b := 1048576) (by decide) (by decide) (heldS_lo p.1) (heldS_hi p.1) (heldS_lo q.2) (heldS_hi q.2)
  have b2 := mul_bd (a := 1048576) (b := 1048576) (by decide) (by decide) (heldS_lo p.2) (heldS_hi p.2) (heldS_lo q.1) (heldS_hi q.1)
  unfold crossS holdS
  simp only
  omega
theorem sumS_bd (l : List (P2 × P2)) : -(4398046511104 * (l.length : Int)) ≤ sumS l ∧ sumS l ≤ 4398046511104 * (l.length : Int) := by
  induction l with
  | nil => simp [sumS]
  | cons e l ih =>
    have := crossS_bd e.1 e.2
    unfold sumS at *
    simp only [List.map_cons, List.sum_cons, List.length_cons]
    omega
theorem sumS_take {l : List (P2 × P2)} {k : Nat} {e : P2 × P2} (h : l[k]? = some e) : sumS (l.take (k + 1)) = sumS (l.take k) + crossS (holdS e.1) (holdS e.2) := by
  unfold sumS
  rw [List.take_add_one, h]
  simp
theorem validL_one {r : List P2} : validL [r] = (decide (r.length ≤ 4096) && r.all validS) := by simp [validL, lenS]
theorem RingsAt.one {w : World} {b : Nat} {t : TypeId} {A : Option Addr} {c : Nat} {r : List P2} (hB : Box w b t #[.slice A r.length c]) (hc : r.length ≤ c) (hl : r.length ≤ 17592186044416) (hP : PtsAt w A r) :
    RingsAt w (some ⟨b, 0, none⟩) [r] := fun _ => ⟨b, 0, rfl, fun i q hq => by
  match i, hq with
  | 0, hq =>
    have : r = q := by simpa using hq
    subst this
    exact ⟨_, hB.cell 0, A, c, rfl, hc, hl, hP⟩⟩

theorem valid_one (r : List P2) (A : Option Addr) (c n b : Nat) (w : World) (hn : n = r.length) (hcc : n ≤ c) (hc : n ≤ 17592186044416) (hB : Box w b 38 #[.slice A n c]) (hP : PtsAt w A r) :
    Calls Try.prog 27 #[.slice (some ⟨b, 0, none⟩) 1 1] w fun e w' => e = .returned (.bool (validL [r])) ∧ Ext w w' := by
  subst hn
  exact Valid_any [r] (some ⟨b, 0, none⟩) 1 w (by simp) (RingsAt.one hB hcc hc hP)
theorem rvalid_one (r : List P2) (A : Option Addr) (c n b : Nat) (w : World) (hn : n = r.length) (hcc : n ≤ c) (hc : n ≤ 17592186044416) (hB : Box w b 38 #[.slice A n c]) (hP : PtsAt w A r) :
    Calls Try.prog 31 #[.slice (some ⟨b, 0, none⟩) 1 1] w fun e w' => e = .returned (.bool (validL [r])) ∧ Ext w w' := by
  subst hn
  exact rValid_any [r] (some ⟨b, 0, none⟩) 1 w (by simp) (RingsAt.one hB hcc hc hP)

/-- the sum over the first k edges, in block b -/
def AreaJ (w : World) (b : Nat) (r : List P2) (k : Nat) (W : World) : Prop := Box W b 3 #[.int .i64 (sumS ((edgesS r).take k))] ∧ Ext w W
set_option maxRecDepth 100000 in
set_option maxHeartbeats 800000 in
theorem DoubleArea_any (r : List P2) (A : Option Addr) (c n : Nat) (w : World) (hn : n = r.length) (hcc : n ≤ c) (hc : n ≤ 17592186044416) (hP : PtsAt w A r) :
    Calls Try.prog 28 #[.slice A n c] w fun e w' => e = .returned (.int .i64 (areaS r)) ∧ Ext w w' := by
  have HN := Lib.hid hn
  clear hn
  go_enter Try.func28, Try.ntmps28
  go_wp2_with fail
  refine (valid_one r A c n _ _ HN.out hcc hc (Box.new _ _ _) (hP.ext (Ext.alloc _ _))).mono ?_
  rintro e w1 ⟨rfl, hE1⟩
  have hE := (Ext.alloc _ _).trans hE1
  cases hv : validL [r]
  · have e0 : areaS r = 0 := by unfold areaS; rw [hv]; rfl
    have E := Lib.hid e0
    clear e0 hE1
    go_wp2
    go_ret
    exact ⟨ret_eq (by rw [E.out]; rfl), hE⟩
  · have e0 : areaS r = sumS (edgesS r) := by unfold areaS; rw [hv]; rfl
    have hr : r.length ≤ 4096 := by
      rw [validL_one, Bool.and_eq_true, decide_eq_true_eq] at hv
      exact hv.1
    have E := Lib.hid e0
    have HR := Lib.hid hr
    clear e0 hE1 hr hv
    have hsz := hE.size
    go_wp2_with fail
    have hN := HN.out
    subst hN
    refine (each_any 63 #[.pointer (some ⟨w1.heap.size, 0, none⟩)] r A c _ (AreaJ w w1.heap.size r) hc areaC_call ?_ ?_ ?_).mono ?_
    · exact ⟨Box.new _ _ _, hE.trans (Ext.alloc _ _)⟩
    · exact fun k W hj => hP.ext hj.2
    · rintro k W1 W2 x y u v ⟨hB, hE1⟩ hE2 hed
      have hbd := sumS_bd ((edgesS r).take k)
      have hl : ((edgesS r).take k).length ≤ 4096 := by
        rw [List.length_take, edgesS_length]
        have := HR.out
        omega
      refine (areaC_any x y u v _ w1.heap.size W2 (hB.ext hE2) (by omega) (by omega)).mono ?_
      rintro e w' ⟨rfl, hB', hbut⟩
      refine ⟨rfl, ?_, (hE1.trans hE2).but hbut hsz⟩
      rw [sumS_take hed]
      exact hB'
    · rintro e w2 ⟨rfl, hB, hE2⟩
      rw [← edgesS_length, List.take_length, ← E.out] at hB
      have cB := hB.cell
      go_wp2
      go_ret
      exact ⟨rfl, hE2⟩
end Go.Proofs.Ythfeamlioiaebaa
