/- The successor of a point; the reference's DoubleArea; winding numbers in the program and in the reference. -/
import Derived.Test.YthfeamlioiaebaaArea
set_option linter.unusedVariables false
set_option linter.unusedSimpArgs false
namespace Go.Proofs.Ythfeamlioiaebaa
open Go.RowKit Go.Par

set_option maxRecDepth 100000 in
set_option maxHeartbeats 400000 in
theorem next_any (r : List P2) (A : Option Addr) (c n k : Nat) (w : World) (u v : Int) (hn : n = r.length) (hc : n ≤ 17592186044416) (hk : k < n) (hP : PtsAt w A r) (hq : r[(k + 1) % n]? = some (u, v)) :
    Calls Try.prog 60 #[.slice A n c, .int .i64 k] w fun e w' => e = .returned (.agg #[.int .i64 u, .int .i64 v]) ∧ Ext w w' := by
  obtain ⟨j, hj⟩ : ∃ j, j = (k + 1) % n := ⟨_, rfl⟩
  have hmod : j < n := by rw [hj]; exact Nat.mod_lt _ (by omega)
  have w2 := emod_cast k n
  have w4 := tmod_cast k n
  rw [← hj] at w2 w4 hq
  obtain ⟨b, o, rfl, hcell⟩ := hP (fun e => by rw [e] at hq; simp at hq)
  have d0 := (hcell _ _ hq).1
  have d1 := (hcell _ _ hq).2
  have hlt : b < w.heap.size := lt_of_cell d0
  have w3 : ¬ n = 0 := by omega
  clear hcell hq hj hn hP
  go_enter Try.func60, Try.ntmps60
  go_wp2
  exact bodyPost_ret (v := .agg #[.int .i64 u, .int .i64 v]) (by simp [results, Try.results60, go_sem]) rfl ⟨rfl, (Ext.alloc _ _)⟩

set_option maxRecDepth 100000 in
set_option maxHeartbeats 800000 in
theorem rDoubleArea_any (r : List P2) (A : Option Addr) (c n : Nat) (w : World) (hn : n = r.length) (hcc : n ≤ c) (hc : n ≤ 17592186044416) (hP : PtsAt w A r) :
    Calls Try.prog 32 #[.slice A n c] w fun e w' => e = .returned (.int .i64 (areaS r)) ∧ Ext w w' := by
  have HN := Lib.hid hn
  clear hn
  go_enter Try.func32, Try.ntmps32
  go_wp2_with fail
  refine (rvalid_one r A c n _ _ HN.out hcc hc (Box.new _ _ _) (hP.ext (Ext.alloc _ _))).mono ?_
  rintro e w1 ⟨rfl, hE1⟩
  have hE := (Ext.alloc _ _).trans hE1
  cases hv : validL [r]
  · have e0 : areaS r = 0 := by unfold areaS; rw [hv]; rfl
    have E := Lib.hid e0
    clear e0 hE1
    go_wp2
    go_ret
    exact ⟨ret_eq (by rw [E.out]; rfl), hE⟩
  · have e0 : areaS r = sumS (edgesS r) := by unfold areaS; rw [hv]; rfl
    have hr : r.length ≤ 4096 := by
      rw [validL_one, Bool.and_eq_true, decide_eq_true_eq] at hv
      exact hv.1
    have E := Lib.hid e0
    have HR := Lib.hid hr
    clear e0 hE1 hr hv
    go_wp2_with fail
    go_loopw [3, 4] (fun s i wr => ∃ k : Nat, k ≤ n ∧ i = .int .i64 k ∧ s = .int .i64 (sumS ((edgesS r).take k)) ∧ Ext w wr) (fun _ i _ => n - (intOf i).toNat)
    case atStart => exact ⟨0, Nat.zero_le _, rfl, rfl, hE⟩
    case round =>
      obtain ⟨k, hk, rfl, rfl, hj⟩ := hrel
      by_cases hlt : k < n
      · obtain ⟨⟨x, y⟩, hlk⟩ : ∃ q, r[k]? = some q := ⟨_, List.getElem?_eq_getElem (by rw [← HN.out]; exact hlt)⟩
        obtain ⟨⟨u, v⟩, hlk1⟩ : ∃ q, r[(k + 1) % n]? = some q := ⟨_, List.getElem?_eq_getElem (by rw [← HN.out]; exact Nat.mod_lt _ (by omega))⟩
        have hPr := hP.ext hj
        have hnx := fun W (h : Ext wr W) => next_any r A c n k W u v HN.out hc hlt (hPr.ext h) hlk1
        obtain ⟨b, o, rfl, hcell⟩ := hPr (fun e => by rw [e] at hlk; simp at hlk)
        have c0 := (hcell k _ hlk).1
        have c1 := (hcell k _ hlk).2
        have hed := edgesS_at hlk (by rw [← HN.out]; exact hlk1)
        have hst := sumS_take hed
        have hbd := sumS_bd ((edgesS r).take k)
        have hbc := crossS_bd (x, y) (u, v)
        have hl : ((edgesS r).take k).length ≤ 4096 := by
          rw [List.length_take, edgesS_length]
          have := HR.out
          omega
        obtain ⟨s, hs⟩ : ∃ s, s = sumS ((edgesS r).take k) := ⟨_, rfl⟩
        obtain ⟨t, ht⟩ : ∃ t, t = crossS (holdS (x, y)) (holdS (u, v)) := ⟨_, rfl⟩
        have hC := rCross_any x y u v
        rw [← hs] at hbd hst ⊢
        rw [← ht] at hbc hC
        simp only at hst
        rw [← ht] at hst
        have hw : IntKind.i64.wrap (s + t) = s + t := IntWalk.i64_in _ (by omega)
        have HC := Lib.hid hC
        have HST := Lib.hid hst
        have HNX := Lib.hid hnx
        clear hlk hlk1 hcell hed hst hbd hbc hl hs ht hC hnx
        go_wp2_with fail
        apply wp_region_par' 10 (by kernel_rfl) (by kernel_rfl) rfl
        simp only [List.take_succ_cons, List.take_zero, List.drop_succ_cons, List.drop_zero]
        generalize hW : World.drew _ = W
        have hE2 : Ext wr W := by rw [← hW]; exact Ext.drew _
        clear hW
        have e0 := fun z : Later W => z.cell (hE2.cell c0)
        have e1 := fun z : Later W => z.cell (hE2.cell c1)
        clear c0 c1
        iterate 10
          refine parW_step rfl (fun K hK => ?_)
          apply Exists.intro
          refine ⟨fun z => ?_, ?_⟩
          focus
            go_simp
            first
              | rfl
              | exact calls_val (HNX.out _ (hE2.later z))
              | exact calls_val (HC.out _)
          go_simp
          refine hK _ ?_
          clear hK K
        refine parW_end (fun z => ?_)
        have hj2 := hj.trans (hE2.later z)
        clear e0 e1 hw
        go_wp2
        go_roundw
        case rel => exact ⟨k + 1, by omega, by go_num, by rw [HST.out], hj2⟩
        case measure => simp [intOf]; omega
      · have hfin : sumS ((edgesS r).take k) = areaS r := by
          rw [E.out, List.take_of_length_le (by rw [edgesS_length, ← HN.out]; omega)]
        have HF := Lib.hid hfin
        clear hfin
        go_wp2
        go_ret
        exact ⟨ret_eq (by rw [← HF.out]; rfl), hj⟩

/-! ## winding numbers -/
def turnS (p a b : P2) : Int :=
  if a.2 ≤ p.2 ∧ p.2 < b.2 ∧ 0 < orientS a b p then 1 else if b.2 ≤ p.2 ∧ p.2 < a.2 ∧ 0 < orientS b a p then -1 else 0
theorem turnS_bd (p a b : P2) : -1 ≤ turnS p a b ∧ turnS p a b ≤ 1 := by
  unfold turnS
  split
  · omega
  · split <;> omega
set_option maxRecDepth 100000 in
set_option maxHeartbeats 800000 in
theorem rturn_any (a1 a2 b1 b2 p1 p2 : Int) (w : World) :
    Calls Try.prog 59 #[.agg #[.int .i64 a1, .int .i64 a2], .agg #[.int .i64 b1, .int .i64 b2], .agg #[.int .i64 p1, .int .i64 p2]] w fun e w' => e = .returned (.int .i64 (turnS (p1, p2) (a1, a2) (b1, b2))) ∧ Ext w w' := by
  by_cases hA : a2 ≤ p2 ∧ p2 < b2
  · obtain ⟨h1, h2⟩ := hA
    have d1 : decide (a2 ≤ p2) = true := decide_eq_true h1
    have d2 : decide (p2 < b2) = true := decide_eq_true h2
    have d3 : decide (b2 ≤ p2) = false := decide_eq_false (by omega)
    have e : turnS (p1, p2) (a1, a2) (b1, b2) = if 0 < orientS (a1, a2) (b1, b2) (p1, p2) then 1 else 0 := by
      unfold turnS
      simp only [h1, h2, true_and]
      rw [if_neg (c := b2 ≤ p2 ∧ _) (by omega)]
    rw [e]
    clear e
    go_enter Try.func59, Try.ntmps59
    go_wp2_with fail
    refine (rOrient_any _ _ _ _ _ _ _).mono ?_
    rintro e w1 ⟨rfl, hE⟩
    have B3 := (((Box.new _ _ _).alloc _).alloc _).ext hE
    have B4 := (Box.at1.alloc _).ext hE
    have B5 := Box.at2.ext hE
    have hE0 := (((Ext.alloc _ _).trans (Ext.alloc _ _)).trans (Ext.alloc _ _)).trans hE
    clear hE
    have c3 := B3.cell; have c4 := B4.cell; have c5 := B5.cell
    by_cases hs : 0 < orientS (a1, a2) (b1, b2) (p1, p2)
    · go_wp2
      go_ret
      exact ⟨rfl, hE0⟩
    · go_wp2
      go_ret
      exact ⟨rfl, hE0⟩
  · by_cases hB : b2 ≤ p2 ∧ p2 < a2
    · obtain ⟨h1, h2⟩ := hB
      have d1 : decide (b2 ≤ p2) = true := decide_eq_true h1
      have d2 : decide (p2 < a2) = true := decide_eq_true h2
      have d3 : decide (a2 ≤ p2) = false := decide_eq_false (by omega)
      have e : turnS (p1, p2) (a1, a2) (b1, b2) = if 0 < orientS (b1, b2) (a1, a2) (p1, p2) then -1 else 0 := by
        unfold turnS
        simp only [h1, h2, true_and]
        rw [if_neg (c := a2 ≤ p2 ∧ _) (by omega)]
      rw [e]
      clear e hA
      go_enter Try.func59, Try.ntmps59
      go_wp2_with fail
      refine (rOrient_any _ _ _ _ _ _ _).mono ?_
      rintro e w1 ⟨rfl, hE⟩
      have hE0 := (((Ext.alloc _ _).trans (Ext.alloc _ _)).trans (Ext.alloc _ _)).trans hE
      clear hE
      by_cases hs : 0 < orientS (b1, b2) (a1, a2) (p1, p2)
      · go_wp2
        go_ret
        exact ⟨rfl, hE0⟩
      · go_wp2
        go_ret
        exact ⟨rfl, hE0⟩
    · have e : turnS (p1, p2) (a1, a2) (b1, b2) = 0 := by
        unfold turnS
        rw [if_neg (by omega), if_neg (by omega)]
      rw [e]
      clear e
      go_enter Try.func59, Try.ntmps59
      go_wp2_with fail
      all_goals first
        | (exfalso; omega)
        | (go_ret; exact ⟨rfl, ((Ext.alloc _ _).trans (Ext.alloc _ _)).trans (Ext.alloc _ _)⟩)

def windE (p : P2) (l : List (P2 × P2)) : Int := (l.map fun e => turnS p e.1 e.2).sum
def windR (p : P2) (r : List P2) : Int := windE p (edgesS r)
def windSum (p : P2) (L : List (List P2)) : Int := (L.map (windR p)).sum
def windL (L : List (List P2)) (p : P2) : Int := if validL L && validS p then windSum p L else 0
theorem windE_bd (p : P2) (l : List (P2 × P2)) : -(l.length : Int) ≤ windE p l ∧ windE p l ≤ l.length := by
  induction l with
  | nil => simp [windE]
  | cons e l ih =>
    have := turnS_bd p e.1 e.2
    unfold windE at *
    simp only [List.map_cons, List.sum_cons, List.length_cons]
    omega
theorem windR_bd (p : P2) (r : List P2) : -(r.length : Int) ≤ windR p r ∧ windR p r ≤ r.length := by
  have := windE_bd p (edgesS r)
  rw [edgesS_length] at this
  exact this
theorem windSum_bd (p : P2) (L : List (List P2)) : -(lenS L : Int) ≤ windSum p L ∧ windSum p L ≤ lenS L := by
  induction L with
  | nil => simp [windSum, lenS]
  | cons r L ih =>
    have := windR_bd p r
    unfold windSum lenS at *
    simp only [List.map_cons, List.sum_cons]
    omega
theorem windE_take {p : P2} {l : List (P2 × P2)} {k : Nat} {e : P2 × P2} (h : l[k]? = some e) : windE p (l.take (k + 1)) = windE p (l.take k) + turnS p e.1 e.2 := by
  unfold windE
  rw [List.take_add_one, h]
  simp
theorem windSum_take {p : P2} {L : List (List P2)} {k : Nat} {r : List P2} (h : L[k]? = some r) : windSum p (L.take (k + 1)) = windSum p (L.take k) + windR p r := by
  unfold windSum
  rw [List.take_add_one, h]
  simp
theorem validL_len {L : List (List P2)} (h : validL L = true) : lenS L ≤ 4096 := by
  unfold validL at h
  rw [Bool.and_eq_true, decide_eq_true_eq] at h
  exact h.1

set_option maxRecDepth 100000 in
set_option maxHeartbeats 1600000 in
theorem rWinding_any (L : List (List P2)) (A : Option Addr) (c : Nat) (px py : Int) (w : World) (hc : L.length ≤ 17592186044416) (hL : RingsAt w A L) :
    Calls Try.prog 22 #[.slice A L.length c, .agg #[.int .i64 px, .int .i64 py]] w fun e w' => e = .returned (.int .i64 (windL L (px, py))) ∧ Ext w w' := by
  have hV := fun W (h : Ext w W) => rValid_any L A c W hc (hL.ext h)
  obtain ⟨n, hn⟩ : ∃ n, n = L.length := ⟨_, rfl⟩
  rw [← hn] at hV ⊢
  have HN := Lib.hid hn
  rw [← hn] at hc
  have HV := Lib.hid hV
  clear hn hV
  go_enter Try.func22, Try.ntmps22
  go_wp2_with fail
  refine (HV.out _ (Ext.alloc _ _)).mono ?_
  rintro e w1 ⟨rfl, hE1⟩
  have B3 := (Box.new _ _ _).ext hE1
  have hE := (Ext.alloc _ _).trans hE1
  clear hE1
  have c3 := B3.cell
  cases hv : validL L
  · have e0 : windL L (px, py) = 0 := by unfold windL; rw [hv]; rfl
    have E := Lib.hid e0
    clear e0
    go_wp2
    go_ret
    exact ⟨ret_eq (by rw [E.out]; rfl), hE⟩
  · go_wp2_with fail
    refine (rvalid_any _ _ _).mono ?_
    rintro e w2 ⟨rfl, hE2⟩
    have B3' := B3.ext hE2
    have hE' := hE.trans hE2
    clear c3 hE2 hE B3
    have c3 := B3'.cell
    cases hp : validS (px, py)
    · have e0 : windL L (px, py) = 0 := by unfold windL; rw [hp, Bool.and_false]; rfl
      have E := Lib.hid e0
      clear e0
      go_wp2
      go_ret
      exact ⟨ret_eq (by rw [E.out]; rfl), hE'⟩
    · have e0 : windL L (px, py) = windSum (px, py) L := by unfold windL; rw [hp, hv]; rfl
      have E := Lib.hid e0
      have hlen := validL_len hv
      have HLEN := Lib.hid hlen
      clear e0 hv hp hlen c3
      go_wp2_with fail
      go_loopw [5, 6, 7] (fun s i _ wr => ∃ k : Nat, k ≤ n ∧ i = .int .i64 k ∧ s = .int .i64 (windSum (px, py) (L.take k)) ∧ Ext w wr ∧ Box wr w.heap.size 24 #[.int .i64 px, .int .i64 py]) (fun _ i _ _ => n - (intOf i).toNat)
      case atStart => exact ⟨0, Nat.zero_le _, rfl, rfl, hE', B3'⟩
      case round =>
        obtain ⟨k, hk, rfl, rfl, hj, B⟩ := hrel
        by_cases hlt : k < n
        · obtain ⟨r, hlk⟩ : ∃ r, L[k]? = some r := ⟨_, List.getElem?_eq_getElem (by rw [← HN.out]; exact hlt)⟩
          obtain ⟨b, o, rfl, hcell⟩ := hL (fun e => by rw [e] at hlk; simp at hlk)
          obtain ⟨v, c0, A', c', rfl, hlc, hlb, hP⟩ := hcell k r hlk
          have c1 := hj.cell c0
          have hP1 := hP.ext hj
          have hst := windSum_take (p := (px, py)) hlk
          have hb1 := windSum_bd (px, py) (L.take k)
          have hb2 := lenS_take_succ hlk
          have hb3 := lenS_take_le L (k + 1)
          have hb4 := HLEN.out
          obtain ⟨s, hs⟩ : ∃ s, s = windSum (px, py) (L.take k) := ⟨_, rfl⟩
          rw [← hs] at hst hb1 ⊢
          have hbs : -4096 ≤ s ∧ s ≤ 4096 := by omega
          have hrl : r.length ≤ 4096 := by omega
          obtain ⟨hbs1, hbs2⟩ := hbs
          have HST := Lib.hid hst
          obtain ⟨m, hm⟩ : ∃ m, m = r.length := ⟨_, rfl⟩
          rw [← hm] at c1 hlb hlc hrl
          have HM := Lib.hid hm
          clear hlk hcell hst hb1 hb2 hb3 hb4 hs hm c0 hP
          go_wp2_with fail
          obtain ⟨wo, hwo⟩ : ∃ wo : World, wo = wr := ⟨_, rfl⟩
          rw [← hwo]
          rw [← hwo] at c1 hP1 hj B
          clear hwo wr
          go_loopw [5, 7] (fun q j wr => ∃ t : Nat, t ≤ m ∧ j = .int .i64 t ∧ q = .int .i64 (s + windE (px, py) ((edgesS r).take t)) ∧ Ext wo wr) (fun _ j _ => m - (intOf j).toNat)
          case atStart => exact ⟨0, Nat.zero_le _, rfl, by simp [windE], Ext.refl _⟩
          case round =>
            obtain ⟨t, ht, rfl, rfl, hE1⟩ := hrel
            have d1 := hE1.cell c1
            by_cases htm : t < m
            · obtain ⟨⟨x, y⟩, hlk⟩ : ∃ q, r[t]? = some q := ⟨_, List.getElem?_eq_getElem (by rw [← HM.out]; exact htm)⟩
              obtain ⟨⟨u, v⟩, hlk1⟩ : ∃ q, r[(t + 1) % m]? = some q := ⟨_, List.getElem?_eq_getElem (by rw [← HM.out]; exact Nat.mod_lt _ (by omega))⟩
              have hPr := hP1.ext hE1
              have hnx := fun W (h : Ext wr W) => next_any r A' c' m t W u v HM.out hlb htm (hPr.ext h) hlk1
              obtain ⟨b', o', rfl, hcl⟩ := hPr (fun e => by rw [e] at hlk; simp at hlk)
              have a0 := (hcl t _ hlk).1
              have a1 := (hcl t _ hlk).2
              have hed := edgesS_at hlk (by rw [← HM.out]; exact hlk1)
              have hst := windE_take (p := (px, py)) hed
              have hbd := windE_bd (px, py) ((edgesS r).take t)
              have hbc := turnS_bd (px, py) (x, y) (u, v)
              have hl : ((edgesS r).take t).length ≤ 4096 := by
                rw [List.length_take, edgesS_length, ← HM.out]
                omega
              obtain ⟨q, hq⟩ : ∃ q, q = windE (px, py) ((edgesS r).take t) := ⟨_, rfl⟩
              obtain ⟨g, hg⟩ : ∃ g, g = turnS (px, py) (x, y) (u, v) := ⟨_, rfl⟩
              have hC := rturn_any x y u v px py
              rw [← hq] at hbd hst ⊢
              rw [← hg] at hbc hC
              simp only at hst
              rw [← hg] at hst
              have hw : IntKind.i64.wrap (s + q + g) = s + q + g := IntWalk.i64_in _ (by omega)
              have HC := Lib.hid hC
              have HS2 := Lib.hid hst
              have HNX := Lib.hid hnx
              have B1 := B.ext hE1
              clear hlk hlk1 hcl hed hst hbd hbc hl hq hg hC hnx
              go_wp2_with fail
              apply wp_region_par' 17 (by kernel_rfl) (by kernel_rfl) rfl
              simp only [List.take_succ_cons, List.take_zero, List.drop_succ_cons, List.drop_zero]
              generalize hW : World.drew _ = W
              have hE2 : Ext wr W := by rw [← hW]; exact Ext.drew _
              clear hW
              have e0 := fun z : Later W => z.cell (hE2.cell a0)
              have e1 := fun z : Later W => z.cell (hE2.cell a1)
              have e2 := fun z : Later W => z.cell (hE2.cell d1)
              have e3 := (B1.ext hE2).lcell
              clear a0 a1 d1
              iterate 17
                refine parW_step rfl (fun K hK => ?_)
                apply Exists.intro
                refine ⟨fun z => ?_, ?_⟩
                focus
                  go_simp
                  first
                    | rfl
                    | exact calls_val (HNX.out _ (hE2.later z))
                    | exact calls_val (HC.out _)
                go_simp
                refine hK _ ?_
                clear hK K
              refine parW_end (fun z => ?_)
              have hE3 := hE1.trans (hE2.later z)
              clear e0 e1 e2 e3 hw
              go_wp2
              go_roundw
              case rel => exact ⟨t + 1, by omega, by go_num, by rw [HS2.out, Int.add_assoc], hE3⟩
              case measure => simp [intOf]; omega
            · have hfin : windE (px, py) ((edgesS r).take t) = windR (px, py) r := by
                rw [List.take_of_length_le (by rw [edgesS_length, ← HM.out]; omega)]
                rfl
              rw [hfin]
              clear hfin
              go_wp2
              go_roundw
              case rel => exact ⟨k + 1, by omega, by go_num, by rw [HST.out], hj.trans hE1, B.ext hE1⟩
              case measure => simp [intOf]; omega
        · have hfin : windSum (px, py) (L.take k) = windL L (px, py) := by
            rw [E.out, List.take_of_length_le (by rw [← HN.out]; omega)]
          rw [hfin]
          clear hfin
          go_wp2
          go_ret
          exact ⟨rfl, hj⟩
end Go.Proofs.Ythfeamlioiaebaa
