/- polygon.WindingNumber. -/
import Derived.Test.YthfeamlioiaebaaWind
set_option linter.unusedVariables false
set_option linter.unusedSimpArgs false
namespace Go.Proofs.Ythfeamlioiaebaa
open Go.RowKit Go.Par

theorem windC_call (args : Array Value) (w : World) : (callFunc 55 args).run Try.prog w = .ok (.enter 55 args) w := by kernel_rfl
set_option maxRecDepth 100000 in
set_option maxHeartbeats 1600000 in
theorem windC_any (a1 a2 b1 b2 p1 p2 s : Int) (bp bn : Nat) (w : World) (hp : Box w bp 24 #[.int .i64 p1, .int .i64 p2]) (hn : Box w bn 3 #[.int .i64 s]) (hs1 : -1000000 ≤ s) (hs2 : s ≤ 1000000) :
    Calls Try.prog 55 #[.agg #[.int .i64 a1, .int .i64 a2], .agg #[.int .i64 b1, .int .i64 b2], .pointer (some ⟨bp, 0, none⟩), .pointer (some ⟨bn, 0, none⟩)] w fun e w' =>
      e = .returned (.tuple #[]) ∧ Box w' bn 3 #[.int .i64 (s + turnS (p1, p2) (a1, a2) (b1, b2))] ∧ But bn w w' := by
  have hlp := hp.lt
  have hln := hn.lt
  have cp := hp.cell
  by_cases hA : a2 ≤ p2 ∧ p2 < b2
  · obtain ⟨h1, h2⟩ := hA
    have d1 : decide (a2 ≤ p2) = true := decide_eq_true h1
    have d2 : decide (p2 < b2) = true := decide_eq_true h2
    have d3 : decide (b2 ≤ p2) = false := decide_eq_false (by omega)
    by_cases hs : 0 < orientS (a1, a2) (b1, b2) (p1, p2)
    · have e : turnS (p1, p2) (a1, a2) (b1, b2) = 1 := by
        unfold turnS
        rw [if_pos ⟨h1, h2, hs⟩]
      rw [e]
      clear e
      go_enter Try.func55, Try.ntmps55
      go_wp2_with fail
      refine (Orient_any _ _ _ _ _ _ _).mono ?_
      rintro e w1 ⟨rfl, hE⟩
      have hE0 := ((Ext.alloc _ _).trans (Ext.alloc _ _)).trans hE
      have Bn := hn.ext hE0
      clear hE cp
      have cn := Bn.cell; have fn := Bn.frozen
      go_wp2
      go_end0
      refine ⟨rfl, ?_, (But.of_ext hE0).set _ _⟩
      have := Bn.set 0 (.int .i64 (s + 1))
      simpa using this
    · have e : turnS (p1, p2) (a1, a2) (b1, b2) = 0 := by
        unfold turnS
        rw [if_neg (fun h => hs h.2.2), if_neg (by omega)]
      rw [e]
      clear e
      go_enter Try.func55, Try.ntmps55
      go_wp2_with fail
      refine (Orient_any _ _ _ _ _ _ _).mono ?_
      rintro e w1 ⟨rfl, hE⟩
      have B4 := ((Box.new _ _ _).alloc _).ext hE
      have B5 := Box.at1.ext hE
      have hE0 := ((Ext.alloc _ _).trans (Ext.alloc _ _)).trans hE
      have Bp := hp.ext hE0
      have Bn := hn.ext hE0
      clear hE cp
      have c4 := B4.cell; have c5 := B5.cell; have cp := Bp.cell
      go_wp2
      go_end0
      exact ⟨rfl, by rw [Int.add_zero]; exact Bn, But.of_ext hE0⟩
  · by_cases hB : b2 ≤ p2 ∧ p2 < a2
    · obtain ⟨h1, h2⟩ := hB
      have d1 : decide (b2 ≤ p2) = true := decide_eq_true h1
      have d2 : decide (p2 < a2) = true := decide_eq_true h2
      have d3 : decide (a2 ≤ p2) = false := decide_eq_false (by omega)
      clear hA
      by_cases hs : 0 < orientS (b1, b2) (a1, a2) (p1, p2)
      · have e : turnS (p1, p2) (a1, a2) (b1, b2) = -1 := by
          unfold turnS
          rw [if_neg (by omega), if_pos ⟨h1, h2, hs⟩]
        rw [e]
        clear e
        go_enter Try.func55, Try.ntmps55
        go_wp2_with fail
        refine (Orient_any _ _ _ _ _ _ _).mono ?_
        rintro e w1 ⟨rfl, hE⟩
        have hE0 := ((Ext.alloc _ _).trans (Ext.alloc _ _)).trans hE
        have Bn := hn.ext hE0
        clear hE cp
        have cn := Bn.cell; have fn := Bn.frozen
        go_wp2
        go_end0
        refine ⟨rfl, ?_, (But.of_ext hE0).set _ _⟩
        have := Bn.set 0 (.int .i64 (s - 1))
        rw [Int.sub_eq_add_neg] at this ⊢
        simpa using this
      · have e : turnS (p1, p2) (a1, a2) (b1, b2) = 0 := by
          unfold turnS
          rw [if_neg (by omega), if_neg (fun h => hs h.2.2)]
        rw [e]
        clear e
        go_enter Try.func55, Try.ntmps55
        go_wp2_with fail
        refine (Orient_any _ _ _ _ _ _ _).mono ?_
        rintro e w1 ⟨rfl, hE⟩
        have hE0 := ((Ext.alloc _ _).trans (Ext.alloc _ _)).trans hE
        have Bn := hn.ext hE0
        clear hE cp
        go_wp2
        go_end0
        exact ⟨rfl, by rw [Int.add_zero]; exact Bn, But.of_ext hE0⟩
    · have e : turnS (p1, p2) (a1, a2) (b1, b2) = 0 := by
        unfold turnS
        rw [if_neg (by omega), if_neg (by omega)]
      rw [e]
      clear e
      have hE0 := fun o o' => (Ext.alloc w o).trans (Ext.alloc _ o')
      have HE0 := Lib.hid hE0
      clear hE0
      go_enter Try.func55, Try.ntmps55
      go_wp2_with fail
      all_goals first
        | (exfalso; omega)
        | (go_end0; exact ⟨rfl, by (try rw [Int.add_zero]); exact hn.ext (HE0.out _ _), But.of_ext (HE0.out _ _)⟩)

/-- the winding number behind some edges of ring k, in block bn -/
structure WindJ (w : World) (bp bn : Nat) (px py s : Int) (r : List P2) (k : Nat) (W : World) : Prop where
  p : Box W bp 24 #[.int .i64 px, .int .i64 py]
  n : Box W bn 3 #[.int .i64 (s + windE (px, py) ((edgesS r).take k))]
  ext : Ext w W

set_option maxRecDepth 100000 in
set_option maxHeartbeats 1600000 in
theorem Winding_any (L : List (List P2)) (A : Option Addr) (c : Nat) (px py : Int) (w : World) (hc : L.length ≤ 17592186044416) (hL : RingsAt w A L) :
    Calls Try.prog 20 #[.slice A L.length c, .agg #[.int .i64 px, .int .i64 py]] w fun e w' => e = .returned (.int .i64 (windL L (px, py))) ∧ Ext w w' := by
  have hV := fun W (h : Ext w W) => Valid_any L A c W hc (hL.ext h)
  obtain ⟨n, hn⟩ : ∃ n, n = L.length := ⟨_, rfl⟩
  rw [← hn] at hV ⊢
  have HN := Lib.hid hn
  rw [← hn] at hc
  have HV := Lib.hid hV
  clear hn hV
  go_enter Try.func20, Try.ntmps20
  go_wp2_with fail
  refine (valid_any _ _ _).mono ?_
  rintro e w1 ⟨rfl, hE1⟩
  have B3 := (Box.new _ _ _).ext hE1
  have hE := (Ext.alloc _ _).trans hE1
  clear hE1
  cases hp : validS (px, py)
  · have e0 : windL L (px, py) = 0 := by unfold windL; rw [hp, Bool.and_false]; rfl
    have E := Lib.hid e0
    clear e0
    go_wp2
    go_ret
    exact ⟨ret_eq (by rw [E.out]; rfl), hE⟩
  · go_wp2_with fail
    refine (HV.out _ hE).mono ?_
    rintro e w2 ⟨rfl, hE2⟩
    have B3' := B3.ext hE2
    have hE' := hE.trans hE2
    have hlt3 := B3'.lt
    clear hE2 hE B3
    cases hv : validL L
    · have e0 : windL L (px, py) = 0 := by unfold windL; rw [hv]; rfl
      have E := Lib.hid e0
      clear e0
      go_wp2
      go_ret
      exact ⟨ret_eq (by rw [E.out]; rfl), hE'⟩
    · have e0 : windL L (px, py) = windSum (px, py) L := by unfold windL; rw [hp, hv]; rfl
      have E := Lib.hid e0
      have hlen := validL_len hv
      have HLEN := Lib.hid hlen
      have hsz := hE'.size
      have hcc := windC_call
      clear e0 hv hp hlen
      go_wp2_with fail
      go_loopw [8, 20] (fun _ i wr => ∃ k : Nat, k ≤ n ∧ i = .int .i64 k ∧ Box wr w.heap.size 24 #[.int .i64 px, .int .i64 py] ∧ Box wr w2.heap.size 3 #[.int .i64 (windSum (px, py) (L.take k))] ∧ Ext w wr) (fun _ i _ => n - (intOf i).toNat)
      case atStart => exact ⟨0, Nat.zero_le _, rfl, B3'.alloc _, Box.new _ _ _, hE'.trans (Ext.alloc _ _)⟩
      case round =>
        obtain ⟨k, hk, rfl, Bp, Bn, hj⟩ := hrel
        by_cases hlt : k < n
        · obtain ⟨r, hlk⟩ : ∃ r, L[k]? = some r := ⟨_, List.getElem?_eq_getElem (by rw [← HN.out]; exact hlt)⟩
          obtain ⟨b, o, rfl, hcell⟩ := hL (fun e => by rw [e] at hlk; simp at hlk)
          obtain ⟨v, c0, A', c', rfl, hlc, hlb, hP⟩ := hcell k r hlk
          have c1 := hj.cell c0
          have hst := windSum_take (p := (px, py)) hlk
          have hb1 := windSum_bd (px, py) (L.take k)
          have hb2 := lenS_take_succ hlk
          have hb3 := lenS_take_le L (k + 1)
          have hb4 := HLEN.out
          obtain ⟨s, hs⟩ : ∃ s, s = windSum (px, py) (L.take k) := ⟨_, rfl⟩
          rw [← hs] at hst hb1 Bn
          have hrl : r.length ≤ 4096 := by omega
          have hbs : -4096 ≤ s ∧ s ≤ 4096 := by omega
          obtain ⟨hbs1, hbs2⟩ := hbs
          have HST := Lib.hid hst
          have HRL := Lib.hid hrl
          clear hlk hcell hst hb1 hb2 hb3 hb4 hs c0 hrl
          go_wp2_with fail
          refine (each_any 55 #[.pointer (some ⟨w.heap.size, 0, none⟩), .pointer (some ⟨w2.heap.size, 0, none⟩)] r A' c' wr (WindJ w w.heap.size w2.heap.size px py s r) hlb windC_call ?_ ?_ ?_).mono ?_
          · exact ⟨Bp, by simpa [windE] using Bn, hj⟩
          · exact fun k W hj => hP.ext hj.ext
          · rintro t W1 W2 x y u v ⟨hB1, hB2, hE1⟩ hE2 hed
            have hbd := windE_bd (px, py) ((edgesS r).take t)
            have hl : ((edgesS r).take t).length ≤ 4096 := by
              rw [List.length_take, edgesS_length]
              have := HRL.out
              omega
            refine (windC_any x y u v px py _ w.heap.size w2.heap.size W2 (hB1.ext hE2) (hB2.ext hE2) (by omega) (by omega)).mono ?_
            rintro e w' ⟨rfl, hB', hbut⟩
            refine ⟨rfl, hbut.box (hB1.ext hE2) (by omega), ?_, (hE1.trans hE2).but hbut hsz⟩
            rw [windE_take hed, ← Int.add_assoc]
            exact hB'
          · rintro e w3 ⟨rfl, hB1, hB2, hE3⟩
            have e1 : windE (px, py) ((edgesS r).take r.length) = windR (px, py) r := by
              rw [← edgesS_length, List.take_length]
              rfl
            rw [e1, ← HST.out] at hB2
            clear e1
            go_wp2
            go_roundw
            case rel => exact ⟨k + 1, by omega, by go_num, hB1, hB2, hE3⟩
            case measure => simp [intOf]; omega
        · have hfin : windSum (px, py) (L.take k) = windL L (px, py) := by
            rw [E.out, List.take_of_length_le (by rw [← HN.out]; omega)]
          rw [hfin] at Bn
          clear hfin
          have cn := Bn.cell
          go_wp2
          go_ret
          exact ⟨rfl, hj⟩
end Go.Proofs.Ythfeamlioiaebaa
