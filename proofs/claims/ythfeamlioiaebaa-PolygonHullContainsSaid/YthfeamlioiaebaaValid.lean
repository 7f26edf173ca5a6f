/- polygon.Valid and the reference's: how many points, and all in bounds. -/
import Derived.Test.YthfeamlioiaebaaSlice
set_option linter.unusedVariables false
set_option linter.unusedSimpArgs false
namespace Go.Proofs.Ythfeamlioiaebaa
open Go.RowKit Go.Par

theorem validC_any (x y : Int) (w : World) :
    Calls Try.prog 62 #[.agg #[.int .i64 x, .int .i64 y]] w fun e w' => e = .returned (.bool (!validS (x, y))) ∧ Ext w w' := by
  go_enter Try.func62, Try.ntmps62
  go_wp2_with (go_at_call 54; refine (valid_any _ _ _).mono ?_; rintro e w1 ⟨rfl, hE⟩)
  go_ret
  exact ⟨rfl, (Ext.alloc _ _).trans hE⟩
theorem validC_call (args : Array Value) (w : World) : (callFunc 62 args).run Try.prog w = .ok (.enter 62 args) w := by kernel_rfl

theorem validL_false_len {L : List (List P2)} {k : Nat} (h : 4096 < lenS (L.take k)) : validL L = false := by
  have := lenS_take_le L k
  unfold validL
  rw [decide_eq_false (by omega)]
  rfl
theorem validL_false_at {L : List (List P2)} {k : Nat} {r : List P2} (h : L[k]? = some r) (hr : (r.any fun p => !validS p) = true) : validL L = false := by
  unfold validL
  have : (L.all fun r => r.all validS) = false := by
    rw [List.all_eq_false]
    refine ⟨r, List.mem_of_getElem? h, ?_⟩
    simp only [List.any_eq_true, Bool.not_eq_true'] at hr
    obtain ⟨x, hx, hv⟩ := hr
    simp only [List.all_eq_true, Classical.not_forall]
    exact ⟨x, hx, by rw [hv]; decide⟩
  rw [this, Bool.and_false]

set_option maxRecDepth 100000 in
set_option maxHeartbeats 800000 in
theorem Valid_any (L : List (List P2)) (A : Option Addr) (c : Nat) (w : World) (hc : L.length ≤ 17592186044416) (hL : RingsAt w A L) :
    Calls Try.prog 27 #[.slice A L.length c] w fun e w' => e = .returned (.bool (validL L)) ∧ Ext w w' := by
  obtain ⟨n, hn⟩ : ∃ n, n = L.length := ⟨_, rfl⟩
  rw [← hn]
  have HN := Lib.hid hn
  rw [← hn] at hc
  clear hn
  go_enter Try.func27, Try.ntmps27
  go_wp2_with fail
  go_loopw [3, 5, 8] (fun s _ i wr => ∃ k : Nat, k ≤ n ∧ i = .int .i64 k ∧ s = .int .i64 (lenS (L.take k)) ∧ lenS (L.take k) ≤ 4096 ∧ Ext w wr ∧ (L.take k).all (fun r => r.all validS) = true) (fun _ _ i _ => n - (intOf i).toNat)
  case atStart => exact ⟨0, Nat.zero_le _, rfl, rfl, Nat.zero_le _, Ext.refl _, rfl⟩
  case round =>
    obtain ⟨k, hk, rfl, rfl, hs, hE, hall⟩ := hrel
    have Hall := Lib.hid hall
    clear hall
    by_cases hlt : k < n
    · obtain ⟨r, hlk⟩ : ∃ r, L[k]? = some r := ⟨_, List.getElem?_eq_getElem (by rw [← HN.out]; exact hlt)⟩
      obtain ⟨b, o, rfl, hcell⟩ := hL (fun e => by rw [e] at hlk; simp at hlk)
      obtain ⟨v, c0, A', c', rfl, hlc, hlb, hP⟩ := hcell k r hlk
      have c1 := hE.cell c0
      have hP1 := hP.ext hE
      have hsum := lenS_take_succ hlk
      have hal := all_take_succ (p := fun r => r.all validS) hlk
      generalize lenS (L.take k) = s at *
      have HL := Lib.hid hlk
      have HS := Lib.hid hsum
      have HA := Lib.hid hal
      obtain ⟨m, hm⟩ : ∃ m, m = r.length := ⟨_, rfl⟩
      rw [← hm] at c1 hlb
      have HM := Lib.hid hm
      clear hlk hcell hsum hal c0 hP hm hlc
      go_wp2_with fail
      · have hbig : 4096 < s + m := by omega
        go_ret
        exact ⟨ret_eq (by rw [validL_false_len (k := k + 1) (by rw [HS.out, ← HM.out]; exact hbig)]; rfl), hE⟩
      · have hbig : ¬ 4096 < s + m := by omega
        rw [HM.out]
        refine (containsFunc_any 62 #[] (fun p => !validS p) r A' c' _ (by rw [← HM.out]; omega) hP1 validC_call (fun x y w1 _ _ => validC_any x y w1)).mono ?_
        rintro e w1 ⟨rfl, hE1⟩
        have hE2 := hE.trans hE1
        cases hv : r.any fun p => !validS p
        · go_wp2
          go_roundw
          case rel =>
            refine ⟨k + 1, by omega, by go_num, ?_, ?_, hE2, ?_⟩
            · rw [HS.out, ← HM.out]; go_num
            · rw [HS.out, ← HM.out]; omega
            · rw [HA.out, Hall.out, Bool.true_and, List.all_eq_true]
              intro p hp
              rw [List.any_eq_false] at hv
              simpa using hv p hp
          case measure => simp [intOf]; omega
        · go_wp2
          go_ret
          exact ⟨ret_eq (by rw [validL_false_at HL.out hv]; rfl), hE2⟩
    · have hkn : k = L.length := by rw [← HN.out]; omega
      have e : validL L = true := by
        have h1 := hs
        have h2 := Hall.out
        rw [hkn, List.take_length] at h1 h2
        unfold validL
        rw [decide_eq_true h1, h2]
        rfl
      clear hkn
      have E := Lib.hid e
      clear e
      go_wp2
      go_ret
      exact ⟨ret_eq (by rw [E.out]; rfl), hE⟩

theorem all_pts_succ {r : List P2} {k : Nat} {q : P2} (h : r[k]? = some q) : (r.take (k + 1)).all validS = ((r.take k).all validS && validS q) := by
  rw [List.take_add_one, h]
  simp
theorem validL_false_pt {L : List (List P2)} {k j : Nat} {r : List P2} {q : P2} (h : L[k]? = some r) (hq : r[j]? = some q) (hv : validS q = false) : validL L = false :=
  validL_false_at h (by rw [List.any_eq_true]; exact ⟨q, List.mem_of_getElem? hq, by rw [hv]; rfl⟩)
set_option maxRecDepth 100000 in
set_option maxHeartbeats 1600000 in
theorem rValid_any (L : List (List P2)) (A : Option Addr) (c : Nat) (w : World) (hc : L.length ≤ 17592186044416) (hL : RingsAt w A L) :
    Calls Try.prog 31 #[.slice A L.length c] w fun e w' => e = .returned (.bool (validL L)) ∧ Ext w w' := by
  obtain ⟨n, hn⟩ : ∃ n, n = L.length := ⟨_, rfl⟩
  rw [← hn]
  have HN := Lib.hid hn
  rw [← hn] at hc
  clear hn
  go_enter Try.func31, Try.ntmps31
  go_wp2_with fail
  go_loopw [3, 4, 5] (fun s i _ wr => ∃ k : Nat, k ≤ n ∧ i = .int .i64 k ∧ s = .int .i64 (lenS (L.take k)) ∧ lenS (L.take k) ≤ 4096 ∧ Ext w wr ∧ (L.take k).all (fun r => r.all validS) = true) (fun _ i _ _ => n - (intOf i).toNat)
  case atStart => exact ⟨0, Nat.zero_le _, rfl, rfl, Nat.zero_le _, Ext.refl _, rfl⟩
  case round =>
    obtain ⟨k, hk, rfl, rfl, hs, hE, hall⟩ := hrel
    have Hall := Lib.hid hall
    clear hall
    by_cases hlt : k < n
    · obtain ⟨r, hlk⟩ : ∃ r, L[k]? = some r := ⟨_, List.getElem?_eq_getElem (by rw [← HN.out]; exact hlt)⟩
      obtain ⟨b, o, rfl, hcell⟩ := hL (fun e => by rw [e] at hlk; simp at hlk)
      obtain ⟨v, c0, A', c', rfl, hlc, hlb, hP⟩ := hcell k r hlk
      have c1 := hE.cell c0
      have hP1 := hP.ext hE
      have hsum := lenS_take_succ hlk
      have hal := all_take_succ (p := fun r => r.all validS) hlk
      generalize lenS (L.take k) = s at *
      have HL := Lib.hid hlk
      have HS := Lib.hid hsum
      have HA := Lib.hid hal
      obtain ⟨m, hm⟩ : ∃ m, m = r.length := ⟨_, rfl⟩
      rw [← hm] at c1 hlb
      have HM := Lib.hid hm
      clear hlk hcell hsum hal c0 hP hm hlc
      by_cases hbig : 4096 < s + m
      · have hb1 : 4096 - (s : Int) < (m : Int) := by omega
        go_wp2
        go_ret
        exact ⟨ret_eq (by rw [validL_false_len (k := k + 1) (by rw [HS.out, ← HM.out]; exact hbig)]; rfl), hE⟩
      · have hb1 : (m : Int) ≤ 4096 - (s : Int) := by omega
        go_wp2_with fail
        obtain ⟨wo, hwo⟩ : ∃ wo : World, wo = wr := ⟨_, rfl⟩
        rw [← hwo]
        rw [← hwo] at c1 hP1 hE
        clear hwo wr
        go_loopw [5] (fun j wr => ∃ t : Nat, t ≤ m ∧ j = .int .i64 t ∧ Ext wo wr ∧ (r.take t).all validS = true) (fun j _ => m - (intOf j).toNat)
        case atStart => exact ⟨0, Nat.zero_le _, rfl, Ext.refl _, rfl⟩
        case round =>
          obtain ⟨t, ht, rfl, hE1, hal⟩ := hrel
          have Hal := Lib.hid hal
          clear hal
          have d1 := hE1.cell c1
          by_cases htm : t < m
          · obtain ⟨⟨x, y⟩, hrt⟩ : ∃ q, r[t]? = some q := ⟨_, List.getElem?_eq_getElem (by rw [← HM.out]; exact htm)⟩
            obtain ⟨b', o', rfl, hcl⟩ := hP1 (fun e => by rw [e] at hrt; simp at hrt)
            have e0 := hE1.cell (hcl t _ hrt).1
            have e1 := hE1.cell (hcl t _ hrt).2
            have HR := Lib.hid hrt
            clear hcl hrt
            go_wp2_with fail
            refine (rvalid_any x y _).mono ?_
            rintro e w1 ⟨rfl, hE2⟩
            have hE3 := hE1.trans hE2
            cases hv : validS (x, y)
            · go_wp2
              go_ret
              exact ⟨ret_eq (by rw [validL_false_pt HL.out HR.out hv]; rfl), hE.trans hE3⟩
            · go_wp2
              go_roundw
              case rel => exact ⟨t + 1, by omega, by go_num, hE3, by rw [all_pts_succ HR.out, Hal.out, hv]; rfl⟩
              case measure => simp [intOf]; omega
          · have htm2 : t = r.length := by rw [← HM.out]; omega
            have hfin : r.all validS = true := by
              have := Hal.out
              rw [htm2, List.take_length] at this
              exact this
            clear htm2
            have Hfin := Lib.hid hfin
            clear hfin
            go_wp2
            go_roundw
            case rel =>
              refine ⟨k + 1, by omega, by go_num, ?_, ?_, hE.trans hE1, ?_⟩
              · rw [HS.out, ← HM.out]; go_num
              · rw [HS.out, ← HM.out]; omega
              · rw [HA.out, Hall.out, Hfin.out]; rfl
            case measure => simp [intOf]; omega
    · have hkn : k = L.length := by rw [← HN.out]; omega
      have e : validL L = true := by
        have h1 := hs
        have h2 := Hall.out
        rw [hkn, List.take_length] at h1 h2
        unfold validL
        rw [decide_eq_true h1, h2]
        rfl
      clear hkn
      have E := Lib.hid e
      clear e
      go_wp2
      go_ret
      exact ⟨ret_eq (by rw [E.out]; rfl), hE⟩
end Go.Proofs.Ythfeamlioiaebaa
