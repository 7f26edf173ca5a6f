/- polygon.Translate. -/
import Derived.Test.YthfeamlioiaebaaRows2
set_option linter.unusedVariables false
set_option linter.unusedSimpArgs false
namespace Go.Proofs.Ythfeamlioiaebaa
open Go.RowKit Go.Par

/-- slices that the call has made, one for each row of points -/
def Elems (w : World) (B : Nat) (vs : List Value) (L : List (List P2)) : Prop := vs.length = L.length ∧ ∀ (i : Nat) (r : List P2), L[i]? = some r → r.length ≤ 1000000 ∧ ∃ u, vs[i]? = some u ∧ Own w B u r
theorem Elems.nil (w : World) (B : Nat) : Elems w B [] [] := ⟨rfl, fun i r h => by simp at h⟩
theorem Elems.ext {w w' : World} {B : Nat} {vs : List Value} {L : List (List P2)} (h : Elems w B vs L) (he : Ext w w') : Elems w' B vs L :=
  ⟨h.1, fun i r hr => by obtain ⟨h0, u, h1, h2⟩ := h.2 i r hr; exact ⟨h0, u, h1, h2.ext he⟩⟩
theorem Elems.grow {w w' : World} {B base : Nat} {v : Value} {us vs : List Value} {L : List (List P2)} (h : Elems w B vs L) (hown : OwnR w base v us) (hg : w.grownBy w' v.ownBlock) : Elems w' B vs L :=
  ⟨h.1, fun i r hr => by
    obtain ⟨h0, u, h1, h2⟩ := h.2 i r hr
    refine ⟨h0, u, h1, World.ownsRow.kept h2 hg ?_⟩
    rcases h2.2 with ⟨rfl, _⟩ | ⟨g, cap, cur, rfl, _, hgg, _⟩
    · exact .inl rfl
    · refine .inr fun e => ?_
      rcases hown.2 with ⟨rfl, _⟩ | ⟨g', cap', cur', rfl, _, hgg', _⟩
      · cases e
      · simp only [Value.ownBlock, Option.some.injEq] at e
        subst e
        rw [hgg] at hgg'
        simp at hgg'⟩
theorem Box.growR {w w' : World} {b base : Nat} {t : TypeId} {cs : Array Value} {v : Value} {us : List Value} (h : Box w b t cs) (hown : OwnR w base v us) (ht : t ≠ 38) (hg : w.grownBy w' v.ownBlock) : Box w' b t cs := by
  refine (hg.block b h.lt fun e => ?_).trans h
  rcases hown.2 with ⟨rfl, _⟩ | ⟨g', cap', cur', rfl, _, hgg', _⟩
  · cases e
  · simp only [Value.ownBlock, Option.some.injEq] at e
    subst e
    unfold Box at h
    rw [hgg'] at h
    injection h with h
    injection h with h1 h2
    exact ht h2.symm
theorem Elems.snoc {w : World} {B : Nat} {vs : List Value} {L : List (List P2)} {u : Value} {r : List P2} (h : Elems w B vs L) (hr : r.length ≤ 1000000) (hu : Own w B u r) : Elems w B (vs ++ [u]) (L ++ [r]) := by
  refine ⟨by simp [h.1], fun i q hq => ?_⟩
  by_cases hi : i < L.length
  · rw [List.getElem?_append_left hi] at hq
    obtain ⟨h0, x, h1, h2⟩ := h.2 i q hq
    exact ⟨h0, x, by rw [List.getElem?_append_left (by rw [h.1]; exact hi)]; exact h1, h2⟩
  · rw [List.getElem?_append_right (by omega)] at hq
    have h0 : i - L.length = 0 := by
      have := (List.getElem?_eq_some_iff.1 hq).1
      simp at this
      omega
    rw [h0] at hq
    simp only [List.getElem?_cons_zero, Option.some.injEq] at hq
    subst hq
    exact ⟨hr, u, by rw [List.getElem?_append_right (by rw [h.1]; omega), h.1, h0]; rfl, hu⟩
theorem Elems.rows {w : World} {B : Nat} {vs : List Value} {L : List (List P2)} (h : Elems w B vs L) : RowsOf w vs L :=
  ⟨h.1, fun i r hr => by obtain ⟨h0, u, h1, h2⟩ := h.2 i r hr; exact ⟨u, h1, h2.pts (by omega)⟩⟩
theorem Own.lower {w : World} {B B' : Nat} {v : Value} {l : List P2} (h : Own w B v l) (hb : B' ≤ B) : Own w B' v l := by
  refine ⟨h.1, ?_⟩
  rcases h.2 with h0 | ⟨g, cap, cur, e, hg, h2⟩
  · exact .inl h0
  · exact .inr ⟨g, cap, cur, e, Nat.le_trans hb hg, h2⟩
theorem Own.oneCell {w : World} {B : Nat} {v : Value} {l : List P2} (h : Own w B v l) : v.oneCell' = true := by
  obtain ⟨A, c, rfl, _⟩ := h.len
  rfl
/-- every point moved -/
def moveR (by_ : P2) (r : List P2) : List P2 := r.map fun p => addS p by_
def transL (L : List (List P2)) (by_ : P2) : List (List P2) := if validL L then L.map (moveR by_) else []
theorem mem_len {L : List (List P2)} {k : Nat} {r : List P2} (h : L[k]? = some r) : r.length ≤ lenS L := by
  have h1 := lenS_take_succ h
  have h2 := lenS_take_le L (k + 1)
  omega
theorem map_take_snoc {α β : Type} (f : α → β) {l : List α} {k : Nat} {p : α} (h : l[k]? = some p) : (l.take (k + 1)).map f = (l.take k).map f ++ [f p] := by
  rw [List.take_add_one, h]; simp
theorem srcOne {w : World} {b : Nat} {t : TypeId} {u : Value} (hu : u.oneCell' = true) (h : Box w b t #[u]) : Src w 1 (.slice (some ⟨b, 0, none⟩) 1 1) 1 [u] := by
  refine ⟨rfl, fun x hx => by simp at hx; subst hx; exact hu, .inr ⟨_, _, rfl, fun j x hx => ?_⟩⟩
  have hj := (List.getElem?_eq_some_iff.1 hx).1
  have h0 : j = 0 := by simp at hj; exact hj
  subst h0
  simp only [List.getElem?_cons_zero, Option.some.injEq] at hx
  subst hx
  rw [Addr.add_zero', h.cell]
  rfl
set_option maxRecDepth 100000 in
set_option maxHeartbeats 1600000 in
theorem Translate_any (L : List (List P2)) (A : Option Addr) (c : Nat) (bx by_ : Int) (w : World) (hc : L.length ≤ 1000000) (hS : lenS L ≤ 1000000) (hL : RingsAt w A L) :
    Calls Try.prog 30 #[.slice A L.length c, .agg #[.int .i64 bx, .int .i64 by_]] w fun e w' => ∃ v vs, e = .returned v ∧ Ext w w' ∧ OwnR w' w.heap.size v vs ∧ Elems w' w.heap.size vs (transL L (bx, by_)) := by
  have HV := Lib.hid (fun W (h : Ext w W) => Valid_any L A c W (by omega) (hL.ext h))
  obtain ⟨n, hn⟩ : ∃ n, n = L.length := ⟨_, rfl⟩
  rw [← hn] at HV hc ⊢
  have HN := Lib.hid hn
  have HSS := Lib.hid hS
  clear hn hS
  go_enter Try.func30, Try.ntmps30
  go_wp2_with fail
  refine (HV.out _ (Ext.alloc _ _)).mono ?_
  rintro e w1 ⟨rfl, hE1⟩
  have B := (Box.new w 24 #[.int .i64 bx, .int .i64 by_]).ext hE1
  have hE := (Ext.alloc w _).trans hE1
  clear hE1
  cases hv : validL L
  · have e0 : transL L (bx, by_) = [] := by unfold transL; rw [hv]; rfl
    have E := Lib.hid e0
    clear e0
    go_wp2
    go_ret
    exact ⟨_, [], rfl, hE, OwnR.nil _ _, by rw [E.out]; exact Elems.nil _ _⟩
  · have e0 : transL L (bx, by_) = L.map (moveR (bx, by_)) := by unfold transL; rw [hv]; rfl
    have E := Lib.hid e0
    clear e0
    go_wp2_with fail
    go_loopw [5, 7, 8, 10, 16] (fun s _ _ _ i wr => ∃ (k : Nat) (vs : List Value), k ≤ n ∧ i = .int .i64 k ∧ Ext w wr ∧ Box wr w.heap.size 24 #[.int .i64 bx, .int .i64 by_] ∧ OwnR wr w.heap.size s vs ∧ Elems wr w.heap.size vs ((L.take k).map (moveR (bx, by_)))) (fun _ _ _ _ i _ => n - (intOf i).toNat)
    case atStart => exact ⟨0, [], Nat.zero_le _, rfl, hE, B, OwnR.nil _ _, Elems.nil _ _⟩
    case round =>
      obtain ⟨k, vs, hk, rfl, hEr, BB, hown, hel⟩ := hrel
      by_cases hlt : k < n
      · obtain ⟨r, hlk⟩ : ∃ r, L[k]? = some r := ⟨_, List.getElem?_eq_getElem (by rw [← HN.out]; exact hlt)⟩
        obtain ⟨b, o, rfl, hcell⟩ := hL (fun e => by rw [e] at hlk; simp at hlk)
        obtain ⟨v, c0, A', c', rfl, hlc, hlb, hP⟩ := hcell k r hlk
        have c1 := hEr.cell c0
        have hrl := mem_len hlk
        have hrs := HSS.out
        have hsn := map_take_snoc (moveR (bx, by_)) hlk
        have hvs : vs.length = k := by rw [hel.1, List.length_map, List.length_take, ← HN.out]; omega
        have hPr := hP.ext hEr
        obtain ⟨m, hm⟩ : ∃ m, m = r.length := ⟨_, rfl⟩
        rw [← hm] at c1 hlc hlb hrl
        have hm6 : m ≤ 1000000 := by omega
        have HM := Lib.hid hm
        have HSN := Lib.hid hsn
        have HVS := Lib.hid hvs
        have hwo := hEr.size
        clear hlk hcell c0 hP hm hsn hvs hrl hrs
        generalize wr = wo at *
        go_wp2_with fail
        go_loopw [8, 10, 22] (fun s _ i wz => ∃ j : Nat, j ≤ m ∧ i = .int .i64 j ∧ Ext wo wz ∧ Own wz wo.heap.size s (moveR (bx, by_) (r.take j))) (fun _ _ i _ => m - (intOf i).toNat)
        case atStart => exact ⟨0, Nat.zero_le _, rfl, Ext.refl _, Own.nil _ _⟩
        case round =>
          obtain ⟨j, hj, rfl, hEq, hown2⟩ := hrel
          have hwr := hEq.size
          have BQ := BB.ext hEq
          by_cases hlt' : j < m
          · obtain ⟨⟨x, y⟩, hlk⟩ : ∃ q, r[j]? = some q := ⟨_, List.getElem?_eq_getElem (by rw [← HM.out]; exact hlt')⟩
            obtain ⟨b', o', rfl, hcell⟩ := hPr (fun e => by rw [e] at hlk; simp at hlk)
            have e0 := hEq.cell (hcell j _ hlk).1
            have e1 := hEq.cell (hcell j _ hlk).2
            have hst := map_take_snoc (fun p => addS p (bx, by_)) hlk
            have HST := Lib.hid (show moveR (bx, by_) (r.take (j + 1)) = moveR (bx, by_) (r.take j) ++ [(heldS x + heldS bx, heldS y + heldS by_)] from hst)
            have hlen : (moveR (bx, by_) (r.take j)).length + 1 ≤ 1000000000 := by unfold moveR; rw [List.length_map, List.length_take]; omega
            have BQ1 := BQ.alloc (.cells #[.int .i64 x, .int .i64 y] 24)
            have kq := BQ.cell
            have nq : ¬ w.heap.size = wr.heap.size := by have := BQ.lt; omega
            clear hlk hcell hst
            go_wp2_with fail
            refine (Add_any _ _ _ _ _).mono ?_
            rintro e w3 ⟨rfl, hE3⟩
            have hE4 := (hEq.trans (Ext.alloc _ _)).trans hE3
            have hown3 := (hown2.ext (Ext.alloc _ _)).ext hE3
            have hw3 := hE4.size
            clear hE3 kq
            go_wp2_with (at_builtin; refine wpList_app rfl _ _ rfl wo.heap.size _ _ _ _ rfl rfl (hown3.ext (Ext.alloc _ _)) (Pts.one (Box.new _ _ _)) hlen (by simp <;> omega) ?_; intro v' w4 hown4 hg)
            have hE5 := Ext.grow (hE4.trans (Ext.alloc _ _)) (hown3.ext (Ext.alloc _ _)) (Nat.le_refl _) hg
            go_roundw
            case rel => exact ⟨j + 1, by omega, by go_num, hE5, by rw [HST.out]; exact hown4⟩
            case measure => simp [intOf]; omega
          · have hfin : r.take j = r := List.take_of_length_le (by rw [← HM.out]; omega)
            rw [hfin] at hown2
            have hrr : (moveR (bx, by_) r).length ≤ 1000000 := by unfold moveR; rw [List.length_map, ← HM.out]; exact hm6
            obtain ⟨A8, c8, rfl, _, _⟩ := hown2.at (n := m) (by unfold moveR; rw [List.length_map, ← HM.out]) hlb
            have hownq := hown.ext hEq
            have helq := ((hel.ext hEq).snoc hrr (hown2.lower hwo)).ext (Ext.alloc wr (.cells #[.slice A8 m c8] 38))
            clear hfin
            go_wp2_with (at_builtin; refine wpList_appR rfl _ _ rfl w.heap.size _ _ vs [.slice A8 m c8] rfl rfl (hownq.ext (Ext.alloc _ _)) (srcOne hown2.oneCell (Box.new _ _ _)) (by rw [HVS.out]; simp; omega) (by simp <;> omega) ?_; intro v' w4 hown4 hg)
            have hE5 := Ext.grow ((hEr.trans hEq).trans (Ext.alloc _ _)) (hownq.ext (Ext.alloc _ _)) (Nat.le_refl _) hg
            have hel4 := helq.grow (hownq.ext (Ext.alloc _ _)) hg
            have BW4 : Box w4 w.heap.size 24 #[.int .i64 bx, .int .i64 by_] := Box.growR ((BB.ext hEq).alloc _) (hownq.ext (Ext.alloc _ _)) (by decide) hg
            go_roundw
            case rel => exact ⟨k + 1, _, by omega, by go_num, hE5, BW4, hown4, by rw [HSN.out]; exact hel4⟩
            case measure => simp [intOf]; omega
      · have hfin : L.take k = L := List.take_of_length_le (by rw [← HN.out]; omega)
        rw [hfin, ← E.out] at hel
        clear hfin
        go_wp2
        go_ret
        exact ⟨_, vs, rfl, hEr, hown, hel⟩
end Go.Proofs.Ythfeamlioiaebaa
