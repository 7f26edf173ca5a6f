/- polygon.Bounds and the reference's. -/
import Derived.Test.YthfeamlioiaebaaConcat
import Derived.Deep.RegionHeld3
set_option linter.unusedVariables false
set_option linter.unusedSimpArgs false
namespace Go.Proofs.Ythfeamlioiaebaa
open Go.RowKit Go.Par

def minP (a p : P2) : P2 := (if p.1 < a.1 then p.1 else a.1, if p.2 < a.2 then p.2 else a.2)
def maxP (a p : P2) : P2 := (if a.1 < p.1 then p.1 else a.1, if a.2 < p.2 then p.2 else a.2)
/-- the least and the greatest coordinates, and whether there is a point -/
def boundsF : List P2 → P2 × P2 × Bool
  | [] => ((0, 0), (0, 0), false)
  | p :: l => ((p :: l).foldl minP p, (p :: l).foldl maxP p, true)
def boundsS (L : List (List P2)) : P2 × P2 × Bool := if validL L then boundsF L.flatten else ((0, 0), (0, 0), false)
def bndV (t : P2 × P2 × Bool) : Value := .tuple #[.agg #[.int .i64 t.1.1, .int .i64 t.1.2], .agg #[.int .i64 t.2.1.1, .int .i64 t.2.1.2], .bool t.2.2]
theorem fold_take {l : List P2} {k : Nat} {p q : P2} {f : P2 → P2 → P2} (h : l[k]? = some p) : (l.take (k + 1)).foldl f q = f ((l.take k).foldl f q) p := by
  rw [List.take_add_one, h]
  simp [List.foldl_append]

theorem _root_.Go.Par.Box.set2 {w : World} {b : Nat} {t : TypeId} {a0 a1 : Value} (h : Box w b t #[a0, a1]) (u0 u1 : Value) : Box ((w.setCell ⟨b, 0, none⟩ u0).setCell ⟨b, 1, none⟩ u1) b t #[u0, u1] := by
  simpa using (h.set 0 u0).set 1 u1
theorem _root_.Go.Par.Box.far2 {w : World} {b c : Nat} {t : TypeId} {cs : Array Value} (h : Box w b t cs) (hc : b ≠ c) (i j : Nat) (u0 u1 : Value) : Box ((w.setCell ⟨c, i, none⟩ u0).setCell ⟨c, j, none⟩ u1) b t cs :=
  (h.far hc u0).far hc u1
theorem _root_.Go.Par.Ext.set2 {w w1 : World} (h : Ext w w1) {b : Nat} (hb : w.heap.size ≤ b) {i j : Nat} (u0 u1 : Value) : Ext w ((w1.setCell ⟨b, i, none⟩ u0).setCell ⟨b, j, none⟩ u1) :=
  (h.setNew hb i u0).setNew hb j u1

set_option maxRecDepth 100000 in
set_option maxHeartbeats 3200000 in
theorem Bounds_any (L : List (List P2)) (A : Option Addr) (c : Nat) (w : World) (hc : L.length ≤ 17592186044416) (hL : RingsAt w A L) (hS : lenS L ≤ 1000000) :
    Calls Try.prog 16 #[.slice A L.length c] w fun e w' => e = .returned (bndV (boundsS L)) ∧ Ext w w' := by
  have HC := Lib.hid (fun W (h : Ext w W) => Concat_any L A c W hc (hL.ext h) hS)
  have HV := Lib.hid (fun W (h : Ext w W) => Valid_any L A c W hc (hL.ext h))
  have hsum := flatten_length L
  obtain ⟨n, hn⟩ : ∃ n, n = L.length := ⟨_, rfl⟩
  rw [← hn] at HC HV hc ⊢
  clear hn
  obtain ⟨l, hl⟩ : ∃ l, l = L.flatten := ⟨_, rfl⟩
  rw [← hl] at HC hsum
  have HL := Lib.hid hl
  clear hl hL
  obtain ⟨m, hm⟩ : ∃ m, m = l.length := ⟨_, rfl⟩
  have hm6 : m ≤ 1000000 := by omega
  have HM := Lib.hid hm
  clear hsum hm hS
  go_enter Try.func16, Try.ntmps16
  go_wp2_with fail
  refine (HC.out _ ((Ext.alloc _ _).trans (Ext.alloc _ _))).mono ?_
  rintro e w1 ⟨v, rfl, hE1, A', c', rfl, hlc, hlb, hP⟩
  have b2 := ((Box.new w _ _).alloc _).ext hE1
  have b3 := Box.at1.ext hE1
  have hE := ((Ext.alloc w _).trans (Ext.alloc _ _)).trans hE1
  rw [← HM.out] at hlc hlb
  rw [← HM.out]
  clear hE1
  by_cases h0 : m = 0
  · have e0 : boundsS L = ((0, 0), (0, 0), false) := by
      unfold boundsS
      rw [← HL.out, show l = [] from List.eq_nil_of_length_eq_zero (by rw [← HM.out]; exact h0)]
      split <;> rfl
    have E := Lib.hid e0
    subst h0
    have c2 := b2.cell; have c3 := b3.cell; have f2 := b2.frozen; have f3 := b3.frozen
    clear e0 hP
    go_wp2
    exact bodyPost_ret (v := bndV ((0, 0), (0, 0), false)) (by simp [results, Try.results16, go_sem, bndV, c2, c3, f2, f3]) rfl ⟨by rw [E.out], (hE.set2 (Nat.le_refl _) _ _).set2 (Nat.le_succ _) _ _⟩
  · have hm0 : 0 < m := by omega
    have d0 : decide ((m : Int) = 0) = false := decide_eq_false (by omega)
    go_wp2_with fail
    refine (HV.out _ hE).mono ?_
    rintro e w2 ⟨rfl, hE2⟩
    have B2 := b2.ext hE2
    have B3 := b3.ext hE2
    have hE' := hE.trans hE2
    have hP' := hP.ext hE2
    clear b2 b3 hE hE2 hP
    cases hv : validL L
    · have e0 : boundsS L = ((0, 0), (0, 0), false) := by unfold boundsS; rw [hv]; rfl
      have E := Lib.hid e0
      have c2 := B2.cell; have c3 := B3.cell; have f2 := B2.frozen; have f3 := B3.frozen
      clear e0
      go_wp2
      exact bodyPost_ret (v := bndV ((0, 0), (0, 0), false)) (by simp [results, Try.results16, go_sem, bndV, c2, c3, f2, f3]) rfl ⟨by rw [E.out], (hE'.set2 (Nat.le_refl _) _ _).set2 (Nat.le_succ _) _ _⟩
    · obtain ⟨⟨x, y⟩, hlk0⟩ : ∃ q, l[0]? = some q := ⟨_, List.getElem?_eq_getElem (by rw [← HM.out]; omega)⟩
      have e0 : boundsS L = (l.foldl minP (x, y), l.foldl maxP (x, y), true) := by
        unfold boundsS
        rw [hv, ← HL.out]
        cases l with
        | nil => simp at hlk0
        | cons p t => simp at hlk0; subst hlk0; rfl
      have E := Lib.hid e0
      have hs2 := B3.lt
      clear e0
      obtain ⟨b, o, rfl, hcell⟩ := hP' (fun e => by rw [e] at hlk0; simp at hlk0)
      have c0 := (hcell 0 _ hlk0).1
      have c1 := (hcell 0 _ hlk0).2
      rw [Nat.zero_mul, Nat.add_zero] at c0 c1
      have HCELL := Lib.hid hcell
      clear hcell
      have n0 := World.new_ne w2 _ c0
      have n1 := World.new_ne w2 _ c1
      go_wp2_with fail
      go_region_held3 (fun w' => w'.cell? ⟨b, o, none⟩ = some (.int .i64 x) ∧ w'.cell? ⟨b, o + 1, none⟩ = some (.int .i64 y)) (go_keep) (fail)
      obtain ⟨b6, b7, e6, e7, eA⟩ : ∃ b6 b7, b6 = w2.heap.size ∧ b7 = w2.heap.size + 1 ∧ True := ⟨_, _, rfl, rfl, trivial⟩
      rotate_left
      obtain ⟨b7, b6, e7, e6, eA⟩ : ∃ b7 b6, b7 = w2.heap.size ∧ b6 = w2.heap.size + 1 ∧ True := ⟨_, _, rfl, rfl, trivial⟩
      rotate_left
      all_goals
        clear eA
        generalize hW : World.drew _ = W
        have hE2W : Ext w2 W := by rw [← hW]; exact ((Ext.alloc _ _).trans (Ext.alloc _ _)).trans (Ext.drew _)
        have hA : Box W w2.heap.size 24 #[.int .i64 x, .int .i64 y] := by rw [← hW]; exact ((Box.new _ _ _).alloc _).drew
        have hB : Box W (w2.heap.size + 1) 24 #[.int .i64 x, .int .i64 y] := by rw [← hW]; exact Box.at1.drew
        have B6 : Box W b6 24 #[.int .i64 x, .int .i64 y] := by rw [e6]; first | exact hA | exact hB
        have B7 : Box W b7 24 #[.int .i64 x, .int .i64 y] := by rw [e7]; first | exact hA | exact hB
        have h6 : w2.heap.size ≤ b6 := by omega
        have h7 : w2.heap.size ≤ b7 := by omega
        have hne : b6 ≠ b7 := by omega
        have hne' : b7 ≠ b6 := by omega
        first
          | rw [← e7, ← e6]
          | rw [← e6, ← e7]
        have B2W := B2.ext hE2W
        have B3W := B3.ext hE2W
        have hEW := hE'.trans hE2W
        clear hW hA hB e6 e7 c0 c1 n0 n1
        go_wp2_with fail
        go_loopw [9, 30] (fun _ i wr => ∃ k : Nat, k ≤ m ∧ i = .int .i64 k ∧ Box wr w.heap.size 24 #[.int .i64 0, .int .i64 0] ∧ Box wr (w.heap.size + 1) 24 #[.int .i64 0, .int .i64 0] ∧ Box wr b6 24 #[.int .i64 ((l.take k).foldl minP (x, y)).1, .int .i64 ((l.take k).foldl minP (x, y)).2] ∧ Box wr b7 24 #[.int .i64 ((l.take k).foldl maxP (x, y)).1, .int .i64 ((l.take k).foldl maxP (x, y)).2] ∧ Ext w wr ∧ Ext w2 wr) (fun _ i _ => m - (intOf i).toNat)
        case atStart => exact ⟨0, Nat.zero_le _, rfl, B2W, B3W, B6, B7, hEW, hE2W⟩
        case round =>
          clear B6 B7 B2W B3W hEW hE2W
          obtain ⟨k, hk, rfl, B2W, B3W, B6, B7, hEr, hE2r⟩ := hrel
          by_cases hlt : k < m
          · obtain ⟨⟨px, py⟩, hlk⟩ : ∃ q, l[k]? = some q := ⟨_, List.getElem?_eq_getElem (by rw [← HM.out]; exact hlt)⟩
            have hf1 := fold_take (f := minP) (q := (x, y)) hlk
            have hf2 := fold_take (f := maxP) (q := (x, y)) hlk
            have c0 := hE2r.cell (HCELL.out k _ hlk).1
            have c1 := hE2r.cell (HCELL.out k _ hlk).2
            generalize (l.take k).foldl minP (x, y) = lo at *
            generalize (l.take k).foldl maxP (x, y) = hi at *
            have HF1 := Lib.hid hf1
            have HF2 := Lib.hid hf2
            have hn6 : ¬ b6 = wr.heap.size := by have := B6.lt; omega
            have hn7 : ¬ b7 = wr.heap.size := by have := B7.lt; omega
            have k6 := B6.cell; have k7 := B7.cell; have f6 := B6.frozen; have f7 := B7.frozen
            have s2 := B3W.lt
            clear hf1 hf2 hlk
            go_wp2
            go_roundw
            case rel =>
              refine ⟨k + 1, by omega, by go_num, ?_, ?_, ?_, ?_, ?_, ?_⟩
              · exact ((B2W.alloc _).far2 (by omega) _ _ _ _).far2 (by omega) _ _ _ _
              · exact ((B3W.alloc _).far2 (by omega) _ _ _ _).far2 (by omega) _ _ _ _
              · rw [HF1.out]
                exact ((B6.alloc _).set2 _ _).far2 hne _ _ _ _
              · rw [HF2.out]
                exact ((B7.alloc _).far2 hne' _ _ _ _).set2 _ _
              · exact ((hEr.trans (Ext.alloc _ _)).set2 (by have := hE'.size; omega) _ _).set2 (by have := hE'.size; omega) _ _
              · exact ((hE2r.trans (Ext.alloc _ _)).set2 h6 _ _).set2 h7 _ _
            case measure => simp [intOf]; omega
          · have hfin : l.take k = l := List.take_of_length_le (by rw [← HM.out]; omega)
            rw [hfin] at B6 B7
            clear hfin
            have ho := E.out
            generalize l.foldl minP (x, y) = lo at *
            generalize l.foldl maxP (x, y) = hi at *
            have HO := Lib.hid ho
            clear ho
            have k6 := B6.cell; have k7 := B7.cell
            have k2 := B2W.cell; have k3 := B3W.cell; have f2 := B2W.frozen; have f3 := B3W.frozen
            have s2 := B3W.lt
            have q6 : ¬ w.heap.size = b6 := by have := hE'.size; omega
            have q7 : ¬ w.heap.size = b7 := by have := hE'.size; omega
            have r6 : ¬ w.heap.size + 1 = b6 := by have := hE'.size; omega
            have r7 : ¬ w.heap.size + 1 = b7 := by have := hE'.size; omega
            go_wp2_with fail
            go_region_held3 (fun w' => w'.cell? ⟨b6, 0, none⟩ = some (.int .i64 lo.1) ∧ w'.cell? ⟨b6, 1, none⟩ = some (.int .i64 lo.2) ∧ w'.cell? ⟨b7, 0, none⟩ = some (.int .i64 hi.1) ∧ w'.cell? ⟨b7, 1, none⟩ = some (.int .i64 hi.2)) (go_keep) (fail)
            go_wp2
            exact bodyPost_ret (v := bndV (lo, hi, true)) (by simp [results, Try.results16, go_sem, bndV, k2, k3, f2, f3]) rfl ⟨by rw [HO.out], ((hEr.set2 (Nat.le_refl _) _ _).set2 (Nat.le_succ _) _ _).trans (Ext.drew _)⟩
end Go.Proofs.Ythfeamlioiaebaa
