/- The reference's Bounds. -/
import Derived.Test.YthfeamlioiaebaaBounds
set_option linter.unusedVariables false
set_option linter.unusedSimpArgs false
namespace Go.Proofs.Ythfeamlioiaebaa
open Go.RowKit Go.Par

def stepB (s : P2 × P2 × Bool) (p : P2) : P2 × P2 × Bool := (minP (if s.2.2 then s.1 else p) p, maxP (if s.2.2 then s.2.1 else p) p, true)
theorem fold_step (l : List P2) (a b : P2) : l.foldl stepB (a, b, true) = (l.foldl minP a, l.foldl maxP b, true) := by
  induction l generalizing a b with
  | nil => rfl
  | cons p l ih => exact ih _ _
theorem boundsF_fold (l : List P2) : boundsF l = l.foldl stepB ((0, 0), (0, 0), false) := by
  cases l with
  | nil => rfl
  | cons p l => exact (fold_step l (minP p p) (maxP p p)).symm
theorem boundsF_snoc (l : List P2) (p : P2) : boundsF (l ++ [p]) = stepB (boundsF l) p := by
  simp [boundsF_fold, List.foldl_append]
theorem take_snoc {l : List P2} {k : Nat} {p : P2} (h : l[k]? = some p) : l.take (k + 1) = l.take k ++ [p] := by
  rw [List.take_add_one, h]; rfl

set_option maxRecDepth 100000 in
set_option maxHeartbeats 3200000 in
theorem rBounds_any (L : List (List P2)) (A : Option Addr) (c : Nat) (w : World) (hc : L.length ≤ 17592186044416) (hL : RingsAt w A L) :
    Calls Try.prog 17 #[.slice A L.length c] w fun e w' => e = .returned (bndV (boundsS L)) ∧ Ext w w' := by
  have HV := Lib.hid (fun W (h : Ext w W) => rValid_any L A c W hc (hL.ext h))
  obtain ⟨n, hn⟩ : ∃ n, n = L.length := ⟨_, rfl⟩
  rw [← hn] at HV hc ⊢
  have HN := Lib.hid hn
  clear hn
  go_enter Try.func17, Try.ntmps17
  go_wp2_with fail
  generalize e6 : w.heap.size + 1 + 1 + 1 = b6
  generalize e5 : w.heap.size + 1 + 1 = b5
  generalize e3 : w.heap.size + 1 = b3
  have q1 : ¬ w.heap.size = b5 := by omega
  have q2 : ¬ w.heap.size = b6 := by omega
  have q3 : ¬ b3 = b5 := by omega
  have q4 : ¬ b3 = b6 := by omega
  have q5 : ¬ b5 = b6 := by omega
  have q6 : ¬ b6 = b5 := by omega
  have q7 : w.heap.size ≤ b3 := by omega
  have q8 : w.heap.size ≤ b5 := by omega
  have q9 : w.heap.size ≤ b6 := by omega
  have q0 : ¬ b5 = w.heap.size := by omega
  have q0' : ¬ b6 = w.heap.size := by omega
  have q3' : ¬ b5 = b3 := by omega
  have q4' : ¬ b6 = b3 := by omega
  have q2' : ¬ w.heap.size = b3 := by omega
  go_loopw [7, 8, 9, 10] (fun f i _ _ wr => ∃ k : Nat, k ≤ n ∧ (validL L = true ∨ k = 0) ∧ i = .int .i64 k ∧ f = .bool (boundsF (L.take k).flatten).2.2 ∧ Box wr w.heap.size 24 #[.int .i64 0, .int .i64 0] ∧ Box wr b3 24 #[.int .i64 0, .int .i64 0] ∧ Box wr b5 24 #[.int .i64 (boundsF (L.take k).flatten).1.1, .int .i64 (boundsF (L.take k).flatten).1.2] ∧ Box wr b6 24 #[.int .i64 (boundsF (L.take k).flatten).2.1.1, .int .i64 (boundsF (L.take k).flatten).2.1.2] ∧ Ext w wr) (fun _ i _ _ _ => n - (intOf i).toNat)
  case atStart => exact ⟨0, Nat.zero_le _, .inr rfl, rfl, rfl, (((Box.new _ _ _).alloc _).alloc _).alloc _, e3 ▸ (Box.at1.alloc _).alloc _, e5 ▸ Box.at2.alloc _, e6 ▸ Box.at3, (((Ext.alloc _ _).trans (Ext.alloc _ _)).trans (Ext.alloc _ _)).trans (Ext.alloc _ _)⟩
  case round =>
    clear e3 e5 e6
    obtain ⟨k, hk, hvk, rfl, rfl, B2, B3, B5, B6, hE⟩ := hrel
    have hend : ∀ v : P2 × P2 × Bool, boundsF (L.take k).flatten = v → (k = n ∨ validL L = false) → boundsS L = v := by
      rintro v rfl h
      rcases h with h | h
      · have e : L.take k = L := List.take_of_length_le (by rw [← HN.out]; omega)
        unfold boundsS
        rw [e]
        rcases hvk with hv | h0
        · rw [hv]; rfl
        · have : L = [] := List.eq_nil_of_length_eq_zero (by rw [← HN.out]; omega)
          subst this
          split <;> rfl
      · unfold boundsS
        rw [h]
        rcases hvk with hv | h0
        · rw [h] at hv; cases hv
        · subst h0; rfl
    have HEND := Lib.hid hend
    clear hend
    obtain ⟨t, ht⟩ : ∃ t, t = (L.take k).flatten := ⟨_, rfl⟩
    rw [← ht] at HEND B5 B6 ⊢
    have HT := Lib.hid ht
    clear ht
    by_cases hlt : k < n
    · have d1 : decide ((k : Int) < (n : Int)) = true := by rw [decide_eq_true_eq]; omega
      go_wp2_with fail
      refine (HV.out _ hE).mono ?_
      rintro e w1 ⟨rfl, hE1⟩
      have C2 := B2.ext hE1; have C3 := B3.ext hE1; have C5 := B5.ext hE1; have C6 := B6.ext hE1
      have hE2 := hE.trans hE1
      clear B2 B3 B5 B6 hE1 hE
      cases hv : validL L
      · have E := Lib.hid (HEND.out _ rfl (.inr hv))
        generalize boundsF t = v at *
        obtain ⟨⟨v1, v2⟩, ⟨v3, v4⟩, v5⟩ := v
        have k5 := C5.cell; have k6 := C6.cell
        have k2 := C2.cell; have k3 := C3.cell; have f2 := C2.frozen; have f3 := C3.frozen
        have s2 := C3.lt
        go_wp2_with fail
        go_region_held3 (fun w' => w'.cell? ⟨b5, 0, none⟩ = some (.int .i64 v1) ∧ w'.cell? ⟨b5, 1, none⟩ = some (.int .i64 v2) ∧ w'.cell? ⟨b6, 0, none⟩ = some (.int .i64 v3) ∧ w'.cell? ⟨b6, 1, none⟩ = some (.int .i64 v4)) (go_keep) (fail)
        go_wp2
        exact bodyPost_ret (v := bndV ((v1, v2), (v3, v4), v5)) (by simp [results, Try.results17, go_sem, bndV, k2, k3, f2, f3]) rfl ⟨by rw [E.out], ((hE2.set2 (Nat.le_refl _) _ _).set2 q7 _ _).trans (Ext.drew _)⟩
      · obtain ⟨r, hlk⟩ : ∃ r, L[k]? = some r := ⟨_, List.getElem?_eq_getElem (by rw [← HN.out]; exact hlt)⟩
        obtain ⟨b, o, rfl, hcell⟩ := hL (fun e => by rw [e] at hlk; simp at hlk)
        obtain ⟨v, c0, A', c', rfl, hlc, hlb, hP⟩ := hcell k r hlk
        have hfl := flatten_take_succ hlk
        rw [← HT.out] at hfl
        have HFL := Lib.hid hfl
        clear hfl hcell HEND d1
        obtain ⟨m, hm⟩ : ∃ m, m = r.length := ⟨_, rfl⟩
        rw [← hm] at hlc hlb c0
        have HM := Lib.hid hm
        clear hm hlk
        go_wp2_with fail
        go_loopw [7, 9, 10] (fun f i _ wr => ∃ j : Nat, j ≤ m ∧ i = .int .i64 j ∧ f = .bool (boundsF (t ++ r.take j)).2.2 ∧ Box wr w.heap.size 24 #[.int .i64 0, .int .i64 0] ∧ Box wr b3 24 #[.int .i64 0, .int .i64 0] ∧ Box wr b5 24 #[.int .i64 (boundsF (t ++ r.take j)).1.1, .int .i64 (boundsF (t ++ r.take j)).1.2] ∧ Box wr b6 24 #[.int .i64 (boundsF (t ++ r.take j)).2.1.1, .int .i64 (boundsF (t ++ r.take j)).2.1.2] ∧ Ext w wr) (fun _ i _ _ => m - (intOf i).toNat)
        case atStart => exact ⟨0, Nat.zero_le _, rfl, by simp, C2, C3, by simpa using C5, by simpa using C6, hE2⟩
        case round =>
          clear C2 C3 C5 C6 hE2
          obtain ⟨j, hj, rfl, rfl, B2, B3, B5, B6, hE⟩ := hrel
          by_cases hlt' : j < m
          · obtain ⟨⟨px, py⟩, hlk⟩ : ∃ q, r[j]? = some q := ⟨_, List.getElem?_eq_getElem (by rw [← HM.out]; exact hlt')⟩
            have hst : boundsF (t ++ r.take (j + 1)) = stepB (boundsF (t ++ r.take j)) (px, py) := by
              rw [take_snoc hlk, ← List.append_assoc, boundsF_snoc]
            obtain ⟨b', o', rfl, hcell'⟩ := hP (fun e => by rw [e] at hlk; simp at hlk)
            have e0 := hE.cell c0
            have e1 := hE.cell (hcell' j _ hlk).1
            have e2 := hE.cell (hcell' j _ hlk).2
            generalize boundsF (t ++ r.take j) = v at *
            obtain ⟨⟨v1, v2⟩, ⟨v3, v4⟩, v5⟩ := v
            have HST := Lib.hid hst
            have hn5 : ¬ b5 = wr.heap.size := by have := B5.lt; omega
            have hn6 : ¬ b6 = wr.heap.size := by have := B6.lt; omega
            have hn5' : ¬ wr.heap.size = b5 := by have := B5.lt; omega
            have hn6' : ¬ wr.heap.size = b6 := by have := B6.lt; omega
            have k5 := B5.cell; have k6 := B6.cell; have f5 := B5.frozen; have f6 := B6.frozen
            clear hst hlk hcell'
            cases v5
            · go_wp2_with fail
              go_region_held3 (fun w' => w'.cell? ⟨wr.heap.size, 0, none⟩ = some (.int .i64 px) ∧ w'.cell? ⟨wr.heap.size, 1, none⟩ = some (.int .i64 py)) (go_keep) (fail)
              have hs : stepB ((v1, v2), (v3, v4), false) (px, py) = ((px, py), (px, py), true) := by simp [stepB, minP, maxP]
              have h2 := HST.out
              rw [hs] at h2
              have HH := Lib.hid h2
              clear h2 hs
              go_wp2
              go_roundw
              case rel =>
                refine ⟨j + 1, by omega, by go_num, by rw [HH.out], ?_, ?_, ?_, ?_, ?_⟩
                · exact (((((B2.alloc _).far2 q1 _ _ _ _).far2 q2 _ _ _ _).far2 q1 _ _ _ _).far2 q2 _ _ _ _).drew
                · exact (((((B3.alloc _).far2 q3 _ _ _ _).far2 q4 _ _ _ _).far2 q3 _ _ _ _).far2 q4 _ _ _ _).drew
                · rw [HH.out]
                  exact (((((B5.alloc _).set2 _ _).far2 q5 _ _ _ _).set2 _ _).far2 q5 _ _ _ _).drew
                · rw [HH.out]
                  exact (((((B6.alloc _).far2 q6 _ _ _ _).set2 _ _).far2 q6 _ _ _ _).set2 _ _).drew
                · exact (((((hE.trans (Ext.alloc _ _)).set2 q8 _ _).set2 q9 _ _).set2 q8 _ _).set2 q9 _ _).trans (Ext.drew _)
              case measure => simp [intOf]; omega
            · go_wp2
              go_roundw
              case rel =>
                refine ⟨j + 1, by omega, by go_num, by rw [HST.out]; rfl, ?_, ?_, ?_, ?_, ?_⟩
                · exact ((B2.alloc _).far2 q1 _ _ _ _).far2 q2 _ _ _ _
                · exact ((B3.alloc _).far2 q3 _ _ _ _).far2 q4 _ _ _ _
                · rw [HST.out]
                  exact ((B5.alloc _).set2 _ _).far2 q5 _ _ _ _
                · rw [HST.out]
                  exact ((B6.alloc _).far2 q6 _ _ _ _).set2 _ _
                · exact ((hE.trans (Ext.alloc _ _)).set2 q8 _ _).set2 q9 _ _
              case measure => simp [intOf]; omega
          · have hfin : r.take j = r := List.take_of_length_le (by rw [← HM.out]; omega)
            rw [hfin] at B5 B6 ⊢
            clear hfin
            have e0 := hE.cell c0
            go_wp2
            go_roundw
            case rel => exact ⟨k + 1, by omega, .inl hv, by go_num, by rw [HFL.out], B2, B3, by rw [HFL.out]; exact B5, by rw [HFL.out]; exact B6, hE⟩
            case measure => simp [intOf]; omega
    · have E := Lib.hid (HEND.out _ rfl (.inl (by omega)))
      generalize boundsF t = v at *
      obtain ⟨⟨v1, v2⟩, ⟨v3, v4⟩, v5⟩ := v
      have k5 := B5.cell; have k6 := B6.cell
      have k2 := B2.cell; have k3 := B3.cell; have f2 := B2.frozen; have f3 := B3.frozen
      have s2 := B3.lt
      go_wp2_with fail
      go_region_held3 (fun w' => w'.cell? ⟨b5, 0, none⟩ = some (.int .i64 v1) ∧ w'.cell? ⟨b5, 1, none⟩ = some (.int .i64 v2) ∧ w'.cell? ⟨b6, 0, none⟩ = some (.int .i64 v3) ∧ w'.cell? ⟨b6, 1, none⟩ = some (.int .i64 v4)) (go_keep) (fail)
      go_wp2
      exact bodyPost_ret (v := bndV ((v1, v2), (v3, v4), v5)) (by simp [results, Try.results17, go_sem, bndV, k2, k3, f2, f3]) rfl ⟨by rw [E.out], ((hE.set2 (Nat.le_refl _) _ _).set2 q7 _ _).trans (Ext.drew _)⟩
end Go.Proofs.Ythfeamlioiaebaa
