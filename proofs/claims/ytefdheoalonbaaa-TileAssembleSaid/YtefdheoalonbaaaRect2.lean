/- Intersect, PixelIndex in both. -/
import Derived.Test.YtefdheoalonbaaaTileCnt
import Derived.BigRegion
set_option linter.unusedVariables false
set_option linter.unusedSimpArgs false
namespace Go.Proofs.Ytefdheoalonbaaa
open Go.RowKit Go.Par

def pixS (r : R4) (x y : Int) : Int := if rectHasS r x y then (y - r.2.1) * (r.2.2.1 - r.1) + x - r.1 else -1
theorem has_facts {r : R4} {x y : Int} (h : rectHasS r x y = true) : rectEmptyS r = false ∧ r.1 ≤ x ∧ x < r.2.2.1 ∧ r.2.1 ≤ y ∧ y < r.2.2.2 := by
  rw [← has_eq] at h
  simpa [hasR, and_assoc] using h
theorem canon_self {r : R4} (h : rectEmptyS r = false) : rectCanonS r = r := by unfold rectCanonS; rw [h]; rfl
theorem pix_bd {r : R4} {x y : Int} (h : rectHasS r x y = true) : 0 ≤ (y - r.2.1) * (r.2.2.1 - r.1) ∧ (y - r.2.1) * (r.2.2.1 - r.1) ≤ 67108864 ∧ 0 ≤ (y - r.2.1) * (r.2.2.1 - r.1) + x - r.1 ∧ (y - r.2.1) * (r.2.2.1 - r.1) + x - r.1 < areaR r := by
  obtain ⟨h1, h2, h3, h4, h5⟩ := has_facts h
  obtain ⟨b1, b2, b3, b4, b5, b6⟩ := empty_false h1
  have m := mul_le (a := 8192) (b := 8192) (x := y - r.2.1) (y := r.2.2.1 - r.1) (by omega) (by omega) (by omega) (by omega)
  have hb : (y - r.2.1) * (r.2.2.1 - r.1) ≤ (r.2.2.2 - r.2.1 - 1) * (r.2.2.1 - r.1) := Int.mul_le_mul_of_nonneg_right (by omega) (by omega)
  have e : areaR r = (r.2.2.1 - r.1) * (r.2.2.2 - r.2.1) := by unfold areaR; rw [canon_self h1]
  rw [e]
  generalize hW : r.2.2.1 - r.1 = W at *
  generalize hH : r.2.2.2 - r.2.1 = H at *
  have hb2 : (H - 1) * W = W * H - W := by rw [Int.sub_mul, Int.one_mul, Int.mul_comm]
  rw [hb2] at hb
  generalize W * H = A at *
  generalize (y - r.2.1) * W = B at *
  refine ⟨m.1, by omega, by omega, by omega⟩
set_option maxHeartbeats 800000 in
theorem pPixIx_any (a b c d x y : Int) (w : World) :
    Calls Try.prog 53 #[.agg #[.int .i64 a, .int .i64 b, .int .i64 c, .int .i64 d], .int .i64 x, .int .i64 y] w fun e w' => e = .returned (.int .i64 (pixS (a, b, c, d) x y)) ∧ Ext w w' := by
  have HP := Lib.hid (show pixS (a, b, c, d) x y = if rectHasS (a, b, c, d) x y then (y - b) * (c - a) + x - a else -1 from rfl)
  go_enter Try.func53, Try.ntmps53
  go_wp2_with fail
  refine (pHas_any _ _ _ _ _ _ _).mono ?_
  rintro e w1 ⟨rfl, hE⟩
  have B := (Box.new _ _ _).ext hE
  have k := B.cell
  have hE' := (Ext.alloc _ _).trans hE
  clear hE
  cases hh : rectHasS (a, b, c, d) x y
  · have HR := Lib.hid (show pixS (a, b, c, d) x y = -1 from by rw [HP.out, hh]; rfl)
    clear HP
    go_wp2
    go_ret
    exact ⟨ret_eq (by rw [HR.out]; rfl), hE'⟩
  · obtain ⟨h1, h2, h3, h4, h5⟩ := has_facts hh
    obtain ⟨b1, b2, b3, b4, b5, b6⟩ := empty_false h1
    obtain ⟨p1, p2, p3, p4⟩ := pix_bd hh
    simp only at h2 h3 h4 h5 b1 b2 b3 b4 b5 b6 p1 p2 p3 p4
    have HR := Lib.hid (show pixS (a, b, c, d) x y = (y - b) * (c - a) + x - a from by rw [HP.out, hh]; rfl)
    have q1 : IntKind.i64.wrap (y - b) = y - b := IntWalk.i64_in _ (by omega)
    have q2 : IntKind.i64.wrap (c - a) = c - a := IntWalk.i64_in _ (by omega)
    generalize hm : (y - b) * (c - a) = m at *
    have q3 : IntKind.i64.wrap m = m := IntWalk.i64_in _ (by omega)
    have q4 : IntKind.i64.wrap (m + x) = m + x := IntWalk.i64_in _ (by omega)
    have q5 : IntKind.i64.wrap (m + x - a) = m + x - a := IntWalk.i64_in _ (by omega)
    clear HP h1 h2 h3 h4 h5 b1 b2 b3 b4 b5 b6 p1 p2 p3 p4
    go_wp2
    go_ret
    exact ⟨ret_eq (by rw [HR.out]; rfl), hE'⟩
set_option maxHeartbeats 800000 in
theorem rPixIx_any (a b c d x y : Int) (w : World) :
    Calls Try.prog 54 #[.agg #[.int .i64 a, .int .i64 b, .int .i64 c, .int .i64 d], .int .i64 x, .int .i64 y] w fun e w' => e = .returned (.int .i64 (pixS (a, b, c, d) x y)) ∧ Ext w w' := by
  have HP := Lib.hid (show pixS (a, b, c, d) x y = if rectHasS (a, b, c, d) x y then (y - b) * (c - a) + x - a else -1 from rfl)
  go_enter Try.func54, Try.ntmps54
  go_wp2_with fail
  refine (rectHas_any _ _ _ _ _ _ _).mono ?_
  rintro e w1 ⟨rfl, hE⟩
  have B := (Box.new _ _ _).ext hE
  have k := B.cell
  have hE' := (Ext.alloc _ _).trans hE
  clear hE
  cases hh : rectHasS (a, b, c, d) x y
  · have HR := Lib.hid (show pixS (a, b, c, d) x y = -1 from by rw [HP.out, hh]; rfl)
    clear HP
    go_wp2
    go_ret
    exact ⟨ret_eq (by rw [HR.out]; rfl), hE'⟩
  · obtain ⟨h1, h2, h3, h4, h5⟩ := has_facts hh
    obtain ⟨b1, b2, b3, b4, b5, b6⟩ := empty_false h1
    obtain ⟨p1, p2, p3, p4⟩ := pix_bd hh
    simp only at h2 h3 h4 h5 b1 b2 b3 b4 b5 b6 p1 p2 p3 p4
    have HR := Lib.hid (show pixS (a, b, c, d) x y = (y - b) * (c - a) + x - a from by rw [HP.out, hh]; rfl)
    have q1 : IntKind.i64.wrap (y - b) = y - b := IntWalk.i64_in _ (by omega)
    have q2 : IntKind.i64.wrap (c - a) = c - a := IntWalk.i64_in _ (by omega)
    generalize hm : (y - b) * (c - a) = m at *
    have q3 : IntKind.i64.wrap m = m := IntWalk.i64_in _ (by omega)
    have q4 : IntKind.i64.wrap (m + x) = m + x := IntWalk.i64_in _ (by omega)
    have q5 : IntKind.i64.wrap (m + x - a) = m + x - a := IntWalk.i64_in _ (by omega)
    clear HP h1 h2 h3 h4 h5 b1 b2 b3 b4 b5 b6 p1 p2 p3 p4
    go_wp2
    go_ret
    exact ⟨ret_eq (by rw [HR.out]; rfl), hE'⟩
theorem _root_.Go.Par.Box.far4 {w : World} {b c : Nat} {t : TypeId} {cs : Array Value} (h : Box w b t cs) (hc : b ≠ c) (i j k l : Nat) (u0 u1 u2 u3 : Value) : Box ((((w.setCell ⟨c, i, none⟩ u0).setCell ⟨c, j, none⟩ u1).setCell ⟨c, k, none⟩ u2).setCell ⟨c, l, none⟩ u3) b t cs :=
  (((h.far (p := ⟨c, i, none⟩) hc u0).far (p := ⟨c, j, none⟩) hc u1).far (p := ⟨c, k, none⟩) hc u2).far (p := ⟨c, l, none⟩) hc u3
/-- the common part -/
def interS (r s : R4) : R4 := rectCanonS (max (rectCanonS r).1 (rectCanonS s).1, max (rectCanonS r).2.1 (rectCanonS s).2.1, min (rectCanonS r).2.2.1 (rectCanonS s).2.2.1, min (rectCanonS r).2.2.2 (rectCanonS s).2.2.2)
set_option maxHeartbeats 1600000 in
theorem pInter_any (a b c d p q r s : Int) (w : World) :
    Calls Try.prog 52 #[.agg #[.int .i64 a, .int .i64 b, .int .i64 c, .int .i64 d], .agg #[.int .i64 p, .int .i64 q, .int .i64 r, .int .i64 s]] w fun e w' => e = .returned (rectV (interS (a, b, c, d) (p, q, r, s))) ∧ Ext w w' := by
  have HI := Lib.hid (show interS (a, b, c, d) (p, q, r, s) = rectCanonS (max (rectCanonS (a, b, c, d)).1 (rectCanonS (p, q, r, s)).1, max (rectCanonS (a, b, c, d)).2.1 (rectCanonS (p, q, r, s)).2.1, min (rectCanonS (a, b, c, d)).2.2.1 (rectCanonS (p, q, r, s)).2.2.1, min (rectCanonS (a, b, c, d)).2.2.2 (rectCanonS (p, q, r, s)).2.2.2) from rfl)
  have H1 := Lib.hid (fun W => pCanon_any a b c d W)
  have H2 := Lib.hid (fun W => pCanon_any p q r s W)
  generalize rectCanonS (a, b, c, d) = r1 at *
  generalize rectCanonS (p, q, r, s) = r2 at *
  obtain ⟨a1, a2, a3, a4⟩ := r1
  obtain ⟨p1, p2, p3, p4⟩ := r2
  unfold rectV at H1 H2
  simp only at HI
  have H3 := Lib.hid (fun W => pCanon_any (max a1 p1) (max a2 p2) (min a3 p3) (min a4 p4) W)
  rw [← HI.out] at H3
  clear HI
  generalize interS (a, b, c, d) (p, q, r, s) = rr at *
  obtain ⟨s1, s2, s3, s4⟩ := rr
  unfold rectV at H3
  have m1 : (if a1 < p1 then p1 else a1) = max a1 p1 := by split <;> omega
  have m2 : (if a2 < p2 then p2 else a2) = max a2 p2 := by split <;> omega
  have m1' : (if p1 < a1 then a1 else p1) = max a1 p1 := by split <;> omega
  have m2' : (if p2 < a2 then a2 else p2) = max a2 p2 := by split <;> omega
  have m3 : (if p3 < a3 then p3 else a3) = min a3 p3 := by split <;> omega
  have m4 : (if p4 < a4 then p4 else a4) = min a4 p4 := by split <;> omega
  go_enter Try.func52, Try.ntmps52
  go_wp2_with fail
  apply wp_region_par' 4 (by kernel_rfl) (by kernel_rfl) rfl
  simp only [List.take_succ_cons, List.take_zero, List.drop_succ_cons, List.drop_zero]
  generalize hW : World.drew _ = W
  have hE : Ext w W := by rw [← hW]; exact (((Ext.alloc _ _).trans (Ext.alloc _ _)).trans (Ext.alloc _ _)).trans (Ext.drew _)
  have b2 : Box W w.heap.size 23 #[.int .i64 a, .int .i64 b, .int .i64 c, .int .i64 d] := by rw [← hW]; exact (((Box.new _ _ _).alloc _).alloc _).drew
  have b3 : Box W (w.heap.size + 1) 23 #[.int .i64 p, .int .i64 q, .int .i64 r, .int .i64 s] := by rw [← hW]; exact (Box.at1.alloc _).drew
  have b4 : Box W (w.heap.size + 1 + 1) 23 #[.int .i64 0, .int .i64 0, .int .i64 0, .int .i64 0] := by rw [← hW]; exact Box.at2.drew
  clear hW
  have c2 := b2.lcell
  have c3 := b3.lcell
  iterate 4
    refine parW_step rfl (fun K hK => ?_)
    apply Exists.intro
    refine ⟨fun z => ?_, ?_⟩
    focus
      go_simp
      first
        | rfl
        | with_reducible exact calls_val (H1.out _)
        | with_reducible exact calls_val (H2.out _)
    go_simp
    refine hK _ ?_
    clear hK K
  refine parW_end (fun z => ?_)
  replace hE := hE.later z
  replace b2 := b2.later z
  replace b3 := b3.later z
  replace b4 := b4.later z
  generalize z.val = Z at *
  clear c2 c3 z
  have c2 := b2.cell
  have f2 := b2.frozen
  have c3 := b3.cell
  have f3 := b3.frozen
  go_wp2_with fail
  refine (H3.out _).mono ?_
  rintro e w3 ⟨rfl, hE3⟩
  have E8 := ((hE.set4 (Nat.le_refl _) (i := 0) (j := 1) (k := 2) (l := 3) (.int .i64 a1) (.int .i64 a2) (.int .i64 a3) (.int .i64 a4)).set4 (Nat.le_succ _) (i := 0) (j := 1) (k := 2) (l := 3) (.int .i64 p1) (.int .i64 p2) (.int .i64 p3) (.int .i64 p4)).trans hE3
  have b5 := (Box.ext ((b4.far4 (c := w.heap.size) (by omega) 0 1 2 3 (.int .i64 a1) (.int .i64 a2) (.int .i64 a3) (.int .i64 a4)).far4 (c := w.heap.size + 1) (by omega) 0 1 2 3 (.int .i64 p1) (.int .i64 p2) (.int .i64 p3) (.int .i64 p4)) hE3)
  clear b4 b2 b3 c2 f2 c3 f3 hE3 hE m1 m2 m1' m2' m3 m4
  have c4 := b5.cell
  have f4 := b5.frozen
  go_wp2
  exact bodyPost_ret (v := rectV (s1, s2, s3, s4)) (by simp [results, Try.results52, go_sem, rectV, c4, f4]) rfl ⟨rfl, E8.set4 (by omega) _ _ _ _⟩
theorem inter_empty {r s : R4} (h : rectEmptyS r = true ∨ rectEmptyS s = true) : interS r s = (0, 0, 0, 0) := by
  obtain ⟨h1, h2, h3, h4, h5, h6⟩ := canon_in r
  obtain ⟨k1, k2, k3, k4, k5, k6⟩ := canon_in s
  unfold interS
  have hz : ∀ q : R4, rectEmptyS q = true → rectCanonS q = (0, 0, 0, 0) := fun q hq => by unfold rectCanonS; rw [hq]; rfl
  have hm : ∀ q : R4, q.2.2.1 ≤ q.1 → rectEmptyS q = true := fun q hq => by unfold rectEmptyS; rw [decide_eq_true hq]; simp
  apply hz
  apply hm
  rcases h with h | h
  · have e := hz r h
    have e1 : (rectCanonS r).1 = 0 := by rw [e]
    have e3 : (rectCanonS r).2.2.1 = 0 := by rw [e]
    show min _ _ ≤ max _ _
    omega
  · have e := hz s h
    have e1 : (rectCanonS s).1 = 0 := by rw [e]
    have e3 : (rectCanonS s).2.2.1 = 0 := by rw [e]
    show min _ _ ≤ max _ _
    omega
set_option maxHeartbeats 1600000 in
theorem rInter_any (a b c d p q r s : Int) (w : World) :
    Calls Try.prog 72 #[.agg #[.int .i64 a, .int .i64 b, .int .i64 c, .int .i64 d], .agg #[.int .i64 p, .int .i64 q, .int .i64 r, .int .i64 s]] w fun e w' => e = .returned (rectV (interS (a, b, c, d) (p, q, r, s))) ∧ Ext w w' := by
  have H1 := Lib.hid (fun W => rectEmpty_any a b c d W)
  have H2 := Lib.hid (fun W => rectEmpty_any p q r s W)
  have HZ := Lib.hid (inter_empty (r := (a, b, c, d)) (s := (p, q, r, s)))
  have HN := Lib.hid (fun (h1 : rectEmptyS (a, b, c, d) = false) (h2 : rectEmptyS (p, q, r, s) = false) => show interS (a, b, c, d) (p, q, r, s) = rectCanonS (max a p, max b q, min c r, min d s) from by unfold interS; rw [canon_self h1, canon_self h2])
  go_enter Try.func72, Try.ntmps72
  have b2 : Box (((w.alloc (.cells #[.int .i64 a, .int .i64 b, .int .i64 c, .int .i64 d] 23)).alloc (.cells #[.int .i64 p, .int .i64 q, .int .i64 r, .int .i64 s] 23)).alloc (.cells #[.int .i64 0, .int .i64 0, .int .i64 0, .int .i64 0] 23)) w.heap.size 23 #[.int .i64 a, .int .i64 b, .int .i64 c, .int .i64 d] := ((Box.new _ _ _).alloc _).alloc _
  have b3 : Box (((w.alloc (.cells #[.int .i64 a, .int .i64 b, .int .i64 c, .int .i64 d] 23)).alloc (.cells #[.int .i64 p, .int .i64 q, .int .i64 r, .int .i64 s] 23)).alloc (.cells #[.int .i64 0, .int .i64 0, .int .i64 0, .int .i64 0] 23)) (w.heap.size + 1) 23 #[.int .i64 p, .int .i64 q, .int .i64 r, .int .i64 s] := Box.at1.alloc _
  have b4 : Box (((w.alloc (.cells #[.int .i64 a, .int .i64 b, .int .i64 c, .int .i64 d] 23)).alloc (.cells #[.int .i64 p, .int .i64 q, .int .i64 r, .int .i64 s] 23)).alloc (.cells #[.int .i64 0, .int .i64 0, .int .i64 0, .int .i64 0] 23)) (w.heap.size + 1 + 1) 23 #[.int .i64 0, .int .i64 0, .int .i64 0, .int .i64 0] := Box.at2
  have hE := ((Ext.alloc w (.cells #[.int .i64 a, .int .i64 b, .int .i64 c, .int .i64 d] 23)).trans (Ext.alloc _ (.cells #[.int .i64 p, .int .i64 q, .int .i64 r, .int .i64 s] 23))).trans (Ext.alloc _ (.cells #[.int .i64 0, .int .i64 0, .int .i64 0, .int .i64 0] 23))
  go_wp2_with fail
  refine (H1.out _).mono ?_
  rintro e w1 ⟨rfl, hE1⟩
  replace b2 := b2.ext hE1
  replace b3 := b3.ext hE1
  replace b4 := b4.ext hE1
  replace hE := hE.trans hE1
  clear hE1
  have c2 := b2.cell
  have c3 := b3.cell
  have c4 := b4.cell
  have f4 := b4.frozen
  cases h1 : rectEmptyS (a, b, c, d)
  · go_wp2_with fail
    refine (H2.out _).mono ?_
    rintro e w2 ⟨rfl, hE1⟩
    replace b2 := b2.ext hE1
    replace b3 := b3.ext hE1
    replace b4 := b4.ext hE1
    replace hE := hE.trans hE1
    clear hE1 c2 c3 c4 f4
    have c2 := b2.cell
    have c3 := b3.cell
    have c4 := b4.cell
    have f4 := b4.frozen
    cases h2 : rectEmptyS (p, q, r, s)
    · have HC := Lib.hid (fun W => rectCanon_any (max a p) (max b q) (min c r) (min d s) W)
      have HR := Lib.hid (HN.out h1 h2)
      clear HN HZ h1 h2
      generalize rectCanonS (max a p, max b q, min c r, min d s) = rr at *
      obtain ⟨s1, s2, s3, s4⟩ := rr
      unfold rectV at HC
      have m1 : (if a < p then p else a) = max a p := by split <;> omega
      have m2 : (if b < q then q else b) = max b q := by split <;> omega
      have m1' : (if p < a then a else p) = max a p := by split <;> omega
      have m2' : (if q < b then b else q) = max b q := by split <;> omega
      have m3 : (if r < c then r else c) = min c r := by split <;> omega
      have m4 : (if s < d then s else d) = min d s := by split <;> omega
      go_wp2_with fail
      refine (HC.out _).mono ?_
      rintro e w3 ⟨rfl, hE1⟩
      replace b4 := b4.ext hE1
      replace hE := hE.trans hE1
      clear hE1 c2 c3 c4 f4 m1 m2 m1' m2' m3 m4
      have c4 := b4.cell
      have f4 := b4.frozen
      go_wp2
      exact bodyPost_ret (v := rectV (s1, s2, s3, s4)) (by simp [results, Try.results72, go_sem, rectV, c4, f4]) rfl ⟨by rw [HR.out], hE.set4 (by omega) _ _ _ _⟩
    · have HR := Lib.hid (HZ.out (.inr h2))
      clear HN HZ h1 h2
      go_wp2
      exact bodyPost_ret (v := rectV (0, 0, 0, 0)) (by simp [results, Try.results72, go_sem, rectV, c4, f4]) rfl ⟨by rw [HR.out], hE.set4 (by omega) _ _ _ _⟩
  · have HR := Lib.hid (HZ.out (.inl h1))
    clear HN HZ h1
    go_wp2
    exact bodyPost_ret (v := rectV (0, 0, 0, 0)) (by simp [results, Try.results72, go_sem, rectV, c4, f4]) rfl ⟨by rw [HR.out], hE.set4 (by omega) _ _ _ _⟩
end Go.Proofs.Ytefdheoalonbaaa
