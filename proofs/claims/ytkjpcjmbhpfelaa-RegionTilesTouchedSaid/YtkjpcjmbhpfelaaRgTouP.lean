/- TilesTouched of the program. -/
import Derived.Test.YtkjpcjmbhpfelaaRgTouR
set_option linter.unusedVariables false
set_option linter.unusedSimpArgs false
namespace Go.Reg
open Go.Proofs.Ytkjpcjmbhpfelaa Go.Par
theorem stored_skip {l : List R4} {k : Nat} {q r : R4} {w h v : Int} (hq : l[k]? = some q) (he : rectEmptyS (interS q r) = true) : Stored (l.take (k + 1)) r w h v ↔ Stored (l.take k) r w h v := by
  unfold Stored
  rw [take_snocG hq]
  constructor
  · rintro ⟨p, hp, h1, h2⟩
    rcases List.mem_append.1 hp with hp | hp
    · exact ⟨p, hp, h1, h2⟩
    · simp at hp; subst hp; rw [he] at h1; cases h1
  · rintro ⟨p, hp, h1⟩; exact ⟨p, List.mem_append_left _ hp, h1⟩
theorem stored_more {l : List R4} {k : Nat} {q r : R4} {w h v : Int} (hq : l[k]? = some q) (he : rectEmptyS (interS q r) = false) : Stored (l.take (k + 1)) r w h v ↔ Stored (l.take k) r w h v ∨
    ∃ y x, ((interS q r).2.1 - r.2.1) / h ≤ y ∧ y ≤ ((interS q r).2.2.2 - 1 - r.2.1) / h ∧ ((interS q r).1 - r.1) / w ≤ x ∧ x ≤ ((interS q r).2.2.1 - 1 - r.1) / w ∧ v = y * ((r.2.2.1 - r.1 - 1) / w + 1) + x := by
  unfold Stored
  rw [take_snocG hq]
  constructor
  · rintro ⟨p, hp, h1, h2⟩
    rcases List.mem_append.1 hp with hp | hp
    · exact .inl ⟨p, hp, h1, h2⟩
    · simp at hp; subst hp; exact .inr h2
  · rintro (⟨p, hp, h1⟩ | h2)
    · exact ⟨p, List.mem_append_left _ hp, h1⟩
    · exact ⟨q, List.mem_append_right _ (by simp), he, h2⟩
/-- what one rectangle's rows bring, up to row yv, and in it up to xv -/
def Rows (S : Int → Prop) (AC Y0 X0 X1 yv : Int) (v : Int) : Prop := S v ∨ ∃ y x, Y0 ≤ y ∧ y < yv ∧ X0 ≤ x ∧ x ≤ X1 ∧ v = y * AC + x
def Cols (S : Int → Prop) (AC X0 yv xv : Int) (v : Int) : Prop := S v ∨ ∃ x, X0 ≤ x ∧ x < xv ∧ v = yv * AC + x
theorem Rows.start {S : Int → Prop} {AC Y0 X0 X1 v : Int} : S v ↔ Rows S AC Y0 X0 X1 Y0 v := ⟨.inl, fun h => h.elim id fun ⟨y, x, h1, h2, _⟩ => absurd h1 (by omega)⟩
theorem Cols.start {S : Int → Prop} {AC X0 yv v : Int} : S v ↔ Cols S AC X0 yv X0 v := ⟨.inl, fun h => h.elim id fun ⟨x, h1, h2, _⟩ => absurd h1 (by omega)⟩
theorem Cols.step {S : Int → Prop} {AC X0 yv xv v : Int} (h : X0 ≤ xv) : Cols S AC X0 yv (xv + 1) v ↔ Cols S AC X0 yv xv v ∨ v = yv * AC + xv := by
  unfold Cols
  constructor
  · rintro (h | ⟨x, h1, h2, rfl⟩)
    · exact .inl (.inl h)
    · by_cases e : x = xv
      · subst e; exact .inr rfl
      · exact .inl (.inr ⟨x, h1, by omega, rfl⟩)
  · rintro ((h | ⟨x, h1, h2, rfl⟩) | rfl)
    · exact .inl h
    · exact .inr ⟨x, h1, by omega, rfl⟩
    · exact .inr ⟨xv, h, by omega, rfl⟩
theorem Rows.step {S : Int → Prop} {AC Y0 X0 X1 yv xv v : Int} (h : Y0 ≤ yv) (hx : xv = X1 + 1) : Cols (Rows S AC Y0 X0 X1 yv) AC X0 yv xv v ↔ Rows S AC Y0 X0 X1 (yv + 1) v := by
  subst hx
  unfold Cols Rows
  constructor
  · rintro ((h | ⟨y, x, h1, h2, h3, h4, rfl⟩) | ⟨x, h1, h2, rfl⟩)
    · exact .inl h
    · exact .inr ⟨y, x, h1, by omega, h3, h4, rfl⟩
    · exact .inr ⟨yv, x, h, by omega, h1, by omega, rfl⟩
  · rintro (h | ⟨y, x, h1, h2, h3, h4, rfl⟩)
    · exact .inl (.inl h)
    · by_cases e : y = yv
      · subst e; exact .inr ⟨x, h3, by omega, rfl⟩
      · exact .inl (.inr ⟨y, x, h1, by omega, h3, h4, rfl⟩)
end Go.Reg
namespace Go.Proofs.Ytkjpcjmbhpfelaa
open Go.RowKit Go.Par Go.Reg Go.Maps

theorem wf_mid {x : Int} (h1 : 0 ≤ x) (h2 : x ≤ 1000000) : (Lit.int .i64 x).wf = true := by
  have k1 : IntKind.i64.min = -9223372036854775808 := rfl
  have k2 : IntKind.i64.max = 9223372036854775807 := rfl
  simp only [Lit.wf, Bool.and_eq_true, decide_eq_true_eq]
  omega
theorem box_map {H : Type} {P : Program} {k : TypeId} {R : Value → Option (DataW H × List MemPlace)} {n : Nat} {D : DataW H} {w w' : World} {g B : Nat} {t : TypeId} {cs : Array Value} (hb : Box w g t cs) (h : w.ownsMap P k R B n D) (hg : w.grownBy w' (some B)) : Box w' g t cs :=
  boxGrown hb hg (fun e => by
    injection e with e
    subst e
    obtain ⟨es, cl, hmp, _⟩ := h
    rw [show w.heap[B]? = some _ from hb] at hmp
    cases hmp)
abbrev OwnM (w : World) (B : Nat) (K : List Int) : Prop := ∃ x : Unit, w.ownsMap Try.prog 3 (plainElem Try.prog 4) B K.length (setI (H := Unit) K)
set_option maxRecDepth 100000 in
set_option maxHeartbeats 6400000 in
theorem touched_main (l : List R4) (A : Option Addr) (n c : Nat) (r0 r1 r2 r3 wd hg : Int) (w : World) (hn : l.length = n) (hnb : n ≤ 24) (hA : rectE.At w A l) (hr : rectEmptyS (r0, r1, r2, r3) = false) (hw : 0 < wd) (hh : 0 < hg)
    (ha1 : (r2 - r0 - 1) / wd < 400) (ha2 : (r3 - r1 - 1) / hg < 400) :
    Calls Try.prog 35 #[.slice A n c, .agg #[.int .i64 r0, .int .i64 r1, .int .i64 r2, .int .i64 r3], .int .i64 wd, .int .i64 hg] w fun e w' => ∃ v, e = .returned v ∧ Ext w w' ∧ intE.Own w' w.heap.size v (touchTo (tileL (r0, r1, r2, r3) wd hg) l (tileL (r0, r1, r2, r3) wd hg).length) := by
  have hmm := @run_makeMap Try.prog
  have HN := Lib.hid hn
  have HTE := Lib.hid (fun ys hs hm => touch_eq (l := l) (ys := ys) hr hw hh hs hm)
  have br := empty_false hr
  dsimp only at br
  have HC := Lib.hid (fun W => pCanon_any r0 r1 r2 r3 W)
  rw [canon_self hr] at HC
  unfold rectV at HC
  dsimp only at HC
  have HE0 := Lib.hid (fun W => pEmpty_any r0 r1 r2 r3 W)
  rw [hr] at HE0
  have HIN := Lib.hid (fun a b c d W => pInter_any a b c d r0 r1 r2 r3 W)
  have HEM := Lib.hid (fun a b c d W => pEmpty_any a b c d W)
  have HR := Lib.hid hr
  obtain ⟨Q, hQ⟩ : ∃ Q, (r2 - r0 - 1) / wd = Q := ⟨_, rfl⟩
  have hQ0 : 0 ≤ Q := by rw [← hQ]; exact Int.ediv_nonneg (by omega) (by omega)
  have hQq : IntKind.i64.wrap ((r2 - r0 - 1).tdiv wd) = Q := by
    rw [Int.tdiv_eq_ediv_of_nonneg (by omega), hQ]; exact IntWalk.i64_in _ (by omega)
  have HQ := Lib.hid hQ
  rw [hQ] at ha1
  obtain ⟨AC, hAC⟩ : ∃ AC, Q + 1 = AC := ⟨_, rfl⟩
  have HAC := Lib.hid (show (r2 - r0 - 1) / wd + 1 = AC from by rw [hQ, hAC])
  have hACb : 1 ≤ AC ∧ AC ≤ 400 := by omega
  have hACw : IntKind.i64.wrap (Q + 1) = AC := by rw [IntWalk.i64_in _ (by omega), hAC]
  clear hn hr hQ
  have dw : (wd < 1) = False := eq_false (by omega)
  have dh : (hg < 1) = False := eq_false (by omega)
  have hE0 := Ext.alloc w (.cells #[.int .i64 r0, .int .i64 r1, .int .i64 r2, .int .i64 r3] 29)
  have b5 := Box.new w 29 #[.int .i64 r0, .int .i64 r1, .int .i64 r2, .int .i64 r3]
  have c5 := b5.cell
  go_enter Try.func35, Try.ntmps35
  go_wp2_with fail
  obtain ⟨B5, hB5⟩ : ∃ B5, w.heap.size = B5 := ⟨_, rfl⟩
  have HB5 := Lib.hid hB5
  rw [hB5] at b5 c5 ⊢
  clear hB5
  refine (HC.out _).mono ?_
  rintro e w1 ⟨rfl, hE1⟩
  replace hE0 := hE0.trans hE1
  replace b5 := b5.ext hE1
  clear c5 hE1
  have c5 := b5.cell
  have f5 := b5.frozen
  have HST := Lib.hid (b5.set4 (.int .i64 r0) (.int .i64 r1) (.int .i64 r2) (.int .i64 r3))
  have HSE := Lib.hid (hE0.set4 (b := B5) (i := 0) (j := 1) (k := 2) (l := 3) (by rw [HB5.out]; omega) (.int .i64 r0) (.int .i64 r1) (.int .i64 r2) (.int .i64 r3))
  go_wp2_with fail
  replace hE0 := HSE.out
  replace b5 := HST.out
  clear c5 f5 HSE HST
  generalize World.setCell (World.setCell (World.setCell (World.setCell _ _ _) _ _) _ _) _ _ = W1 at *
  refine (HE0.out _).mono ?_
  rintro e w2 ⟨rfl, hE2⟩
  replace hE0 := hE0.trans hE2
  replace b5 := b5.ext hE2
  clear hE2
  have c5 := b5.cell
  obtain ⟨B, hB⟩ : ∃ B, w2.heap.size = B := ⟨_, rfl⟩
  have hown0 := World.ownsMap_made (H := Unit) w2 Try.prog 3 (plainElem Try.prog 4)
  have hEm := hE0.trans (Ext.alloc w2 (.map #[] 0))
  have b5m := b5.alloc (.map #[] 0)
  have HBB := Lib.hid (show w.heap.size ≤ B from by rw [← hB]; exact hE0.size)
  rw [hB] at hown0
  go_wp2_with fail
  clear c5 b5 hE0 HC HE0
  have HWB := Lib.hid hB
  clear hB
  go_loopw [42] (fun i wr => ∃ (k : Nat) (K : List Int), k ≤ n ∧ i = .int .i64 k ∧ Ext w wr ∧ Box wr B5 29 #[.int .i64 r0, .int .i64 r1, .int .i64 r2, .int .i64 r3] ∧ wr.ownsMap Try.prog 3 (plainElem Try.prog 4) B K.length (setI (H := Unit) K) ∧ Hid ((K.length : Int) ≤ (k : Int) * 200000) ∧ Hid (∀ v, v ∈ K ↔ Stored (l.take k) (r0, r1, r2, r3) wd hg v)) (fun i _ => n - (intOf i).toNat)
  case atStart => exact ⟨0, [], Nat.zero_le _, rfl, hEm, b5m, hown0, Lib.hid (by simp), Lib.hid (fun v => by simp [Stored])⟩
  case round =>
    clear hEm b5m hown0
    obtain ⟨k, K, hk, rfl, hE, b5, hown, HKL, HK⟩ := hrel
    by_cases hlt : k < n
    · have dk : ((k : Int) < (n : Int)) = True := eq_true (by omega)
      obtain ⟨⟨x0, x1, x2, x3⟩, hlk⟩ : ∃ q, l[k]? = some q := ⟨_, List.getElem?_eq_getElem (by rw [HN.out]; exact hlt)⟩
      obtain ⟨b, o, rfl⟩ := hA.addr hlk
      obtain ⟨e0, e1, e2, e3⟩ := rect_cell hA hlk
      replace e0 := hE.cell e0
      replace e1 := hE.cell e1
      replace e2 := hE.cell e2
      replace e3 := hE.cell e3
      dsimp only at e0 e1 e2 e3
      have c5 := b5.cell
      have HIN' := Lib.hid (fun W => HIN.out x0 x1 x2 x3 W)
      cases hem : rectEmptyS (interS (x0, x1, x2, x3) (r0, r1, r2, r3))
      rotate_left
      · have HST := Lib.hid (fun v => stored_skip (w := wd) (h := hg) (v := v) hlk hem)
        generalize interS (x0, x1, x2, x3) (r0, r1, r2, r3) = m at *
        obtain ⟨m0, m1, m2, m3⟩ := m
        unfold rectV at HIN'
        have HEM' := Lib.hid (fun W => HEM.out m0 m1 m2 m3 W)
        rw [hem] at HEM'
        have hEa := hE.trans (Ext.alloc wr (.cells #[.int .i64 x0, .int .i64 x1, .int .i64 x2, .int .i64 x3] 29))
        have b5a := b5.alloc (.cells #[.int .i64 x0, .int .i64 x1, .int .i64 x2, .int .i64 x3] 29)
        have b6 := Box.new wr 29 #[.int .i64 x0, .int .i64 x1, .int .i64 x2, .int .i64 x3]
        have hownA := mapExt hown (Ext.alloc wr (.cells #[.int .i64 x0, .int .i64 x1, .int .i64 x2, .int .i64 x3] 29))
        have c5a := b5a.cell
        have c6 := b6.cell
        clear hlk hem
        go_wp2_with fail
        refine (HIN'.out _).mono ?_
        rintro e w4 ⟨rfl, hE4⟩
        have hEb := (hEa.trans hE4).trans (Ext.alloc w4 (.cells #[.int .i64 m0, .int .i64 m1, .int .i64 m2, .int .i64 m3] 29))
        have b5b := (b5a.ext hE4).alloc (.cells #[.int .i64 m0, .int .i64 m1, .int .i64 m2, .int .i64 m3] 29)
        have b7 := Box.new w4 29 #[.int .i64 m0, .int .i64 m1, .int .i64 m2, .int .i64 m3]
        have hownB := mapExt (mapExt hownA hE4) (Ext.alloc w4 (.cells #[.int .i64 m0, .int .i64 m1, .int .i64 m2, .int .i64 m3] 29))
        have c7 := b7.cell
        clear c5 c5a c6 e0 e1 e2 e3
        go_wp2_with fail
        refine (HEM'.out _).mono ?_
        rintro e w5 ⟨rfl, hE5⟩
        go_wp2
        go_roundw
        case rel => exact ⟨k + 1, K, by omega, by go_num, hEb.trans hE5, b5b.ext hE5, mapExt hownB hE5, Lib.hid (by have := HKL.out; push_cast; omega), Lib.hid (fun v => (HK.out v).trans (HST.out v).symm)⟩
        case measure => simp [intOf]; omega
      · have HST := Lib.hid (fun v => stored_more (w := wd) (h := hg) (v := v) hlk hem)
        have hv := inter_val hem
        have hne := inter_ne.1 hem
        have bx := empty_false hne.1
        generalize interS (x0, x1, x2, x3) (r0, r1, r2, r3) = m at *
        obtain ⟨m0, m1, m2, m3⟩ := m
        unfold rectV at HIN'
        have HEM' := Lib.hid (fun W => HEM.out m0 m1 m2 m3 W)
        rw [hem] at HEM'
        have bm : -4096 ≤ m0 ∧ m2 ≤ 4096 ∧ -4096 ≤ m1 ∧ m3 ≤ 4096 ∧ m0 < m2 ∧ m1 < m3 := empty_false hem
        simp only [Prod.mk.injEq] at hv
        obtain ⟨v0, v1, v2, v3⟩ := hv
        dsimp only at v0 v1 v2 v3 HST
        have bm2 : r0 ≤ m0 ∧ m2 ≤ r2 ∧ r1 ≤ m1 ∧ m3 ≤ r3 := by omega
        clear v0 v1 v2 v3 hne bx
        obtain ⟨X0, hX0⟩ : ∃ X0, (m0 - r0) / wd = X0 := ⟨_, rfl⟩
        obtain ⟨X1, hX1⟩ : ∃ X1, (m2 - 1 - r0) / wd = X1 := ⟨_, rfl⟩
        obtain ⟨Y0, hY0⟩ : ∃ Y0, (m1 - r1) / hg = Y0 := ⟨_, rfl⟩
        obtain ⟨Y1, hY1⟩ : ∃ Y1, (m3 - 1 - r1) / hg = Y1 := ⟨_, rfl⟩
        rw [hX0, hX1, hY0, hY1, HAC.out] at HST
        have gX0 : 0 ≤ X0 := by rw [← hX0]; exact Int.ediv_nonneg (by omega) (by omega)
        have gY0 : 0 ≤ Y0 := by rw [← hY0]; exact Int.ediv_nonneg (by omega) (by omega)
        have gX1 : X0 ≤ X1 := by rw [← hX0, ← hX1]; exact Int.ediv_le_ediv hw (by omega)
        have gY1 : Y0 ≤ Y1 := by rw [← hY0, ← hY1]; exact Int.ediv_le_ediv hh (by omega)
        have gX2 : X1 < 400 := by
          have : X1 ≤ Q := by rw [← hX1, ← HQ.out]; exact Int.ediv_le_ediv hw (by omega)
          omega
        have gY2 : Y1 < 400 := by
          have : Y1 ≤ (r3 - r1 - 1) / hg := by rw [← hY1]; exact Int.ediv_le_ediv hh (by omega)
          omega
        have qX0 : IntKind.i64.wrap ((m0 - r0).tdiv wd) = X0 := by rw [Int.tdiv_eq_ediv_of_nonneg (by omega), hX0]; exact IntWalk.i64_in _ (by omega)
        have qX1 : IntKind.i64.wrap ((m2 - 1 - r0).tdiv wd) = X1 := by rw [Int.tdiv_eq_ediv_of_nonneg (by omega), hX1]; exact IntWalk.i64_in _ (by omega)
        have qY0 : IntKind.i64.wrap ((m1 - r1).tdiv hg) = Y0 := by rw [Int.tdiv_eq_ediv_of_nonneg (by omega), hY0]; exact IntWalk.i64_in _ (by omega)
        have qY1 : IntKind.i64.wrap ((m3 - 1 - r1).tdiv hg) = Y1 := by rw [Int.tdiv_eq_ediv_of_nonneg (by omega), hY1]; exact IntWalk.i64_in _ (by omega)
        have hEa := hE.trans (Ext.alloc wr (.cells #[.int .i64 x0, .int .i64 x1, .int .i64 x2, .int .i64 x3] 29))
        have b5a := b5.alloc (.cells #[.int .i64 x0, .int .i64 x1, .int .i64 x2, .int .i64 x3] 29)
        have b6 := Box.new wr 29 #[.int .i64 x0, .int .i64 x1, .int .i64 x2, .int .i64 x3]
        have hownA := mapExt hown (Ext.alloc wr (.cells #[.int .i64 x0, .int .i64 x1, .int .i64 x2, .int .i64 x3] 29))
        have c5a := b5a.cell
        have c6 := b6.cell
        clear hlk hem hX0 hX1 hY0 hY1
        go_wp2_with fail
        refine (HIN'.out _).mono ?_
        rintro e w4 ⟨rfl, hE4⟩
        have hEb := (hEa.trans hE4).trans (Ext.alloc w4 (.cells #[.int .i64 m0, .int .i64 m1, .int .i64 m2, .int .i64 m3] 29))
        have b5b := (b5a.ext hE4).alloc (.cells #[.int .i64 m0, .int .i64 m1, .int .i64 m2, .int .i64 m3] 29)
        have b7 := Box.new w4 29 #[.int .i64 m0, .int .i64 m1, .int .i64 m2, .int .i64 m3]
        have hownB := mapExt (mapExt hownA hE4) (Ext.alloc w4 (.cells #[.int .i64 m0, .int .i64 m1, .int .i64 m2, .int .i64 m3] 29))
        have c7 := b7.cell
        clear c5 c5a c6 e0 e1 e2 e3 b6
        go_wp2_with fail
        obtain ⟨B7, hB7⟩ : ∃ B7, w4.heap.size = B7 := ⟨_, rfl⟩
        rw [hB7] at b7 c7 ⊢
        refine (HEM'.out _).mono ?_
        rintro e w5 ⟨rfl, hE5⟩
        replace hE := hEb.trans hE5
        replace b5 := b5b.ext hE5
        replace b7 := b7.ext hE5
        replace hown := mapExt hownB hE5
        clear hEb b5b hownB hE5 hownA b5a hEa hE4 hB7 c7
        have c5 := b5.cell
        have c7 := b7.cell
        have f5 := b5.frozen
        go_wp2_with fail
        go_loopw [14] (fun y wr => ∃ (yv : Int) (K : List Int), Y0 ≤ yv ∧ yv ≤ Y1 + 1 ∧ y = .int .i64 yv ∧ Ext w wr ∧ Box wr B5 29 #[.int .i64 r0, .int .i64 r1, .int .i64 r2, .int .i64 r3] ∧ Box wr B7 29 #[.int .i64 m0, .int .i64 m1, .int .i64 m2, .int .i64 m3] ∧ wr.ownsMap Try.prog 3 (plainElem Try.prog 4) B K.length (setI (H := Unit) K) ∧ Hid ((K.length : Int) ≤ (k : Int) * 200000 + (yv - Y0) * 400) ∧ Hid (∀ v, v ∈ K ↔ Go.Reg.Rows (Stored (l.take k) (r0, r1, r2, r3) wd hg) AC Y0 X0 X1 yv v)) (fun y _ => (Y1 + 1 - intOf y).toNat)
        case atStart => exact ⟨Y0, K, by omega, by omega, rfl, hE, b5, b7, hown, Lib.hid (by have := HKL.out; omega), Lib.hid (fun v => (HK.out v).trans Rows.start)⟩
        case round =>
          clear hE b5 b7 hown c5 c7 f5 HKL HK
          obtain ⟨yv, K, hy0, hy1, rfl, hE, b5, b7, hown, HKL, HK⟩ := hrel
          have c5 := b5.cell
          have c7 := b7.cell
          by_cases hlty : yv ≤ Y1
          · have dy : (yv ≤ Y1) = True := eq_true hlty
            go_wp2_with fail
            go_loopw [15] (fun x wr => ∃ (xv : Int) (K : List Int), X0 ≤ xv ∧ xv ≤ X1 + 1 ∧ x = .int .i64 xv ∧ Ext w wr ∧ Box wr B5 29 #[.int .i64 r0, .int .i64 r1, .int .i64 r2, .int .i64 r3] ∧ Box wr B7 29 #[.int .i64 m0, .int .i64 m1, .int .i64 m2, .int .i64 m3] ∧ wr.ownsMap Try.prog 3 (plainElem Try.prog 4) B K.length (setI (H := Unit) K) ∧ Hid ((K.length : Int) ≤ (k : Int) * 200000 + (yv - Y0) * 400 + (xv - X0)) ∧ Hid (∀ v, v ∈ K ↔ Cols (Go.Reg.Rows (Stored (l.take k) (r0, r1, r2, r3) wd hg) AC Y0 X0 X1 yv) AC X0 yv xv v)) (fun x _ => (X1 + 1 - intOf x).toNat)
            case atStart => exact ⟨X0, K, by omega, by omega, rfl, hE, b5, b7, hown, Lib.hid (by have := HKL.out; omega), Lib.hid (fun v => (HK.out v).trans Cols.start)⟩
            case round =>
              clear hE b5 b7 hown c5 c7 HKL HK
              obtain ⟨xv, K, hx0, hx1, rfl, hE, b5, b7, hown, HKL, HK⟩ := hrel
              have c5 := b5.cell
              have c7 := b7.cell
              by_cases hltx : xv ≤ X1
              · have dx : (xv ≤ X1) = True := eq_true hltx
                have hmul := mul_le (a := 400) (b := 400) (show 0 ≤ yv by omega) (by omega) (show 0 ≤ AC by omega) (by omega)
                have q1 : IntKind.i64.wrap (yv * AC) = yv * AC := IntWalk.i64_in _ (by omega)
                have q2 : IntKind.i64.wrap (yv * AC + xv) = yv * AC + xv := IntWalk.i64_in _ (by omega)
                have wf1 := wf_mid (x := yv * AC + xv) (by omega) (by omega)
                have hm1 : K.length < maxLen := by
                  have := HKL.out
                  unfold maxLen
                  omega
                obtain ⟨w6, hrun6, hown6, hg6⟩ := World.ownsMap.update (w := wr) hown keyed_int Try.underlying69 hm1 (keyOf_int_mk Try.underlying3 wf1) boolR_true
                have b5' := box_map b5 hown hg6
                have b7' := box_map b7 hown hg6
                have hE6 := hE.grownAt hg6 (fun i hi => by injection hi with hi; rw [← hi]; exact HBB.out)
                have HS := Lib.hid (setI_snoc (H := Unit) K (yv * AC + xv))
                have HO6 := Lib.hid hown6
                clear hown6 hg6 hown b5 b7 hE
                go_wp2
                go_roundw
                case rel => exact ⟨xv + 1, K ++ [yv * AC + xv], by omega, by omega, by go_num, hE6, b5', b7', by rw [HS.out, List.length_append]; exact HO6.out, Lib.hid (by have := HKL.out; rw [List.length_append]; push_cast; simp; omega), Lib.hid (fun v => by rw [Cols.step hx0, List.mem_append, HK.out]; simp)⟩
                case measure => simp [intOf]; omega
              · have dx : (xv ≤ X1) = False := eq_false hltx
                have hxe : xv = X1 + 1 := by omega
                have HXE := Lib.hid hxe
                clear hxe
                go_wp2
                go_roundw
                case rel => exact ⟨yv + 1, K, by omega, by omega, by go_num, hE, b5, b7, hown, Lib.hid (by have := HKL.out; omega), Lib.hid (fun v => (HK.out v).trans (Rows.step hy0 HXE.out))⟩
                case measure => simp [intOf]; omega
          · have dy : (yv ≤ Y1) = False := eq_false hlty
            have HYE := Lib.hid (show yv = Y1 + 1 by omega)
            go_wp2
            go_roundw
            case rel => exact ⟨k + 1, K, by omega, by go_num, hE, b5, hown, Lib.hid (by have := HKL.out; push_cast; omega), Lib.hid (fun v => (HK.out v).trans (by
              rw [HST.out]
              unfold Go.Reg.Rows
              refine or_congr Iff.rfl ⟨?_, ?_⟩
              · rintro ⟨y, x, h1, h2, h3, h4, h5⟩; exact ⟨y, x, h1, by have := HYE.out; omega, h3, h4, h5⟩
              · rintro ⟨y, x, h1, h2, h3, h4, h5⟩; exact ⟨y, x, h1, by have := HYE.out; omega, h3, h4, h5⟩))⟩
            case measure => simp [intOf]; omega
    · have dk : ((k : Int) < (n : Int)) = False := eq_false (by omega)
      have HF := Lib.hid (show l.take k = l from List.take_of_length_le (by rw [HN.out]; omega))
      rw [HF.out] at HK
      have hKb : K.length ≤ 4800000 := by have := HKL.out; omega
      have HSZ := Lib.hid (setI_size (H := Unit) K)
      have HHAS := Lib.hid (setI_has (H := Unit) K)
      generalize hD : setI (H := Unit) K = D at *
      generalize hM : K.length = M at *
      have hwB : w.heap.size ≤ wr.heap.size := hE.size
      clear hD hM
      go_wp2_with (first
        | (at_range; refine wpList_range_own _ rfl _ 69 rfl 3 4 keyed_int Try.underlying69 _ B M _ rfl hown ?_; intro w0 hrg0 hg0 hs0)
        | go_in)
      go_frame
      have hE0 := hE.grownAt hg0 (fun i hi => by cases hi)
      obtain ⟨Rr, hRr⟩ : ∃ Rr, wr.heap.size = Rr := ⟨_, rfl⟩
      rw [hRr] at hrg0 hwB ⊢
      have HRR := Lib.hid hRr
      clear hRr hs0 hg0 hown hE
      go_loopw [16] (fun s wr => ∃ (left : Lit → Bool) (cnt : Nat) (zs : List Int), wr.ranges Try.prog 3 (plainElem Try.prog 4) B Rr M D left cnt ∧ zs.length + cnt ≤ size D ∧ CollI D left zs ∧ Ext w wr ∧ intE.Own wr w.heap.size s zs)
        (fun _ wr => wr.rangeLeft B Rr)
      case atStart => exact ⟨_, _, [], hrg0, by simp, CollI.start D, hE0, EL.Own.nil _ _⟩
      case round =>
        clear hrg0 hE0
        obtain ⟨left, cnt, zs, hrg, hcs, hC, hE, hown⟩ := hrel
        go_wp2_with (first
          | (at_next; refine wpList_next_ranges _ rfl _ rfl 3 keyed_int _ (Value.int .i64) (fun i : Int => Value.bool (decide (i = 1))) (fun key kl hkey => by obtain ⟨x, rfl, _⟩ := Maps.keyOf_int_inv Try.underlying3 hkey; exact ⟨x, rfl⟩) (fun v y hv => by obtain ⟨c, rfl⟩ := boolR_inv hv; exact ⟨if c then 1 else 0, by cases c <;> rfl⟩) B Rr M _ _ _ rfl hrg ?_ ?_)
          | go_in)
        · intro hc0 hl0
          obtain ⟨hnd, hmem⟩ := hC.end hl0
          have hzs : zs.length ≤ 10000000 := by have := HSZ.out; omega
          have HMEM := Lib.hid (fun y => (hmem y).trans (HHAS.out y))
          have HND := Lib.hid hnd
          clear hmem hnd hcs hC hl0 hc0 hrg
          go_wp2_with fail
          refine (sortInts_any hown hzs).mono ?_
          rintro e w2 ⟨rfl, ys, hp, hs, hown2, hg2⟩
          have hE2 := growExt hE hown (Nat.le_refl _) hg2
          have HP := Lib.hid hp
          clear hp hg2
          have HYS := Lib.hid (HTE.out ys (sorted_strict hs (HP.out.nodup_iff.2 HND.out)) fun y => (HP.out.mem_iff).trans ((HMEM.out y).trans (HK.out y)))
          go_wp2
          go_ret
          exact ⟨_, rfl, hE2, by rw [← HYS.out]; exact hown2⟩
        · intro x c kl yd yp w1 cnt1 hkey hlk hv hat hrg1 hlt1 hg1 hs1 hen
          obtain ⟨x', ex, rfl, hwx⟩ := Maps.keyOf_int_inv Try.underlying3 hkey
          cases ex
          have hC1 := hC.step hlk hat
          obtain ⟨A1, c1, rfl, _, _⟩ := hown.len
          have hnm := own_ne_map hown hrg
          have hown1 : intE.Own w1 w.heap.size _ zs := World.ownsRow.kept hown hg1 (.inr hnm.2)
          have hRB : w.heap.size ≤ Rr := hwB
          have hE1 := hE.grownAt hg1 (fun i hi => by injection hi with hi; omega)
          have HL1 := Lib.hid (show zs.length + 1 + cnt1 ≤ size D from by omega)
          have hzl : zs.length + 1 ≤ 1000000000 := by have := HSZ.out; omega
          have HRG := Lib.hid hrg
          have hMS := Lib.hid (show wr.rangeLeft B Rr = cnt from hrg.left_eq)
          clear hnm hg1 hs1 hat hlk hv hC hcs hown hE hrg
          have b2 := Box.new w1 3 #[.int .i64 x]
          have hrow := EL.rowOne (E := intE) b2 rfl
          have hEa := hE1.trans (Ext.alloc w1 (.cells #[.int .i64 x] 3))
          have hownA := hown1.ext (Ext.alloc w1 (.cells #[.int .i64 x] 3))
          have hrgA := rangesExt hrg1 (Ext.alloc w1 (.cells #[.int .i64 x] 3))
          have hsz := hEa.size
          go_wp2_with (at_builtin; refine EL.wpApp intE rfl _ _ rfl w.heap.size _ _ zs [x] rfl rfl hownA hrow hzl hsz ?_; intro v1 W1 own1 gr1 _)
          have hnm2 := own_ne_map hownA hrgA
          have hE2 := growExt hEa hownA (Nat.le_refl _) gr1
          have hrg2 := hrgA.kept gr1 (fun e => hnm2.1 e.symm) (fun e => hnm2.2 e.symm)
          go_roundw
          case rel => exact ⟨_, cnt1, zs ++ [x], hrg2, by rw [List.length_append]; exact HL1.out, hC1, hE2, own1⟩
          case measure => rw [hrg2.left_eq, hMS.out]; exact hlt1
end Go.Proofs.Ytkjpcjmbhpfelaa
