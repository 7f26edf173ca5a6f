/- The reference's Split. -/
import Derived.Test.YtefdheoalonbaaaCropR
import Derived.Test.YtefdheoalonbaaaTileRef2
import Derived.Test.YtefdheoalonbaaaHil
import Derived.Test.YtefdheoalonbaaaParZ
import Derived.Test.YtefdheoalonbaaaSplit
set_option linter.unusedVariables false
set_option linter.unusedSimpArgs false
namespace Go.Proofs.Ytefdheoalonbaaa
open Go.RowKit Go.Par

set_option maxHeartbeats 800000 in
theorem rSplitBad_any (x0 y0 x1 y1 : Int) (A : Option Addr) (c n : Nat) (l : List P4) (wd ht : Int) (w : World) (hn : l.length = n) (hb : n ≤ 17592186044416) (h : pixE.At w A l) (hok : bmOk ((x0, y0, x1, y1), l) = false) :
    Calls Try.prog 23 #[.agg #[.int .i64 x0, .int .i64 y0, .int .i64 x1, .int .i64 y1, .slice A n c], .int .i64 wd, .int .i64 ht] w fun e w' => e = .returned (.tuple #[.slice none 0 0, .int .i64 15]) ∧ Ext w w' := by
  have HV := Lib.hid (fun W (k : Ext w W) => rBmValid_any x0 y0 x1 y1 A c n l W hn hb (h.ext k))
  rw [hok] at HV
  clear h hok
  go_enter Try.func23, Try.ntmps23
  have hE := Ext.alloc w (.cells #[.int .i64 x0, .int .i64 y0, .int .i64 x1, .int .i64 y1, .slice A n c] 34)
  go_wp2_with fail
  refine (HV.out _ hE).mono ?_
  rintro e w1 ⟨rfl, hE1⟩
  go_wp2
  exact bodyPost_ret (v := .tuple #[.slice none 0 0, .int .i64 15]) (by simp [results, Try.results23, go_sem, List.size_toArray]) rfl ⟨rfl, hE.trans hE1⟩
set_option maxHeartbeats 800000 in
theorem rSplitArg_any (x0 y0 x1 y1 : Int) (A : Option Addr) (c n : Nat) (l : List P4) (wd ht : Int) (w : World) (hn : l.length = n) (hb : n ≤ 17592186044416) (h : pixE.At w A l) (hok : bmOk ((x0, y0, x1, y1), l) = true) (hv : validT (x0, y0, x1, y1) wd ht = false) :
    Calls Try.prog 23 #[.agg #[.int .i64 x0, .int .i64 y0, .int .i64 x1, .int .i64 y1, .slice A n c], .int .i64 wd, .int .i64 ht] w fun e w' => e = .returned (.tuple #[.slice none 0 0, .int .i64 2]) ∧ Ext w w' := by
  have HV := Lib.hid (fun W (k : Ext w W) => rBmValid_any x0 y0 x1 y1 A c n l W hn hb (h.ext k))
  have HT := Lib.hid (fun W => rTileValid_any x0 y0 x1 y1 wd ht W)
  rw [hok] at HV
  rw [hv] at HT
  clear h hok hv
  go_enter Try.func23, Try.ntmps23
  have hE := Ext.alloc w (.cells #[.int .i64 x0, .int .i64 y0, .int .i64 x1, .int .i64 y1, .slice A n c] 34)
  have b2 := Box.new w 34 #[.int .i64 x0, .int .i64 y0, .int .i64 x1, .int .i64 y1, .slice A n c]
  go_wp2_with fail
  refine (HV.out _ hE).mono ?_
  rintro e w1 ⟨rfl, hE1⟩
  have c2 := (b2.ext hE1).cell
  go_wp2_with fail
  refine (HT.out _).mono ?_
  rintro e w2 ⟨rfl, hE2⟩
  go_wp2
  exact bodyPost_ret (v := .tuple #[.slice none 0 0, .int .i64 2]) (by simp [results, Try.results23, go_sem, List.size_toArray]) rfl ⟨rfl, (hE.trans hE1).trans hE2⟩
/-- bitmaps with pixels of the call's own -/
def BmsIn (w : World) (B : Nat) (ss : List BS) (bs : List BM) : Prop :=
  ss.length = bs.length ∧ ∀ (i : Nat) (b : BM), bs[i]? = some b → ∃ s, ss[i]? = some s ∧ s.1 = b.1 ∧ s.2.2.1 = b.2.length ∧ b.2.length ≤ s.2.2.2 ∧ b.2.length ≤ 17592186044416 ∧ PixAt w B s.2.1 b.2
theorem BmsIn.nil (w : World) (B : Nat) : BmsIn w B [] [] := ⟨rfl, fun i b h => by simp at h⟩
theorem BmsIn.ext {w w' : World} {B : Nat} {ss : List BS} {bs : List BM} (h : BmsIn w B ss bs) (he : Ext w w') : BmsIn w' B ss bs :=
  ⟨h.1, fun i b hb => by obtain ⟨s, h1, h2, h3, h4, h5, h6⟩ := h.2 i b hb; exact ⟨s, h1, h2, h3, h4, h5, h6.ext he⟩⟩
theorem BmsIn.of {w : World} {B : Nat} {ss : List BS} {bs : List BM} (h : BmsIn w B ss bs) : BmsOf w ss bs :=
  ⟨h.1, fun i b hi => by obtain ⟨s, h1, h2, h3, h4, h5, h6⟩ := h.2 i b hi; exact ⟨s, h1, h2, h3, (by rw [h3]; exact h4), h5, h6.at⟩⟩
theorem BmsIn.grown {w w' : World} {B B2 : Nat} {ss ss' : List BS} {bs : List BM} {v : Value} (h : BmsIn w B ss' bs) (hown : bmE.Own w B2 v ss) (hg : w.grownBy w' v.ownBlock) : BmsIn w' B ss' bs :=
  ⟨h.1, fun i b hb => by obtain ⟨s, h1, h2, h3, h4, h5, h6⟩ := h.2 i b hb; exact ⟨s, h1, h2, h3, h4, h5, h6.grown hown hg⟩⟩
theorem BmsIn.snoc {w : World} {B : Nat} {ss : List BS} {bs : List BM} {s : BS} {b : BM} (h : BmsIn w B ss bs) (h1 : s.1 = b.1) (h2 : s.2.2.1 = b.2.length) (h3 : b.2.length ≤ s.2.2.2) (h4 : b.2.length ≤ 17592186044416) (h5 : PixAt w B s.2.1 b.2) : BmsIn w B (ss ++ [s]) (bs ++ [b]) := by
  refine ⟨by simp [h.1], fun i q hq => ?_⟩
  by_cases hi : i < bs.length
  · rw [List.getElem?_append_left hi] at hq
    obtain ⟨x, k1, k2⟩ := h.2 i q hq
    exact ⟨x, by rw [List.getElem?_append_left (by rw [h.1]; exact hi)]; exact k1, k2⟩
  · rw [List.getElem?_append_right (by omega)] at hq
    have h0 : i - bs.length = 0 := by
      have := (List.getElem?_eq_some_iff.1 hq).1
      simp at this
      omega
    rw [h0] at hq
    simp only [List.getElem?_cons_zero, Option.some.injEq] at hq
    subst hq
    exact ⟨s, by rw [List.getElem?_append_right (by rw [h.1]; omega), h.1, h0]; rfl, h1, h2, h3, h4, h5⟩
theorem PixAt.set5 {w : World} {B b : Nat} {A : Option Addr} {l : List P4} {cs : Array Value} (h : PixAt w B A l) (hb : Box w b 34 cs) (v0 v1 v2 v3 v4 : Value) :
    PixAt (((((w.setCell ⟨b, 0, none⟩ v0).setCell ⟨b, 1, none⟩ v1).setCell ⟨b, 2, none⟩ v2).setCell ⟨b, 3, none⟩ v3).setCell ⟨b, 4, none⟩ v4) B A l := fun hl => by
  obtain ⟨g, cur, e, h1, h2, h3⟩ := h hl
  have hne : g ≠ b := fun e => by
    subst e
    have := h2.symm.trans hb
    injection this with this
    injection this with _ this
    exact absurd this (by decide)
  exact ⟨g, cur, e, h1, h2.far5 hne _ _ _ _ _ _ _ _ _ _, h3⟩
/-- a bitmap with pixels of the call's own, as a value; and as the first of a tuple -/
def BmV (B : Nat) (q : R4) (l : List P4) (u : Value) (w : World) : Prop := ∃ v, u = .agg #[.int .i64 q.1, .int .i64 q.2.1, .int .i64 q.2.2.1, .int .i64 q.2.2.2, v] ∧ pixE.Own w B v l
theorem BmV.stable (B : Nat) (q : R4) (l : List P4) : Stable (BmV B q l) := fun _ _ _ ⟨v, e, h⟩ he => ⟨v, e, h.ext he⟩
def BmT (B : Nat) (q : R4) (l : List P4) (er : Int) (u : Value) (w : World) : Prop := ∃ v, u = .tuple #[.agg #[.int .i64 q.1, .int .i64 q.2.1, .int .i64 q.2.2.1, .int .i64 q.2.2.2, v], .int .i64 er] ∧ pixE.Own w B v l
theorem BmT.stable (B : Nat) (q : R4) (l : List P4) (er : Int) : Stable (BmT B q l er) := fun _ _ _ ⟨v, e, h⟩ he => ⟨v, e, h.ext he⟩
set_option maxRecDepth 100000 in
set_option maxHeartbeats 1600000 in
theorem rSplit_any (x0 y0 x1 y1 : Int) (A : Option Addr) (c n : Nat) (l : List P4) (wd ht : Int) (w : World) (hn : l.length = n) (hnc : n ≤ c) (hb : n ≤ 17592186044416) (h : pixE.At w A l) (hok : bmOk ((x0, y0, x1, y1), l) = true) (hv : validT (x0, y0, x1, y1) wd ht = true) :
    Calls Try.prog 23 #[.agg #[.int .i64 x0, .int .i64 y0, .int .i64 x1, .int .i64 y1, .slice A n c], .int .i64 wd, .int .i64 ht] w fun e w' =>
      ∃ v ss, e = .returned (.tuple #[v, .int .i64 0]) ∧ Ext w w' ∧ bmE.Own w' w.heap.size v ss ∧ BmsOf w' ss ((allT (x0, y0, x1, y1) wd ht).map (cropS ((x0, y0, x1, y1), l))) := by
  have HV := Lib.hid (fun W (k : Ext w W) => rBmValid_any x0 y0 x1 y1 A c n l W hn hb (h.ext k))
  have HT := Lib.hid (fun W => rTileValid_any x0 y0 x1 y1 wd ht W)
  have HA := Lib.hid (fun W => rTiles_any x0 y0 x1 y1 wd ht W hv)
  have HC := Lib.hid (fun r0 r1 r2 r3 W (k : Ext w W) => rCrop_any x0 y0 x1 y1 r0 r1 r2 r3 A c n l W hn hnc hb (h.ext k) hok)
  rw [hok] at HV
  rw [hv] at HT
  have hle := allT_le (x0, y0, x1, y1) wd ht
  clear h hok hv
  generalize allT (x0, y0, x1, y1) wd ht = T at *
  generalize hbm : (((x0, y0, x1, y1), l) : BM) = bm at *
  have HCL := Lib.hid (crop_length bm)
  have HB1 := Lib.hid (show bm.1 = (x0, y0, x1, y1) from by rw [← hbm])
  clear hbm
  have HF := Lib.hid (show ∀ r, (cropS bm r).1 = interS (x0, y0, x1, y1) r from fun r => by rw [← HB1.out]; rfl)
  go_enter Try.func23, Try.ntmps23
  have hE := Ext.alloc w (.cells #[.int .i64 x0, .int .i64 y0, .int .i64 x1, .int .i64 y1, .slice A n c] 34)
  have b2 := Box.new w 34 #[.int .i64 x0, .int .i64 y0, .int .i64 x1, .int .i64 y1, .slice A n c]
  go_wp2_with fail
  refine (HV.out _ hE).mono ?_
  rintro e w1 ⟨rfl, hE1⟩
  replace hE := hE.trans hE1
  replace b2 := b2.ext hE1
  clear hE1 HV
  have c2 := b2.cell
  go_wp2_with fail
  refine (HT.out _).mono ?_
  rintro e w2 ⟨rfl, hE1⟩
  replace hE := hE.trans hE1
  replace b2 := b2.ext hE1
  clear hE1 c2 HT
  have c2 := b2.cell
  go_wp2_with fail
  refine (HA.out _).mono ?_
  rintro e w3 ⟨v, rfl, hE1, hown⟩
  obtain ⟨N, hN⟩ : ∃ N, T.length = N := ⟨_, rfl⟩
  have HN := Lib.hid hN
  rw [hN] at hle
  obtain ⟨AR, cR, rfl, hRc, hat⟩ := hown.at hN (by omega)
  replace hE := hE.trans hE1
  replace b2 := b2.ext hE1
  clear hE1 c2 HA hN hown
  go_wp2_with fail
  go_loopw [8, 10] (fun s i wr => ∃ (k : Nat) (ss : List BS), k ≤ N ∧ i = .int .i64 k ∧ Ext w3 wr ∧ bmE.Own wr w3.heap.size s ss ∧ BmsIn wr w3.heap.size ss ((T.take k).map (cropS bm))) (fun _ i _ => N - (intOf i).toNat)
  case atStart => exact ⟨0, [], Nat.zero_le _, rfl, Ext.refl _, EL.Own.nil _ _, BmsIn.nil _ _⟩
  case round =>
    obtain ⟨k, ss, hk, rfl, hE3, hown, hbms⟩ := hrel
    by_cases hlt : k < N
    · have dk : ((k : Int) < (N : Int)) = True := eq_true (by omega)
      obtain ⟨⟨r0, r1, r2, r3⟩, hlx⟩ : ∃ q, T[k]? = some q := ⟨_, List.getElem?_eq_getElem (by rw [HN.out]; exact hlt)⟩
      obtain ⟨bb, o, rfl, hcell⟩ := hat (fun e => by rw [e] at hlx; simp at hlx)
      obtain ⟨e0, e1, e2, e3⟩ := rect_cells hcell hlx
      replace e0 := hE3.cell e0
      replace e1 := hE3.cell e1
      replace e2 := hE3.cell e2
      replace e3 := hE3.cell e3
      dsimp only at e0 e1 e2 e3
      have HX := Lib.hid (show (T.take (k + 1)).map (cropS bm) = (T.take k).map (cropS bm) ++ [cropS bm (r0, r1, r2, r3)] from by rw [take_snocG hlx, List.map_append]; rfl)
      clear hcell hlx
      have b3 := b2.ext hE3
      have c2 := b3.cell
      have HC' := Lib.hid (fun W (k : Ext w W) => HC.out r0 r1 r2 r3 W k)
      have hFr := HF.out (r0, r1, r2, r3)
      have HLE := Lib.hid (HCL.out (r0, r1, r2, r3))
      generalize cropS bm (r0, r1, r2, r3) = cr at *
      obtain ⟨cr1, cr2⟩ := cr
      generalize interS (x0, y0, x1, y1) (r0, r1, r2, r3) = q at *
      dsimp only at hFr HLE HC'
      subst hFr
      obtain ⟨q0, q1, q2, q3⟩ := cr1
      dsimp only at HC'
      have hEw := hE.trans hE3
      go_wp2_with fail
      apply wp_region_parZ 10 8 (by kernel_rfl) (by kernel_rfl) rfl (fun _ _ _ _ _ h => h)
      simp only [List.take_succ_cons, List.take_zero, List.drop_succ_cons, List.drop_zero]
      generalize hW : World.drew _ = W
      have hEW : Ext wr W := by rw [← hW]; exact Ext.drew _
      clear hW
      have b4 := b3.ext hEW
      have z0 := fun z : Later W => (b4.later z).cell
      have y0' := fun z : Later W => z.cell (hEW.cell e0)
      have y1' := fun z : Later W => z.cell (hEW.cell e1)
      have y2' := fun z : Later W => z.cell (hEW.cell e2)
      have y3' := fun z : Later W => z.cell (hEW.cell e3)
      iterate 5
        refine parW_step rfl (fun K hK => ?_)
        apply Exists.intro
        refine ⟨fun z => ?_, ?_⟩
        focus
          go_simp
          first
            | rfl
            | fail
        go_simp
        refine hK _ ?_
        clear hK K
      refine parW_rel rfl (BmT.stable W.heap.size (q0, q1, q2, q3) cr2 0) (fun x => ?_) ?_
      · have hc := (HC'.out x.val ((hEw.trans hEW).later x)).mono (R' := fun e w' => ∃ v, e = .returned v ∧ Ext x.val w' ∧ BmT W.heap.size (q0, q1, q2, q3) cr2 0 v w') fun e w' ⟨v, h1, h2, h3⟩ => ⟨_, h1, h2, v, rfl, h3.lower x.prop.size⟩
        simp only [Giv]
        go_simp
        with_reducible exact calls_rel hc
      refine parW_rel rfl (BmT.stable W.heap.size (q0, q1, q2, q3) cr2 0) (fun x => ?_) ?_
      · intro v0 hv0
        have g1 := hv0 (show Nat.testBit _ _ = true from by kernel_rfl)
        simp only [Giv]
        go_simp
        exact g1
      refine parW_rel rfl (BmV.stable W.heap.size (q0, q1, q2, q3) cr2) (fun x => ?_) ?_
      · intro v0 hv0 v1 hv1
        obtain ⟨v, rfl, g1⟩ := hv1 (show Nat.testBit _ _ = true from by kernel_rfl)
        simp only [Giv]
        go_simp
        exact ⟨v, rfl, g1⟩
      refine parW_giv (c := .int .i64 0) (fun x => ?_) ?_
      · intro v0 hv0 v1 hv1 v2 hv2
        obtain ⟨v, rfl, g1⟩ := hv1 (show Nat.testBit _ _ = true from by kernel_rfl)
        simp only [Giv]
        go_simp
      refine parW_new (t := 34) (cs := #[.int .i64 0, .int .i64 0, .int .i64 0, .int .i64 0, .slice none 0 0]) rfl rfl rfl (by simp) (fun w1 => by kernel_rfl) ?_
      refine parW_fin (fun z => ?_)
      rintro v39 hv39 v33 hv33 v40 ⟨v, rfl, hcrop⟩ v11 ⟨b7, rfl, hb7, bx7⟩ hp
      clear hp hv39 hv33
      obtain ⟨A1, c1, rfl, hle1, hmx⟩ := hcrop.len
      simp only [Act.put, List.setIfInBounds_toArray, List.set_cons_succ, List.set_cons_zero]
      have c7 := bx7.cell
      have f7 := bx7.frozen
      have hEZ := hEW.later z
      generalize z.val = Z at *
      obtain ⟨m, hm⟩ : ∃ m, cr2.length = m := ⟨_, rfl⟩
      have hm2 := HLE.out
      rw [hm] at hle1 hm2
      rw [hm]
      have HM := Lib.hid hm
      have hpx := PixAt.of_own hcrop
      clear hm hcrop c2 e0 e1 e2 e3 HC' b3 b4 z0 y0' y1' y2' y3' z
      have hE5 : Ext wr _ := hEZ.set5 (by have := hEW.size; omega) (.int .i64 q0) (.int .i64 q1) (.int .i64 q2) (.int .i64 q3) (.slice A1 m c1) (b := b7) (i := 0) (j := 1) (k := 2) (l := 3) (m := 4)
      have hpx5 := hpx.set5 bx7 (.int .i64 q0) (.int .i64 q1) (.int .i64 q2) (.int .i64 q3) (.slice A1 m c1)
      have bx5 := bx7.set5 (.int .i64 q0) (.int .i64 q1) (.int .i64 q2) (.int .i64 q3) (.slice A1 m c1)
      generalize hZ5 : World.setCell _ _ (.slice A1 m c1) = Z5 at *
      have c5 := bx5.cell
      have hEX := hE5.trans (Ext.alloc Z5 (.cells #[.int .i64 q0, .int .i64 q1, .int .i64 q2, .int .i64 q3, .slice A1 m c1] 34))
      have bX := Box.new Z5 34 #[.int .i64 q0, .int .i64 q1, .int .i64 q2, .int .i64 q3, .slice A1 m c1]
      have hrow := bmE_one bX
      have hownX := hown.ext hEX
      have hbX := (hbms.ext hEX).snoc (s := ((q0, q1, q2, q3), A1, m, c1)) (b := ((q0, q1, q2, q3), cr2)) rfl HM.out.symm (by rw [HM.out]; exact hle1) (by rw [HM.out]; omega) ((hpx5.ext (Ext.alloc _ _)).lower (Nat.le_trans hE3.size hEW.size))
      have hsl : ss.length = k := by rw [hbms.1, List.length_map, List.length_take, HN.out]; omega
      have hEY := hE3.trans hEX
      have hszz := hEY.size
      have HLL := Lib.hid (show ss.length + ([((q0, q1, q2, q3), A1, m, c1)] : List BS).length ≤ 1000000000 from by rw [hsl]; simp; omega)
      go_wp2_with (at_builtin; refine EL.wpApp bmE rfl _ _ rfl w3.heap.size u8 _ ss [((q0, q1, q2, q3), A1, m, c1)] rfl rfl hownX hrow HLL.out hszz ?_; intro v1 W1 own1 gr1 _; have hE6 := growExt hEY hownX (Nat.le_refl _) gr1)
      go_roundw
      case rel => exact ⟨k + 1, _, by omega, by go_num, hE6, own1, by rw [HX.out]; exact hbX.grown hownX gr1⟩
      case measure => simp [intOf]; omega
    · have dk : ((k : Int) < (N : Int)) = False := eq_false (by omega)
      obtain rfl : k = N := by omega
      have HX := Lib.hid (show (T.take k).map (cropS bm) = T.map (cropS bm) from by rw [List.take_of_length_le (by rw [HN.out]; exact Nat.le_refl _)])
      obtain ⟨A1, c1, rfl, _⟩ := hown.len
      go_wp2
      exact bodyPost_ret (v := .tuple #[.slice A1 ss.length c1, .int .i64 0]) (by simp [results, Try.results23, go_sem, List.size_toArray]) rfl ⟨_, ss, rfl, hE.trans hE3, hown.lower hE.size, by rw [← HX.out]; exact hbms.of⟩
end Go.Proofs.Ytefdheoalonbaaa
