/- tile.Split. -/
import Derived.Test.YtefdheoalonbaaaCrop
import Derived.Test.YtefdheoalonbaaaHil
set_option linter.unusedVariables false
set_option linter.unusedSimpArgs false
namespace Go.Proofs.Ytefdheoalonbaaa
open Go.RowKit Go.Par

/-- pixels in a block known whole, not older than B -/
def PixAt (w : World) (B : Nat) (A : Option Addr) (l : List P4) : Prop :=
  l ≠ [] → ∃ g cur, A = some ⟨g, 0, none⟩ ∧ B ≤ g ∧ Box w g 41 cur ∧ ∀ (j : Nat) (v : Value), (pixE.cells l)[j]? = some v → cur[j]? = some v
theorem PixAt.ext {w w' : World} {B : Nat} {A : Option Addr} {l : List P4} (h : PixAt w B A l) (he : Ext w w') : PixAt w' B A l := fun hl => by
  obtain ⟨g, cur, e, h1, h2, h3⟩ := h hl
  exact ⟨g, cur, e, h1, h2.ext he, h3⟩
theorem PixAt.lower {w : World} {B B' : Nat} {A : Option Addr} {l : List P4} (h : PixAt w B A l) (hb : B' ≤ B) : PixAt w B' A l := fun hl => by
  obtain ⟨g, cur, e, h1, h2, h3⟩ := h hl
  exact ⟨g, cur, e, Nat.le_trans hb h1, h2, h3⟩
theorem PixAt.at {w : World} {B : Nat} {A : Option Addr} {l : List P4} (h : PixAt w B A l) : pixE.At w A l := fun hl => by
  obtain ⟨g, cur, e, h1, h2, h3⟩ := h hl
  obtain ⟨b, o, e', hc⟩ := EL.At.box h2 h3 hl
  exact ⟨b, o, by rw [e, ← e'], hc⟩
theorem PixAt.of_own {w : World} {B : Nat} {A : Option Addr} {n c : Nat} {l : List P4} (h : pixE.Own w B (.slice A n c) l) : PixAt w B A l := fun hl => by
  rcases h.2 with ⟨e, h0⟩ | ⟨g, cap, cur, e, _⟩
  · exact absurd (List.eq_nil_of_length_eq_zero h0) hl
  · injection e with e1 e2 e3
    subst e1
    obtain ⟨cur, _, h2, h3, _, _, _, h7⟩ := h.opened
    exact ⟨g, cur, rfl, h2, h3, h7⟩
/-- bitmaps with pixels of the call's own, cut to their length -/
def BmsOwn (w : World) (B : Nat) (ss : List BS) (bs : List BM) : Prop :=
  ss.length = bs.length ∧ ∀ (i : Nat) (b : BM), bs[i]? = some b → ∃ s, ss[i]? = some s ∧ s.1 = b.1 ∧ s.2.2.1 = b.2.length ∧ s.2.2.2 = b.2.length ∧ b.2.length ≤ 17592186044416 ∧ PixAt w B s.2.1 b.2
theorem BmsOwn.nil (w : World) (B : Nat) : BmsOwn w B [] [] := ⟨rfl, fun i b h => by simp at h⟩
theorem BmsOwn.ext {w w' : World} {B : Nat} {ss : List BS} {bs : List BM} (h : BmsOwn w B ss bs) (he : Ext w w') : BmsOwn w' B ss bs :=
  ⟨h.1, fun i b hb => by obtain ⟨s, h1, h2, h3, h4, h5, h6⟩ := h.2 i b hb; exact ⟨s, h1, h2, h3, h4, h5, h6.ext he⟩⟩
theorem BmsOwn.lower {w : World} {B B' : Nat} {ss : List BS} {bs : List BM} (h : BmsOwn w B ss bs) (hb : B' ≤ B) : BmsOwn w B' ss bs :=
  ⟨h.1, fun i b hi => by obtain ⟨s, h1, h2, h3, h4, h5, h6⟩ := h.2 i b hi; exact ⟨s, h1, h2, h3, h4, h5, h6.lower hb⟩⟩
theorem BmsOwn.of {w : World} {B : Nat} {ss : List BS} {bs : List BM} (h : BmsOwn w B ss bs) : BmsOf w ss bs :=
  ⟨h.1, fun i b hi => by obtain ⟨s, h1, h2, h3, h4, h5, h6⟩ := h.2 i b hi; exact ⟨s, h1, h2, h3, by omega, h5, h6.at⟩⟩
theorem BmsOwn.snoc {w : World} {B : Nat} {ss : List BS} {bs : List BM} {s : BS} {b : BM} (h : BmsOwn w B ss bs) (h1 : s.1 = b.1) (h2 : s.2.2.1 = b.2.length) (h3 : s.2.2.2 = b.2.length) (h4 : b.2.length ≤ 17592186044416) (h5 : PixAt w B s.2.1 b.2) : BmsOwn w B (ss ++ [s]) (bs ++ [b]) := by
  refine ⟨by simp [h.1], fun i q hq => ?_⟩
  by_cases hi : i < bs.length
  · rw [List.getElem?_append_left hi] at hq
    obtain ⟨x, k1, k2⟩ := h.2 i q hq
    exact ⟨x, by rw [List.getElem?_append_left (by rw [h.1]; exact hi)]; exact k1, k2⟩
  · rw [List.getElem?_append_right (by omega)] at hq
    have h0 : i - bs.length = 0 := by
      have := (List.getElem?_eq_some_iff.1 hq).1
      simp at this
      omega
    rw [h0] at hq
    simp only [List.getElem?_cons_zero, Option.some.injEq] at hq
    subst hq
    exact ⟨s, by rw [List.getElem?_append_right (by rw [h.1]; omega), h.1, h0]; rfl, h1, h2, h3, h4, h5⟩
theorem own_ne_type {P : Program} {α : Type} {E : EL P α} {w : World} {B g : Nat} {v : Value} {l : List α} {t : TypeId} {cs : Array Value} (h : E.Own w B v l) (hb : Box w g t cs) (ht : t ≠ E.t) : v.ownBlock ≠ some g := fun e => by
  obtain ⟨_, cur, hc⟩ := ownBlock_cells h e.symm
  have := hb.symm.trans hc
  simp only [Option.some.injEq, Obj.cells.injEq] at this
  exact ht this.2.1
theorem PixAt.grown {w w' : World} {B B2 : Nat} {A : Option Addr} {l : List P4} {v : Value} {ss : List BS} (h : PixAt w B A l) (hown : bmE.Own w B2 v ss) (hg : w.grownBy w' v.ownBlock) : PixAt w' B A l := fun hl => by
  obtain ⟨g, cur, e, h1, h2, h3⟩ := h hl
  exact ⟨g, cur, e, h1, boxGrown h2 hg (own_ne_type hown h2 (by decide)), h3⟩
theorem BmsOwn.grown {w w' : World} {B B2 : Nat} {ss ss' : List BS} {bs : List BM} {v : Value} (h : BmsOwn w B ss' bs) (hown : bmE.Own w B2 v ss) (hg : w.grownBy w' v.ownBlock) : BmsOwn w' B ss' bs :=
  ⟨h.1, fun i b hb => by obtain ⟨s, h1, h2, h3, h4, h5, h6⟩ := h.2 i b hb; exact ⟨s, h1, h2, h3, h4, h5, h6.grown hown hg⟩⟩
theorem bmE_one {w : World} {b : Nat} {x0 y0 x1 y1 : Int} {A : Option Addr} {n c : Nat} (h : Box w b 34 #[.int .i64 x0, .int .i64 y0, .int .i64 x1, .int .i64 y1, .slice A n c]) : bmE.Row w (.slice (some ⟨b, 0, none⟩) 1 1) [((x0, y0, x1, y1), A, n, c)] :=
  ⟨_, _, rfl, Nat.le_refl _, (by simp), EL.At.box h fun j v hv => by simpa [EL.cells, bmE] using hv⟩
theorem crop_length (b : BM) (r : R4) : (cropS b r).2.length ≤ 67108864 := by
  have h := coords_length (interS_canon b.1 r)
  have := areaR_bd (interS b.1 r)
  show ((coordsR (interS b.1 r)).map _).length ≤ _
  rw [List.length_map]
  omega
set_option maxHeartbeats 800000 in
theorem SplitBad_any (x0 y0 x1 y1 : Int) (A : Option Addr) (c n : Nat) (l : List P4) (wd ht : Int) (w : World) (hn : l.length = n) (hb : n ≤ 17592186044416) (h : pixE.At w A l) (hok : bmOk ((x0, y0, x1, y1), l) = false) :
    Calls Try.prog 22 #[.agg #[.int .i64 x0, .int .i64 y0, .int .i64 x1, .int .i64 y1, .slice A n c], .int .i64 wd, .int .i64 ht] w fun e w' => e = .returned (.tuple #[.slice none 0 0, .int .i64 15]) ∧ Ext w w' := by
  have HV := Lib.hid (fun W (k : Ext w W) => BmValid_any x0 y0 x1 y1 A c n l W hn hb (h.ext k))
  rw [hok] at HV
  clear h hok
  go_enter Try.func22, Try.ntmps22
  have hE := Ext.alloc w (.cells #[.int .i64 x0, .int .i64 y0, .int .i64 x1, .int .i64 y1, .slice A n c] 34)
  go_wp2_with fail
  refine (HV.out _ hE).mono ?_
  rintro e w1 ⟨rfl, hE1⟩
  go_wp2
  exact bodyPost_ret (v := .tuple #[.slice none 0 0, .int .i64 15]) (by simp [results, Try.results22, go_sem, List.size_toArray]) rfl ⟨rfl, hE.trans hE1⟩
set_option maxHeartbeats 800000 in
theorem SplitArg_any (x0 y0 x1 y1 : Int) (A : Option Addr) (c n : Nat) (l : List P4) (wd ht : Int) (w : World) (hn : l.length = n) (hb : n ≤ 17592186044416) (h : pixE.At w A l) (hok : bmOk ((x0, y0, x1, y1), l) = true) (hv : validT (x0, y0, x1, y1) wd ht = false) :
    Calls Try.prog 22 #[.agg #[.int .i64 x0, .int .i64 y0, .int .i64 x1, .int .i64 y1, .slice A n c], .int .i64 wd, .int .i64 ht] w fun e w' => e = .returned (.tuple #[.slice none 0 0, .int .i64 2]) ∧ Ext w w' := by
  have HV := Lib.hid (fun W (k : Ext w W) => BmValid_any x0 y0 x1 y1 A c n l W hn hb (h.ext k))
  have HT := Lib.hid (fun W => pTileValid_any x0 y0 x1 y1 wd ht W)
  rw [hok] at HV
  rw [hv] at HT
  clear h hok hv
  go_enter Try.func22, Try.ntmps22
  have hE := Ext.alloc w (.cells #[.int .i64 x0, .int .i64 y0, .int .i64 x1, .int .i64 y1, .slice A n c] 34)
  have b2 := Box.new w 34 #[.int .i64 x0, .int .i64 y0, .int .i64 x1, .int .i64 y1, .slice A n c]
  go_wp2_with fail
  refine (HV.out _ hE).mono ?_
  rintro e w1 ⟨rfl, hE1⟩
  have c2 := (b2.ext hE1).cell
  go_wp2_with fail
  refine (HT.out _).mono ?_
  rintro e w2 ⟨rfl, hE2⟩
  go_wp2
  exact bodyPost_ret (v := .tuple #[.slice none 0 0, .int .i64 2]) (by simp [results, Try.results22, go_sem, List.size_toArray]) rfl ⟨rfl, (hE.trans hE1).trans hE2⟩
set_option maxRecDepth 100000 in
set_option maxHeartbeats 1600000 in
theorem Split_any (x0 y0 x1 y1 : Int) (A : Option Addr) (c n : Nat) (l : List P4) (wd ht : Int) (w : World) (hn : l.length = n) (hnc : n ≤ c) (hb : n ≤ 17592186044416) (h : pixE.At w A l) (hok : bmOk ((x0, y0, x1, y1), l) = true) (hv : validT (x0, y0, x1, y1) wd ht = true)
    (hw2 : wd ≤ 9223372036854775807) (hh2 : ht ≤ 9223372036854775807) :
    Calls Try.prog 22 #[.agg #[.int .i64 x0, .int .i64 y0, .int .i64 x1, .int .i64 y1, .slice A n c], .int .i64 wd, .int .i64 ht] w fun e w' =>
      ∃ v ss, e = .returned (.tuple #[v, .int .i64 0]) ∧ Ext w w' ∧ bmE.Own w' w.heap.size v ss ∧ BmsOwn w' w.heap.size ss ((allT (x0, y0, x1, y1) wd ht).map (cropS ((x0, y0, x1, y1), l))) := by
  have HV := Lib.hid (fun W (k : Ext w W) => BmValid_any x0 y0 x1 y1 A c n l W hn hb (h.ext k))
  have HT := Lib.hid (fun W => pTileValid_any x0 y0 x1 y1 wd ht W)
  have HA := Lib.hid (fun W => tileAll_any x0 y0 x1 y1 wd ht W hw2 hh2)
  have HC := Lib.hid (fun r0 r1 r2 r3 W (k : Ext w W) => Crop_any x0 y0 x1 y1 r0 r1 r2 r3 A c n l W hn hnc hb (h.ext k) hok)
  rw [hok] at HV
  rw [hv] at HT
  have hle := allT_le (x0, y0, x1, y1) wd ht
  clear h hok hv
  generalize allT (x0, y0, x1, y1) wd ht = T at *
  generalize hbm : (((x0, y0, x1, y1), l) : BM) = bm at *
  have HCL := Lib.hid (crop_length bm)
  have HB1 := Lib.hid (show bm.1 = (x0, y0, x1, y1) from by rw [← hbm])
  clear hbm
  have HF := Lib.hid (show ∀ r, (cropS bm r).1 = interS (x0, y0, x1, y1) r from fun r => by rw [← HB1.out]; rfl)
  go_enter Try.func22, Try.ntmps22
  have hE := Ext.alloc w (.cells #[.int .i64 x0, .int .i64 y0, .int .i64 x1, .int .i64 y1, .slice A n c] 34)
  have b2 := Box.new w 34 #[.int .i64 x0, .int .i64 y0, .int .i64 x1, .int .i64 y1, .slice A n c]
  go_wp2_with fail
  refine (HV.out _ hE).mono ?_
  rintro e w1 ⟨rfl, hE1⟩
  replace hE := hE.trans hE1
  replace b2 := b2.ext hE1
  clear hE1 HV
  have c2 := b2.cell
  go_wp2_with fail
  refine (HT.out _).mono ?_
  rintro e w2 ⟨rfl, hE1⟩
  replace hE := hE.trans hE1
  replace b2 := b2.ext hE1
  clear hE1 c2 HT
  have c2 := b2.cell
  go_wp2_with fail
  refine (HA.out _).mono ?_
  rintro e w3 ⟨v, rfl, hE1, hown⟩
  obtain ⟨N, hN⟩ : ∃ N, T.length = N := ⟨_, rfl⟩
  have HN := Lib.hid hN
  rw [hN] at hle
  obtain ⟨AR, cR, rfl, hRc, hat⟩ := hown.at hN (by omega)
  replace hE := hE.trans hE1
  replace b2 := b2.ext hE1
  clear hE1 c2 HA hN hown
  go_wp2_with fail
  go_loopw [8, 28] (fun s i wr => ∃ (k : Nat) (ss : List BS), k ≤ N ∧ i = .int .i64 k ∧ Ext w3 wr ∧ bmE.Own wr w3.heap.size s ss ∧ BmsOwn wr w3.heap.size ss ((T.take k).map (cropS bm))) (fun _ i _ => N - (intOf i).toNat)
  case atStart => exact ⟨0, [], Nat.zero_le _, rfl, Ext.refl _, EL.Own.nil _ _, BmsOwn.nil _ _⟩
  case round =>
    obtain ⟨k, ss, hk, rfl, hE3, hown, hbms⟩ := hrel
    by_cases hlt : k < N
    · obtain ⟨⟨r0, r1, r2, r3⟩, hlx⟩ : ∃ q, T[k]? = some q := ⟨_, List.getElem?_eq_getElem (by rw [HN.out]; exact hlt)⟩
      obtain ⟨bb, o, rfl, hcell⟩ := hat (fun e => by rw [e] at hlx; simp at hlx)
      obtain ⟨e0, e1, e2, e3⟩ := rect_cells hcell hlx
      replace e0 := hE3.cell e0
      replace e1 := hE3.cell e1
      replace e2 := hE3.cell e2
      replace e3 := hE3.cell e3
      dsimp only at e0 e1 e2 e3
      have HX := Lib.hid (show (T.take (k + 1)).map (cropS bm) = (T.take k).map (cropS bm) ++ [cropS bm (r0, r1, r2, r3)] from by rw [take_snocG hlx, List.map_append]; rfl)
      clear hcell hlx
      have b3 := b2.ext hE3
      have c2 := b3.cell
      have HC' := Lib.hid (fun W (k : Ext w W) => HC.out r0 r1 r2 r3 W k)
      have hFr := HF.out (r0, r1, r2, r3)
      have HLE := Lib.hid (HCL.out (r0, r1, r2, r3))
      generalize cropS bm (r0, r1, r2, r3) = cr at *
      obtain ⟨cr1, cr2⟩ := cr
      generalize interS (x0, y0, x1, y1) (r0, r1, r2, r3) = q at *
      dsimp only at hFr HLE HC'
      subst hFr
      obtain ⟨q0, q1, q2, q3⟩ := cr1
      dsimp only at HC'
      go_wp2_with fail
      have hEa := hE3.trans (Ext.alloc wr (.cells #[.int .i64 r0, .int .i64 r1, .int .i64 r2, .int .i64 r3] 23))
      refine (HC'.out _ (hE.trans hEa)).mono ?_
      rintro e w4 ⟨v, rfl, hE4, hcrop⟩
      have hE34 := (Ext.alloc wr (.cells #[.int .i64 r0, .int .i64 r1, .int .i64 r2, .int .i64 r3] 23)).trans hE4
      have hss := hE34.size
      obtain ⟨A1, c1, rfl, hle1, hmx⟩ := hcrop.len
      have hpx := PixAt.of_own hcrop
      obtain ⟨m, hm⟩ : ∃ m, cr2.length = m := ⟨_, rfl⟩
      have hm2 := HLE.out
      rw [hm] at hle1 hm2
      rw [hm]
      have HM := Lib.hid hm
      clear hm hcrop c2 e0 e1 e2 e3 HC' b3
      have hEX := (Ext.alloc w4 (.cells #[.int .i64 q0, .int .i64 q1, .int .i64 q2, .int .i64 q3, .slice A1 m m] 34)).trans (Ext.alloc _ (.cells #[.int .i64 q0, .int .i64 q1, .int .i64 q2, .int .i64 q3, .slice A1 m m] 34))
      have bX := Box.at1 (w := w4) (o := .cells #[.int .i64 q0, .int .i64 q1, .int .i64 q2, .int .i64 q3, .slice A1 m m] 34) (t := 34) (cs := #[.int .i64 q0, .int .i64 q1, .int .i64 q2, .int .i64 q3, .slice A1 m m])
      have hrow := bmE_one bX
      have hownX := hown.ext (hE34.trans hEX)
      have hbX := (hbms.ext (hE34.trans hEX)).snoc (s := ((q0, q1, q2, q3), A1, m, m)) (b := ((q0, q1, q2, q3), cr2)) rfl HM.out.symm HM.out.symm (by rw [HM.out]; omega) ((hpx.ext hEX).lower (hEa.size))
      have hsl : ss.length = k := by rw [hbms.1, List.length_map, List.length_take, HN.out]; omega
      have hEY := hE3.trans (hE34.trans hEX)
      have hszz := hEY.size
      have HLL := Lib.hid (show ss.length + ([((q0, q1, q2, q3), A1, m, m)] : List BS).length ≤ 1000000000 from by rw [hsl]; simp; omega)
      go_wp2_with (at_builtin; refine EL.wpApp bmE rfl _ _ rfl w3.heap.size u8 _ ss [((q0, q1, q2, q3), A1, m, m)] rfl rfl hownX hrow HLL.out hszz ?_; intro v1 W1 own1 gr1 _; have hE5 := growExt hEY hownX (Nat.le_refl _) gr1)
      go_roundw
      case rel => exact ⟨k + 1, _, by omega, by go_num, hE5, own1, by rw [HX.out]; exact hbX.grown hownX gr1⟩
      case measure => simp [intOf]; omega
    · have dk : ((k : Int) < (N : Int)) = False := eq_false (by omega)
      obtain rfl : k = N := by omega
      have HX := Lib.hid (show (T.take k).map (cropS bm) = T.map (cropS bm) from by rw [List.take_of_length_le (by rw [HN.out]; exact Nat.le_refl _)])
      obtain ⟨A1, c1, rfl, _⟩ := hown.len
      go_wp2
      exact bodyPost_ret (v := .tuple #[.slice A1 ss.length c1, .int .i64 0]) (by simp [results, Try.results22, go_sem, List.size_toArray]) rfl ⟨_, ss, rfl, hE.trans hE3, hown.lower hE.size, by rw [← HX.out]; exact hbms.lower hE.size⟩
end Go.Proofs.Ytefdheoalonbaaa
