/- TileSplit: the walk. -/
import Derived.Test.YtefdheoalonbaaaSplitR
import Derived.Test.YtefdheoalonbaaaSame
import Derived.Test.YtefdheoalonbaaaApp0
import Derived.Test.YtefdheoalonbaaaEx
set_option linter.unusedVariables false
set_option linter.unusedSimpArgs false
namespace Go.Proofs.Ytefdheoalonbaaa
open Go.RowKit Go.Par

/-- the last cell of every pixel of the bitmaps, in blocks not older than B -/
def AlphaOf (w : World) (B : Nat) (ss : List BS) : Prop :=
  ∀ (i : Nat) (s : BS), ss[i]? = some s → ∀ k, k < s.2.2.1 → ∃ g cur u, s.2.1 = some ⟨g, 0, none⟩ ∧ B ≤ g ∧ Box w g 41 cur ∧ cur[k * 4 + 3]? = some (.int .u8 u)
theorem AlphaOf.of {w : World} {B : Nat} {ss : List BS} {bs : List BM} (h : BmsOwn w B ss bs) : AlphaOf w B ss := fun i s hs k hk => by
  obtain ⟨b, hb⟩ : ∃ b, bs[i]? = some b := ⟨_, List.getElem?_eq_getElem (by rw [← h.1]; exact (List.getElem?_eq_some_iff.1 hs).1)⟩
  obtain ⟨s', h1, h2, h3, h4, h5, h6⟩ := h.2 i b hb
  rw [hs] at h1
  injection h1 with h1
  subst h1
  obtain ⟨g, cur, e, h7, h8, h9⟩ := h6 (fun e => by rw [e] at h3; simp at h3; omega)
  obtain ⟨p, hp⟩ : ∃ p, b.2[k]? = some p := ⟨_, List.getElem?_eq_getElem (by omega)⟩
  exact ⟨g, cur, p.2.2.2, e, h7, h8, h9 _ _ (pixE.cells_at (j := 3) hp rfl)⟩
theorem AlphaOf.ext {w w' : World} {B : Nat} {ss : List BS} (h : AlphaOf w B ss) (he : Ext w w') : AlphaOf w' B ss := fun i s hs k hk => by
  obtain ⟨g, cur, u, h1, h2, h3, h4⟩ := h i s hs k hk
  exact ⟨g, cur, u, h1, h2, h3.ext he, h4⟩
theorem AlphaOf.set {w : World} {B : Nat} {ss : List BS} (h : AlphaOf w B ss) (g j : Nat) (v : Int) : AlphaOf (w.setCell ⟨g, j, none⟩ (.int .u8 v)) B ss := fun i s hs k hk => by
  obtain ⟨g', cur, u, h1, h2, h3, h4⟩ := h i s hs k hk
  by_cases e : g' = g
  · subst e
    by_cases ej : j = k * 4 + 3
    · subst ej
      refine ⟨g', _, v, h1, h2, h3.set _ _, ?_⟩
      have := (Array.getElem?_eq_some_iff.1 h4).1
      simp [this]
    · refine ⟨g', _, u, h1, h2, h3.set _ _, ?_⟩
      rw [Array.getElem?_setIfInBounds_ne ej]
      exact h4
  · exact ⟨g', cur, u, h1, h2, h3.far e _, h4⟩
/-- the row of bitmaps, in a block known whole -/
def BmRowAt (w : World) (A : Option Addr) (ss : List BS) : Prop :=
  ss ≠ [] → ∃ g cur, A = some ⟨g, 0, none⟩ ∧ Box w g 34 cur ∧ ∀ (j : Nat) (v : Value), (bmE.cells ss)[j]? = some v → cur[j]? = some v
theorem BmRowAt.of_own {w : World} {B : Nat} {A : Option Addr} {n c : Nat} {l : List BS} (h : bmE.Own w B (.slice A n c) l) : BmRowAt w A l := fun hl => by
  rcases h.2 with ⟨e, h0⟩ | ⟨g, cap, cur, e, _⟩
  · exact absurd (List.eq_nil_of_length_eq_zero h0) hl
  · injection e with e1 e2 e3
    subst e1
    obtain ⟨cur, _, h2, h3, _, _, _, h7⟩ := h.opened
    exact ⟨g, cur, rfl, h3, h7⟩
theorem BmRowAt.at {w : World} {A : Option Addr} {l : List BS} (h : BmRowAt w A l) : bmE.At w A l := fun hl => by
  obtain ⟨g, cur, e, h2, h3⟩ := h hl
  obtain ⟨b, o, e', hc⟩ := EL.At.box h2 h3 hl
  exact ⟨b, o, by rw [e, ← e'], hc⟩
theorem BmRowAt.ext {w w' : World} {A : Option Addr} {l : List BS} (h : BmRowAt w A l) (he : Ext w w') : BmRowAt w' A l := fun hl => by
  obtain ⟨g, cur, e, h2, h3⟩ := h hl
  exact ⟨g, cur, e, h2.ext he, h3⟩
theorem BmRowAt.set {w : World} {A : Option Addr} {l : List BS} (h : BmRowAt w A l) {g : Nat} {cs : Array Value} (hg : Box w g 41 cs) (j : Nat) (v : Value) : BmRowAt (w.setCell ⟨g, j, none⟩ v) A l := fun hl => by
  obtain ⟨g', cur, e, h2, h3⟩ := h hl
  refine ⟨g', cur, e, h2.far (fun e => ?_) _, h3⟩
  subst e
  have := h2.symm.trans hg
  injection this with this
  injection this with _ this
  exact absurd this (by decide)
set_option maxRecDepth 100000 in
set_option maxHeartbeats 1600000 in
theorem tileSplit_any (x0 y0 x1 y1 wd ht : Int) (A : Option Addr) (c n : Nat) (l : List P4) (w : World) (hn : l.length = n) (hnc : n ≤ c) (h : pixE.At w A l) (hw2 : wd ≤ 9223372036854775807) (hh2 : ht ≤ 9223372036854775807) :
    Calls Try.prog 4 #[.agg #[.int .i64 x0, .int .i64 y0, .int .i64 x1, .int .i64 y1, .slice A n c], .int .i64 wd, .int .i64 ht] w fun e w' => e = .returned (.bool true) ∧ Ext w w' := by
  go_enter Try.func4, Try.ntmps4
  have hE := Ext.alloc w (.cells #[.int .i64 x0, .int .i64 y0, .int .i64 x1, .int .i64 y1, .slice A n c] 34)
  have b3 := Box.new w 34 #[.int .i64 x0, .int .i64 y0, .int .i64 x1, .int .i64 y1, .slice A n c]
  by_cases h4 : 400 < n
  · have d1 : ((400 : Int) < (n : Int)) = True := eq_true (by omega)
    go_wp2_with fail
    refine (example_any _).mono ?_
    rintro e w3 ⟨rfl, hE3⟩
    go_wp2
    go_ret
    exact ⟨ret_eq rfl, hE.trans hE3⟩
  have d1 : ((400 : Int) < (n : Int)) = False := eq_false (by omega)
  have HN := Lib.hid hn
  have hb : n ≤ 17592186044416 := by omega
  have hrow : pixE.Row w (.slice A n c) l := by subst hn; exact ⟨A, c, rfl, hnc, hb, h⟩
  go_wp2_with fail
  apply wp_region_par' 8 (by kernel_rfl) (by kernel_rfl) rfl
  simp only [List.take_succ_cons, List.take_zero, List.drop_succ_cons, List.drop_zero]
  generalize hW : World.drew _ = W
  replace hE : Ext w W := by rw [← hW]; exact hE.trans (Ext.drew _)
  replace b3 : Box W w.heap.size 34 #[.int .i64 x0, .int .i64 y0, .int .i64 x1, .int .i64 y1, .slice A n c] := by rw [← hW]; exact b3.drew
  clear hW
  have k3 := b3.lcell
  iterate 2
    refine parW_step rfl (fun K hK => ?_)
    apply Exists.intro
    refine ⟨fun z => ?_, ?_⟩
    focus
      go_simp
      first
        | rfl
        | fail
    go_simp
    refine hK _ ?_
    clear hK K
  refine parW_newRow (t := 41) (n := 0) (cs := #[]) rfl rfl rfl (by simp) (fun w1 => by go_simp) ?_
  iterate 2
    refine parW_step rfl (fun K hK => ?_)
    apply Exists.intro
    refine ⟨fun z => ?_, ?_⟩
    focus
      go_simp
      first
        | rfl
        | fail
    go_simp
    refine hK _ ?_
    clear hK K
  refine parW_rel rfl (R := fun v w => pixE.Own w W.heap.size v l) (fun v w w' h he => h.ext he) (fun x => ?_) ?_
  · intro v0 hv0
    obtain ⟨b, rfl, hb0, bx⟩ := hv0 (show Nat.testBit _ _ = true from by kernel_rfl)
    obtain ⟨v', w', r1, r2, r3⟩ := EL.app0 (E := pixE) 32 (hrow.ext (hE.later x)) (by rw [HN.out]; omega) x.prop.size hb0 bx
    simp only [Giv]
    exact relStep_appG rfl _ _ _ rfl rfl rfl r1 r3 r2
  refine parW_rel rfl (BmV.stable W.heap.size (x0, y0, x1, y1) l) (fun x => ?_) ?_
  · intro v0 hv0 v1 hv1
    have g1 := hv1 (show Nat.testBit _ _ = true from by kernel_rfl)
    obtain ⟨Ax, cx, rfl, _⟩ := EL.Own.len g1
    simp only [Giv]
    go_simp
    exact ⟨_, rfl, by rw [← HN.out]; exact g1⟩
  refine parW_new (t := 34) (cs := #[.int .i64 0, .int .i64 0, .int .i64 0, .int .i64 0, .slice none 0 0]) rfl rfl rfl (by simp) (fun w1 => by kernel_rfl) ?_
  refine parW_fin (fun z => ?_)
  rintro v22 hv22 v25 hv25 v26 ⟨v, rfl, hcp⟩ v7 ⟨b7, rfl, hb7, bx7⟩ hp
  clear hp hv22 hv25
  obtain ⟨A1, c1, rfl, hle1, hmx⟩ := hcp.len
  rw [HN.out] at hcp hle1
  rw [HN.out]
  have hpx := (PixAt.of_own hcp).set5 bx7 (.int .i64 x0) (.int .i64 y0) (.int .i64 x1) (.int .i64 y1) (.slice A1 n c1)
  have hw0 := b3.lt
  have hE5 : Ext w _ := (hE.later z).set5 (by omega) (.int .i64 x0) (.int .i64 y0) (.int .i64 x1) (.int .i64 y1) (.slice A1 n c1) (b := b7) (i := 0) (j := 1) (k := 2) (l := 3) (m := 4)
  have bx5 := bx7.set5 (.int .i64 x0) (.int .i64 y0) (.int .i64 x1) (.int .i64 y1) (.slice A1 n c1)
  have b35 := (b3.later z).far5 (show w.heap.size ≠ b7 by omega) 0 1 2 3 4 (.int .i64 x0) (.int .i64 y0) (.int .i64 x1) (.int .i64 y1) (.slice A1 n c1)
  simp only [Act.put, List.setIfInBounds_toArray, List.set_cons_succ, List.set_cons_zero]
  have c7 := bx7.cell
  have f7 := bx7.frozen
  generalize z.val = Z at *
  generalize hZ5 : World.setCell _ _ (.slice A1 n c1) = Z5 at *
  have c5 := bx5.cell
  have c3 := b35.cell
  have hat1 := hpx.at
  clear hpx k3 b3 z hE
  have HF := Lib.hid (fun W (k : Ext Z5 W) => BmEqual_any x0 y0 x1 y1 x0 y0 x1 y1 A1 A c1 c n n l l W HN.out HN.out hb hb (hat1.ext k) (h.ext (hE5.trans k)))
  have eqT : (decide ((((x0, y0, x1, y1), l) : BM) = ((x0, y0, x1, y1), l))) = true := by simp
  rw [eqT] at HF
  clear eqT
  have HE0 := Lib.hid (fun W => Same_any none none 0 0 0 0 [] [] [] [] W rfl rfl (by omega) (by omega) (EL.At.nil _ _) (EL.At.nil _ _) (BmsOf.nil W) (BmsOf.nil W))
  have eq0 : (decide (([] : List BM) = [])) = true := by simp
  rw [eq0] at HE0
  clear eq0
  by_cases hOV : bmOk ((x0, y0, x1, y1), l) = true ∧ validT (x0, y0, x1, y1) wd ht = true
  · have HS := Lib.hid (fun W (k : Ext Z5 W) => Split_any x0 y0 x1 y1 A1 c1 n l wd ht W HN.out hle1 hb (hat1.ext k) hOV.1 hOV.2 hw2 hh2)
    have HR := Lib.hid (fun W (k : Ext Z5 W) => rSplit_any x0 y0 x1 y1 A c n l wd ht W HN.out hnc hb (h.ext (hE5.trans k)) hOV.1 hOV.2)
    have hlen : ((allT (x0, y0, x1, y1) wd ht).map (cropS ((x0, y0, x1, y1), l))).length ≤ 17592186044416 := by rw [List.length_map]; have := allT_le (x0, y0, x1, y1) wd ht; omega
    generalize (allT (x0, y0, x1, y1) wd ht).map (cropS ((x0, y0, x1, y1), l)) = bs at *
    clear hOV h4 hrow h
    go_wp2_with fail
    refine (HS.out _ (Ext.refl _)).mono ?_
    rintro e w4 ⟨v, ss, rfl, hE4, hown, hbm⟩
    obtain ⟨N, hNs⟩ : ∃ N, ss.length = N := ⟨_, rfl⟩
    have hNb : N ≤ 17592186044416 := by rw [← hNs, hbm.1]; exact hlen
    obtain ⟨AS, cS, rfl, hcS, hatS⟩ := hown.at hNs hNb
    have hbr := BmRowAt.of_own hown
    have hal := AlphaOf.of hbm
    have hbo := hbm.of
    have hHN := Lib.hid hNs
    have HNB := Lib.hid (show ∀ (i : Nat) (s : BS), ss[i]? = some s → s.2.2.1 ≤ 17592186044416 from fun i s hs => by
      obtain ⟨b, hb⟩ : ∃ b, bs[i]? = some b := ⟨_, List.getElem?_eq_getElem (by rw [← hbm.1]; exact (List.getElem?_eq_some_iff.1 hs).1)⟩
      obtain ⟨s', k1, k2, k3, k4, k5, k6⟩ := hbm.2 i b hb
      rw [hs] at k1
      injection k1 with k1
      subst k1
      omega)
    clear c7 f7 bx7 hZ5 c5 c3 hown hbm hNs hatS HS
    have c5 := (bx5.ext hE4).cell
    have c3 := (b35.ext hE4).cell
    go_wp2_with fail
    refine (HR.out _ hE4).mono ?_
    rintro e w5 ⟨v, rss, rfl, hE6, hown, hbm⟩
    replace hE4 := hE4.trans hE6
    replace hbr := hbr.ext hE6
    replace hal := hal.ext hE6
    replace hbo := hbo.ext hE6
    obtain ⟨M, hMs⟩ : ∃ M, rss.length = M := ⟨_, rfl⟩
    have hMb : M ≤ 17592186044416 := by rw [← hMs, hbm.1]; exact hlen
    obtain ⟨AR, cR, rfl, hcR, hatR⟩ := hown.at hMs hMb
    have HE1 := Lib.hid (fun W (k : Ext w5 W) => Same_any AS AR cS cR N M ss rss bs bs W hHN.out hMs hNb hMb (hbr.at.ext k) (hatR.ext k) (hbo.ext k) (hbm.ext k))
    rw [decide_eq_true rfl] at HE1
    clear c5 c3 hE6 hown hbm hMs hatR HR
    have c5 := (bx5.ext hE4).cell
    have c3 := (b35.ext hE4).cell
    go_wp2_with fail
    refine (HE1.out _ (Ext.refl _)).mono ?_
    rintro e w6 ⟨rfl, hE6⟩
    replace hE4 := hE4.trans hE6
    replace hbr := hbr.ext hE6
    replace hal := hal.ext hE6
    clear c5 c3 hE6 HE1 hbo HE0
    have c5 := (bx5.ext hE4).cell
    have c3 := (b35.ext hE4).cell
    go_wp2_with fail
    clear c5 c3
    go_loopw [51] (fun i wr => ∃ k : Nat, k ≤ N ∧ i = .int .i64 k ∧ Ext Z5 wr ∧ BmRowAt wr AS ss ∧ AlphaOf wr Z5.heap.size ss) (fun i _ => N - (intOf i).toNat)
    case atStart => exact ⟨0, Nat.zero_le _, rfl, hE4, hbr, hal⟩
    case round =>
      clear hE4 hbr hal
      obtain ⟨k, hk, rfl, hE4, hbr, hal⟩ := hrel
      have c5 := (bx5.ext hE4).cell
      have c3 := (b35.ext hE4).cell
      by_cases hlt : k < N
      · have dk : ((k : Int) < (N : Int)) = True := eq_true (by omega)
        obtain ⟨⟨⟨r0, r1, r2, r3⟩, B1, n1, k1⟩, hsk⟩ : ∃ q, ss[k]? = some q := ⟨_, List.getElem?_eq_getElem (by rw [hHN.out]; exact hlt)⟩
        obtain ⟨gb, cur, rfl, hbx, hcur⟩ := hbr (fun e => by rw [e] at hsk; simp at hsk)
        have HAL := Lib.hid (show ∀ W, AlphaOf W Z5.heap.size ss → ∀ j, j < n1 → ∃ g cur u, B1 = some ⟨g, 0, none⟩ ∧ Z5.heap.size ≤ g ∧ Box W g 41 cur ∧ cur[j * 4 + 3]? = some (.int .u8 u) from fun W h j hj => h k _ hsk j hj)
        have HCE := Lib.hid (show ∀ W cur, Box W gb 34 cur → (∀ (j : Nat) (v : Value), (bmE.cells ss)[j]? = some v → cur[j]? = some v) → W.cell? ⟨gb, k * 5 + 4, none⟩ = some (.slice B1 n1 k1) from fun W cur hb hc => by
          rw [hb.cell]
          exact hc _ _ (bmE.cells_at (j := 4) hsk rfl))
        have e4 := HCE.out _ _ hbx hcur
        have hn1 : n1 ≤ 17592186044416 := HNB.out k _ hsk
        clear hsk c5 c3
        go_wp2_with fail
        clear hbx hcur e4
        go_loopw [60] (fun i wi => ∃ j : Nat, j ≤ n1 ∧ i = .int .i64 j ∧ Ext Z5 wi ∧ BmRowAt wi (some ⟨gb, 0, none⟩) ss ∧ AlphaOf wi Z5.heap.size ss) (fun i _ => n1 - (intOf i).toNat)
        case atStart => exact ⟨0, Nat.zero_le _, rfl, hE4, hbr, hal⟩
        case round =>
          clear hE4 hbr hal
          obtain ⟨j, hj, rfl, hE4, hbr, hal⟩ := hrel
          by_cases hjl : j < n1
          · have dj : ((j : Int) < (n1 : Int)) = True := eq_true (by omega)
            obtain ⟨gp, cp, u, rfl, hgp, hbp, hcp'⟩ := HAL.out _ hal j hjl
            obtain ⟨gb', cur, hgb, hbx, hcur⟩ := hbr (fun e => by have := hHN.out; rw [e] at this; simp at this; omega)
            injection hgb with hgb
            injection hgb with hgb
            subst hgb
            have e4 := HCE.out _ _ hbx hcur
            have ep := (hbp.cell (j * 4 + 3)).trans hcp'
            have ef := hbp.frozen (j * 4 + 3)
            have hE6 := hE4.set (p := ⟨gp, j * 4 + 3, none⟩) hgp (.int .u8 (IntKind.u8.wrap (u + 3)))
            have hbr6 := hbr.set hbp (j * 4 + 3) (.int .u8 (IntKind.u8.wrap (u + 3)))
            have hal6 := hal.set gp (j * 4 + 3) (IntKind.u8.wrap (u + 3))
            clear hbx hcur hbr hal hbp hcp'
            go_wp2_with fail
            go_roundw
            case rel => exact ⟨j + 1, by omega, by go_num, hE6, hbr6, hal6⟩
            case measure => simp [intOf]; omega
          · have dj : ((j : Int) < (n1 : Int)) = False := eq_false (by omega)
            go_wp2_with fail
            go_roundw
            case rel => exact ⟨k + 1, by omega, by go_num, hE4, hbr, hal⟩
            case measure => simp [intOf]; omega
      · have dk : ((k : Int) < (N : Int)) = False := eq_false (by omega)
        go_wp2_with fail
        refine (HF.out _ hE4).mono ?_
        rintro e w7 ⟨rfl, hE7⟩
        go_wp2_with fail
        refine (example_any _).mono ?_
        rintro e w8 ⟨rfl, hE8⟩
        go_wp2
        go_ret
        exact ⟨ret_eq rfl, ((hE5.trans hE4).trans hE7).trans hE8⟩
  · obtain ⟨er, HS, HR⟩ : ∃ er : Int, Hid (∀ W, Ext Z5 W → Calls Try.prog 22 #[.agg #[.int .i64 x0, .int .i64 y0, .int .i64 x1, .int .i64 y1, .slice A1 n c1], .int .i64 wd, .int .i64 ht] W fun e w' => e = .returned (.tuple #[.slice none 0 0, .int .i64 er]) ∧ Ext W w') ∧
        Hid (∀ W, Ext Z5 W → Calls Try.prog 23 #[.agg #[.int .i64 x0, .int .i64 y0, .int .i64 x1, .int .i64 y1, .slice A n c], .int .i64 wd, .int .i64 ht] W fun e w' => e = .returned (.tuple #[.slice none 0 0, .int .i64 er]) ∧ Ext W w') := by
      by_cases hok : bmOk ((x0, y0, x1, y1), l) = true
      · have hv : validT (x0, y0, x1, y1) wd ht = false := by simpa [hok] using hOV
        exact ⟨2, Lib.hid (fun W k => SplitArg_any x0 y0 x1 y1 A1 c1 n l wd ht W HN.out hb (hat1.ext k) hok hv), Lib.hid (fun W k => rSplitArg_any x0 y0 x1 y1 A c n l wd ht W HN.out hb (h.ext (hE5.trans k)) hok hv)⟩
      · replace hok : bmOk ((x0, y0, x1, y1), l) = false := by simpa using hok
        exact ⟨15, Lib.hid (fun W k => SplitBad_any x0 y0 x1 y1 A1 c1 n l wd ht W HN.out hb (hat1.ext k) hok), Lib.hid (fun W k => rSplitBad_any x0 y0 x1 y1 A c n l wd ht W HN.out hb (h.ext (hE5.trans k)) hok)⟩
    clear hOV h4 hrow h
    go_wp2_with fail
    refine (HS.out _ (Ext.refl _)).mono ?_
    rintro e w4 ⟨rfl, hE4⟩
    clear c7 f7 bx7 hZ5 c5 c3
    have c5 := (bx5.ext hE4).cell
    have c3 := (b35.ext hE4).cell
    go_wp2_with fail
    refine (HR.out _ hE4).mono ?_
    rintro e w5 ⟨rfl, hE6⟩
    replace hE4 := hE4.trans hE6
    clear c5 c3 hE6
    have c5 := (bx5.ext hE4).cell
    have c3 := (b35.ext hE4).cell
    have de : (er == er) = true := by simp
    go_wp2_with fail
    refine (HE0.out _).mono ?_
    rintro e w6 ⟨rfl, hE6⟩
    replace hE4 := hE4.trans hE6
    clear c5 c3 hE6
    go_wp2_with fail
    go_loopw [51] (fun i wr => i = .int .i64 0 ∧ Ext Z5 wr) (fun i _ => 0)
    case atStart => exact ⟨rfl, hE4⟩
    case round =>
      clear hE4
      obtain ⟨rfl, hE4⟩ := hrel
      have c5 := (bx5.ext hE4).cell
      have c3 := (b35.ext hE4).cell
      have dk : ((0 : Int) < (0 : Int)) = False := eq_false (by omega)
      go_wp2_with fail
      refine (HF.out _ hE4).mono ?_
      rintro e w7 ⟨rfl, hE7⟩
      go_wp2_with fail
      refine (example_any _).mono ?_
      rintro e w8 ⟨rfl, hE8⟩
      go_wp2
      go_ret
      exact ⟨ret_eq rfl, ((hE5.trans hE4).trans hE7).trans hE8⟩
end Go.Proofs.Ytefdheoalonbaaa
