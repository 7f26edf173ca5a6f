/- TileAssemble: the walk. -/
import Derived.Test.YtefdheoalonbaaaLTShuf
import Derived.Test.YtefdheoalonbaaaMix
import Derived.Test.YtefdheoalonbaaaKeepG
import Derived.Test.YtefdheoalonbaaaParZ
import Derived.Test.YtefdheoalonbaaaEx
set_option linter.unusedVariables false
set_option linter.unusedSimpArgs false
namespace Go.Proofs.Ytefdheoalonbaaa
open Go.RowKit Go.Par

def pickS (ss : List BS) (o : List Int) : List BS := o.map fun i => ss.getD i.toNat ((0, 0, 0, 0), none, 0, 0)
theorem pickS_length (ss : List BS) (o : List Int) : (pickS ss o).length = o.length := by simp [pickS]
theorem pickS_snoc {ss : List BS} {o : List Int} {j m : Nat} {x : BS} (ho : o[j]? = some (m : Int)) (hx : ss[m]? = some x) : pickS ss (o.take (j + 1)) = pickS ss (o.take j) ++ [x] := by
  unfold pickS
  rw [take_snocG ho, List.map_append]
  simp only [List.map_cons, List.map_nil, Int.toNat_natCast, List.getD_eq_getElem?_getD, hx]
  rfl
theorem BmsOf.pick {w : World} {ss : List BS} {L : List BM} (h : BmsOf w ss L) {o : List Int} (ho : ∀ x ∈ o, 0 ≤ x ∧ x < L.length) : BmsOf w (pickS ss o) (pickB L o) := by
  refine ⟨by simp [pickS, pickB], fun i b hb => ?_⟩
  unfold pickB at hb
  rw [List.getElem?_map] at hb
  cases hx : o[i]? with
  | none => rw [hx] at hb; cases hb
  | some x =>
    rw [hx] at hb
    simp only [Option.map_some, Option.some.injEq] at hb
    obtain ⟨x0, x1⟩ := ho x (List.mem_of_getElem? hx)
    have hl : x.toNat < L.length := by omega
    rw [List.getD_eq_getElem?_getD, List.getElem?_eq_getElem hl] at hb
    obtain ⟨s, h1, h2⟩ := h.2 x.toNat b (by rw [List.getElem?_eq_getElem hl]; exact congrArg some hb)
    exact ⟨s, by unfold pickS; rw [List.getElem?_map, hx]; simp only [Option.map_some, List.getD_eq_getElem?_getD, h1]; rfl, h2⟩
theorem BmsOf.tail {w : World} {s : BS} {ss : List BS} {b : BM} {bs : List BM} (h : BmsOf w (s :: ss) (b :: bs)) : BmsOf w ss bs ∧ BmAt w s b := by
  refine ⟨⟨by simpa using h.1, fun i x hx => ?_⟩, ?_⟩
  · obtain ⟨y, h1, h2⟩ := h.2 (i + 1) x (by simpa using hx)
    exact ⟨y, by simpa using h1, h2⟩
  · obtain ⟨y, h1, h2⟩ := h.2 0 b rfl
    simp at h1
    subst h1
    exact h2
/-- the tiles that Split hands back bear the rectangles of the tiling -/
theorem cut_bounds {x0 y0 x1 y1 wd ht : Int} {l : List P4} (hv : validT (x0, y0, x1, y1) wd ht = true) {w : World} {ss : List BS} (h : BmsOf w ss ((allT (x0, y0, x1, y1) wd ht).map (cropS ((x0, y0, x1, y1), l)))) {m : Nat} {x : BS} (hx : ss[m]? = some x) :
    boundsT (x0, y0, x1, y1) wd ht m = x.1 := by
  have hm : m < (allT (x0, y0, x1, y1) wd ht).length := by
    have := (List.getElem?_eq_some_iff.1 hx).1
    rw [h.1, List.length_map] at this
    exact this
  obtain ⟨t, ht'⟩ : ∃ t, (allT (x0, y0, x1, y1) wd ht)[m]? = some t := ⟨_, List.getElem?_eq_getElem hm⟩
  obtain ⟨s, h1, h2⟩ := h.2 m (cropS ((x0, y0, x1, y1), l) t) (by rw [List.getElem?_map, ht']; rfl)
  rw [hx] at h1
  injection h1 with h1
  subst h1
  rw [h2.1]
  obtain ⟨f1, f2, f3, f4, f5, _⟩ := tile_facts hv (List.mem_of_getElem? ht')
  show (if (m : Int) < 0 then (0, 0, 0, 0) else (allT (x0, y0, x1, y1) wd ht).getD (m : Int).toNat (0, 0, 0, 0)) = interS (x0, y0, x1, y1) t
  rw [inter_within (validT_true hv).1 f1 f2 f3 f4 f5, if_neg (by omega), Int.toNat_natCast, List.getD_eq_getElem?_getD, ht']
  rfl
theorem PixAt.put5 {w : World} {B b : Nat} {A : Option Addr} {l : List P4} {cs : Array Value} (h : PixAt w B A l) (hb : Box w b 34 cs) (v0 v1 v2 v3 v4 : Value) :
    PixAt (((((w.setCell ⟨b, 0, none⟩ v0).setCell ⟨b, 1, none⟩ v1).setCell ⟨b, 2, none⟩ v2).setCell ⟨b, 3, none⟩ v3).setCell ⟨b, 4, none⟩ v4) B A l := fun hl => by
  obtain ⟨g, cur, e, h1, h2, h3⟩ := h hl
  have hne : g ≠ b := fun e => by
    subst e
    have := h2.symm.trans hb
    injection this with this
    injection this with _ this
    exact absurd this (by decide)
  exact ⟨g, cur, e, h1, h2.far5 hne _ _ _ _ _ _ _ _ _ _, h3⟩
theorem PixAt.keep {w w' : World} {B g L : Nat} {news : List Value} {A : Option Addr} {l : List P4} (h : PixAt w B A l) (k : KeepG g L news w w') (hg : g < B) : PixAt w' B A l := fun hl => by
  obtain ⟨b, cur, e, h1, h2, h3⟩ := h hl
  exact ⟨b, cur, e, h1, k.box h2 (by omega), h3⟩
set_option maxRecDepth 100000 in
set_option maxHeartbeats 3200000 in
theorem tileAssemble_any (x0 y0 x1 y1 wd ht seed : Int) (A : Option Addr) (c n : Nat) (l : List P4) (w : World) (hn : l.length = n) (hnc : n ≤ c) (hat : pixE.At w A l) (hw2 : wd ≤ 9223372036854775807) (hh2 : ht ≤ 9223372036854775807)
    (hs0 : 0 ≤ seed) (hs1 : seed ≤ 18446744073709551615) :
    Calls Try.prog 6 #[.agg #[.int .i64 x0, .int .i64 y0, .int .i64 x1, .int .i64 y1, .slice A n c], .agg #[.int .i64 wd, .int .i64 ht], .int .u64 seed] w fun e w' => e = .returned (.bool true) ∧ Ext w w' := by
  go_enter Try.func6, Try.ntmps6
  have b3 := (Box.new w 34 #[.int .i64 x0, .int .i64 y0, .int .i64 x1, .int .i64 y1, .slice A n c]).alloc (.cells #[.int .i64 wd, .int .i64 ht] 25)
  have b4 := Box.at1 (w := w) (o := .cells #[.int .i64 x0, .int .i64 y0, .int .i64 x1, .int .i64 y1, .slice A n c] 34) (t := 25) (cs := #[.int .i64 wd, .int .i64 ht])
  have hE := (Ext.alloc w (.cells #[.int .i64 x0, .int .i64 y0, .int .i64 x1, .int .i64 y1, .slice A n c] 34)).trans (Ext.alloc _ (.cells #[.int .i64 wd, .int .i64 ht] 25))
  have HHN := Lib.hid hn
  clear hn
  by_cases h400 : 400 < n
  · have d1 : ((400 : Int) < (n : Int)) = True := eq_true (by omega)
    go_wp2_with fail
    refine (example_any _).mono ?_
    rintro e w2 ⟨rfl, hE2⟩
    go_wp2
    go_ret
    exact ⟨ret_eq rfl, hE.trans hE2⟩
  have d1 : ((400 : Int) < (n : Int)) = False := eq_false (by omega)
  by_cases hOV : ¬ (bmOk ((x0, y0, x1, y1), l) = true ∧ validT (x0, y0, x1, y1) wd ht = true)
  · obtain ⟨er, her, HS⟩ : ∃ er : Int, er ≠ 0 ∧ Hid (∀ W, Ext w W → Calls Try.prog 22 #[.agg #[.int .i64 x0, .int .i64 y0, .int .i64 x1, .int .i64 y1, .slice A n c], .int .i64 wd, .int .i64 ht] W fun e w' => e = .returned (.tuple #[.slice none 0 0, .int .i64 er]) ∧ Ext W w') := by
      by_cases hok : bmOk ((x0, y0, x1, y1), l) = true
      · have hv : validT (x0, y0, x1, y1) wd ht = false := by simpa [hok] using hOV
        exact ⟨2, by decide, Lib.hid (fun W k => SplitArg_any x0 y0 x1 y1 A c n l wd ht W HHN.out (by omega) (hat.ext k) hok hv)⟩
      · replace hok : bmOk ((x0, y0, x1, y1), l) = false := by simpa using hok
        exact ⟨15, by decide, Lib.hid (fun W k => SplitBad_any x0 y0 x1 y1 A c n l wd ht W HHN.out (by omega) (hat.ext k) hok)⟩
    clear hOV
    have d2 : (er != 0) = true := by simp [her]
    go_wp2_with fail
    refine (HS.out _ hE).mono ?_
    rintro e w2 ⟨rfl, hE2⟩
    go_wp2_with fail
    refine (example_any _).mono ?_
    rintro e w3 ⟨rfl, hE3⟩
    go_wp2
    go_ret
    exact ⟨ret_eq rfl, (hE.trans hE2).trans hE3⟩
  obtain ⟨hok, hv⟩ := Classical.not_not.1 hOV
  clear hOV
  have HB := Lib.hid (fun W (k : Ext w W) => Split_any x0 y0 x1 y1 A c n l wd ht W HHN.out hnc (by omega) (hat.ext k) hok hv hw2 hh2)
  have HCN := Lib.hid (fun W => pCount_any x0 y0 x1 y1 wd ht W hw2 hh2)
  have HBD := Lib.hid (fun i W => pBounds_any x0 y0 x1 y1 wd ht i W hw2 hh2)
  have HCB := Lib.hid (fun W ss (h : BmsOf W ss ((allT (x0, y0, x1, y1) wd ht).map (cropS ((x0, y0, x1, y1), l)))) m x hx => cut_bounds hv h (m := m) (x := x) hx)
  have hle := allT_le (x0, y0, x1, y1) wd ht
  have hNN : ((allT (x0, y0, x1, y1) wd ht).map (cropS ((x0, y0, x1, y1), l))).length = (allT (x0, y0, x1, y1) wd ht).length := by rw [List.length_map]
  have hN1 : 1 ≤ (allT (x0, y0, x1, y1) wd ht).length := by
    rw [allT_length hv]
    obtain ⟨f1, f2, f3, f4, f5, f6, f7, f8⟩ := dims hv
    exact Nat.mul_pos (by omega) (by omega)
  have HMX := Lib.hid (fun (m : List BM) (hm : m.Perm ((allT (x0, y0, x1, y1) wd ht).map (cropS ((x0, y0, x1, y1), l)))) => mixed_whole (s := ((x0, y0, x1, y1), l)) (w := wd) (h := ht) hok hv hm)
  have HML := Lib.hid (fun (b : BM) (m : List BM) (hm : (b :: m).Perm ((allT (x0, y0, x1, y1) wd ht).map (cropS ((x0, y0, x1, y1), l)))) => mixed_less (s := ((x0, y0, x1, y1), l)) (w := wd) (h := ht) hok hv hm)
  have HMM := Lib.hid (fun (b : BM) (m : List BM) (hm : (b :: m).Perm ((allT (x0, y0, x1, y1) wd ht).map (cropS ((x0, y0, x1, y1), l)))) => mixed_more (s := ((x0, y0, x1, y1), l)) (w := wd) (h := ht) hok hv hm)
  have HCK := Lib.hid (fun (b : BM) (hb : b ∈ (allT (x0, y0, x1, y1) wd ht).map (cropS ((x0, y0, x1, y1), l))) => cut_ok (s := ((x0, y0, x1, y1), l)) hok wd ht b hb)
  have HEM := Lib.hid (validT_true hv).1
  have har : areaR (x0, y0, x1, y1) ≤ 65536 := (bmOk_facts hok).2.1
  generalize (allT (x0, y0, x1, y1) wd ht).map (cropS ((x0, y0, x1, y1), l)) = L at *
  generalize (allT (x0, y0, x1, y1) wd ht).length = N at *
  have HNN := Lib.hid hNN
  clear hok hv hNN
  have d0 : ((0 : Int) != 0) = false := by simp
  go_wp2_with fail
  refine (HB.out _ hE).mono ?_
  rintro e w2 ⟨v, ss, rfl, hE1, hown, hbms⟩
  have hsl : ss.length = N := by rw [hbms.1, HNN.out]
  obtain ⟨AS, cS, rfl, hSc, hatS⟩ := hown.at hsl (by omega)
  have HBM := Lib.hid hbms.of
  have HSL := Lib.hid hsl
  have HCB' := Lib.hid (fun m x hx => HCB.out _ _ hbms.of m x hx)
  replace b3 := b3.ext hE1
  replace b4 := b4.ext hE1
  replace hE := hE.trans hE1
  have hatW := hat.ext hE
  clear hE1 hown hbms hsl HB HCB d1
  have c3 := b3.cell
  have c4 := b4.cell
  go_wp2_with fail
  have hpS := shufS_perm (N : Int) seed
  rw [show shufN (N : Int) = N from by unfold shufN; omega] at hpS
  refine (Shuffle_any (N : Int) seed _ hs0 hs1).mono ?_
  rintro e w3 ⟨v, rfl, hE1, hownO⟩
  generalize shufS (N : Int) seed = Oo at *
  have HPO := Lib.hid hpS
  have HLO := Lib.hid (show Oo.length = N from by rw [hpS.length_eq, iotaL_length])
  obtain ⟨AO, cO, rfl, hOc, hatO⟩ := hownO.at HLO.out (by omega)
  replace b3 := b3.ext hE1
  replace b4 := b4.ext hE1
  replace hE := hE.trans hE1
  replace hatW := hatW.ext hE1
  replace hatS := hatS.ext hE1
  replace HBM := Lib.hid (HBM.out.ext hE1)
  clear hE1 hownO c3 c4 hpS
  have c3 := b3.cell
  have c4 := b4.cell
  have d2 : ((N : Int) != (N : Int)) = false := by simp
  have d3 : ((N : Int) == 0) = false := by simp; omega
  have d3' : ¬ N = 0 := by omega
  go_wp2_with fail
  refine (HCN.out _).mono ?_
  rintro e w4 ⟨rfl, hE1⟩
  replace b3 := b3.ext hE1
  replace b4 := b4.ext hE1
  replace hE := hE.trans hE1
  replace hatW := hatW.ext hE1
  replace hatS := hatS.ext hE1
  replace hatO := hatO.ext hE1
  replace HBM := Lib.hid (HBM.out.ext hE1)
  clear hE1 c3 c4 HCN
  go_wp2_with fail
  generalize hwo : w4 = wo at *
  clear hwo
  go_loopw [10, 69] (fun s i wr => ∃ j : Nat, j ≤ N ∧ i = .int .i64 j ∧ Ext wo wr ∧ bmE.Own wr wo.heap.size s (pickS ss (Oo.take j))) (fun _ i _ => N - (intOf i).toNat)
  case atStart => exact ⟨0, Nat.zero_le _, rfl, Ext.refl _, EL.Own.nil _ _⟩
  case round =>
    obtain ⟨j, hj, rfl, hE5, hown⟩ := hrel
    by_cases hltj : j < N
    · have dj : ((j : Int) < (N : Int)) = True := eq_true (by omega)
      obtain ⟨x, hlx⟩ : ∃ q, Oo[j]? = some q := ⟨_, List.getElem?_eq_getElem (by rw [HLO.out]; exact hltj)⟩
      have hmem := iotaL_mem.1 (HPO.out.mem_iff.1 (List.mem_of_getElem? hlx))
      obtain ⟨m, rfl⟩ : ∃ m : Nat, x = m := ⟨x.toNat, by omega⟩
      have hmN : m < N := by omega
      obtain ⟨⟨⟨r0, r1, r2, r3⟩, A4, n4, c4⟩, hsx⟩ : ∃ q, ss[m]? = some q := ⟨_, List.getElem?_eq_getElem (by rw [HSL.out]; exact hmN)⟩
      have HPS := Lib.hid (pickS_snoc hlx hsx)
      obtain ⟨bo, oo, rfl, hco⟩ := hatO (fun e => by rw [e] at hlx; simp at hlx)
      obtain ⟨bb, o, rfl, hcs⟩ := hatS (fun e => by rw [e] at hsx; simp at hsx)
      have i0 := hE5.cell (intE_cell hco hlx)
      obtain ⟨e0, e1, e2, e3, e4⟩ := bm_cells hcs hsx
      replace e0 := hE5.cell e0
      replace e1 := hE5.cell e1
      replace e2 := hE5.cell e2
      replace e3 := hE5.cell e3
      replace e4 := hE5.cell e4
      dsimp only at e0 e1 e2 e3 e4
      have HBX := Lib.hid (fun W => HBD.out (m : Int) W)
      rw [HCB'.out m _ hsx] at HBX
      simp only [rectV] at HBX
      have c3 := (b3.ext hE5).cell
      have c4' := (b4.ext hE5).cell
      have dm0 : ((m : Int) < 0) = False := eq_false (by omega)
      have dmN : ((N : Int) ≤ (m : Int)) = False := eq_false (by omega)
      clear hlx hsx hco hcs hmem
      go_wp2_with fail
      apply wp_region_par' 24 (by kernel_rfl) (by kernel_rfl) rfl
      simp only [List.take_succ_cons, List.take_zero, List.drop_succ_cons, List.drop_zero]
      generalize hW : World.drew _ = W
      have hEW : Ext wr W := by rw [← hW]; exact Ext.drew _
      clear hW
      have k3 := ((b3.ext hE5).ext hEW).lcell
      have k4 := ((b4.ext hE5).ext hEW).lcell
      replace e0 := hEW.cell e0
      replace e1 := hEW.cell e1
      replace e2 := hEW.cell e2
      replace e3 := hEW.cell e3
      replace e4 := hEW.cell e4
      have z0 := fun z : Later W => z.cell e0
      have z1 := fun z : Later W => z.cell e1
      have z2 := fun z : Later W => z.cell e2
      have z3 := fun z : Later W => z.cell e3
      clear c3 c4'
      iterate 24
        refine parW_step rfl (fun K hK => ?_)
        apply Exists.intro
        refine ⟨fun z => ?_, ?_⟩
        focus
          go_simp
          first
            | rfl
            | with_reducible exact calls_val (HBX.out _)
        go_simp
        refine hK _ ?_
        clear hK K
      refine parW_end (fun z => ?_)
      have hEZ := hEW.later z
      have e0 := z.cell e0
      have e1 := z.cell e1
      have e2 := z.cell e2
      have e3 := z.cell e3
      have e4 := z.cell e4
      replace hown := hown.ext hEZ
      replace hE5 := hE5.trans hEZ
      generalize z.val = Z at *
      clear k3 k4 z0 z1 z2 z3 z hEW hEZ i0
      have hEX := Ext.alloc Z (.cells #[.int .i64 r0, .int .i64 r1, .int .i64 r2, .int .i64 r3, .slice A4 n4 c4] 34)
      have bX := Box.new Z 34 #[.int .i64 r0, .int .i64 r1, .int .i64 r2, .int .i64 r3, .slice A4 n4 c4]
      have hrow := bmE_one bX
      have hownX := hown.ext hEX
      have HLL := Lib.hid (show (pickS ss (Oo.take j)).length + ([((r0, r1, r2, r3), A4, n4, c4)] : List BS).length ≤ 1000000000 from by rw [pickS_length, List.length_take]; simp; omega)
      have hsz := (hE5.trans hEX).size
      clear bX
      go_wp2_with (at_builtin; refine EL.wpApp bmE rfl _ _ rfl wo.heap.size _ _ _ [((r0, r1, r2, r3), A4, n4, c4)] rfl rfl hownX hrow HLL.out hsz ?_; intro v1 W1 own1 gr1 _; have hE7 := growExt (hE5.trans hEX) hownX (Nat.le_refl _) gr1)
      go_roundw
      case rel => exact ⟨j + 1, by omega, by go_num, hE7, by rw [HPS.out]; exact own1⟩
      case measure => simp [intOf]; omega
    · have dj : ((j : Int) < (N : Int)) = False := eq_false (by omega)
      have htk : Oo.take j = Oo := List.take_of_length_le (by rw [HLO.out]; omega)
      rw [htk] at hown
      have hlenS : (pickS ss Oo).length = N := by rw [pickS_length, HLO.out]
      obtain ⟨g, cM, rfl, hgM, hMc⟩ := hown.head (by rw [hlenS]; omega)
      rw [hlenS] at hown hMc
      rw [hlenS]
      have hcmM : cM ≤ maxLen := by obtain ⟨_, _, _, _, _, h5, _⟩ := hown.opened; exact h5
      have hrange : ∀ x ∈ Oo, 0 ≤ x ∧ x < L.length := fun x hx => by
        have := iotaL_mem.1 (HPO.out.mem_iff.1 hx)
        rw [HNN.out]; exact this
      have hbsM := (HBM.out.ext hE5).pick hrange
      have hbs0 := HBM.out.pick hrange
      have hperm : (pickB L Oo).Perm L := pickB_perm (by rw [HNN.out]; exact HPO.out)
      have hLb : (pickB L Oo).length = N := by rw [← hbsM.1, hlenS]
      generalize pickS ss Oo = ps at *
      generalize pickB L Oo = pb at *
      obtain ⟨p0, ps', rfl⟩ : ∃ a b, ps = a :: b := by
        cases ps with
        | nil => simp at hlenS; omega
        | cons a b => exact ⟨a, b, rfl⟩
      obtain ⟨q0, pb', rfl⟩ : ∃ a b, pb = a :: b := by
        cases pb with
        | nil => simp at hLb; omega
        | cons a b => exact ⟨a, b, rfl⟩
      obtain ⟨hbsT, hb0⟩ := hbsM.tail
      obtain ⟨hcode, hpx⟩ := HMX.out _ hperm
      have hless := HML.out _ _ hperm
      have hmore := HMM.out _ _ hperm
      have hallM : (q0 :: pb').all bmOk = true := List.all_eq_true.2 fun b hb => HCK.out b (hperm.mem_iff.1 hb)
      have hallT : pb'.all bmOk = true := List.all_eq_true.2 fun b hb => HCK.out b (hperm.mem_iff.1 (List.mem_cons_of_mem _ hb))
      have hallN : ((q0 :: pb') ++ [q0]).all bmOk = true := by rw [List.all_append, hallM]; simp [List.all_cons] at hallM; simp [hallM.1]
      have hatM : bmE.At wr (some ⟨g, 0, none⟩) (p0 :: ps') := by
        obtain ⟨A9, c9, e9, _, h9⟩ := hown.at hlenS (by omega)
        injection e9 with e9
        rw [e9]; exact h9
      have hatT : bmE.At wr (some ⟨g, 5, none⟩) ps' := by
        have := hatM.drop 1
        simpa [bmE] using this
      have HA1 := Lib.hid (fun W (k : Ext wr W) => AsmMain_any x0 y0 x1 y1 (some ⟨g, 0, none⟩) cM N (p0 :: ps') (q0 :: pb') W hlenS (by omega) (hatM.ext k) (hbsM.ext k) HEM.out har hallM)
      have HA2 := Lib.hid (fun W (k : Ext wr W) A c (hA : bmE.At W A ps') => (AsmMain_any x0 y0 x1 y1 A c (N - 1) ps' pb' W (by simp at hlenS; omega) (by omega) hA (hbsT.ext k) HEM.out har hallT).mono (R' := fun e w' => e = .returned (.tuple #[.agg #[.int .i64 0, .int .i64 0, .int .i64 0, .int .i64 0, .slice none 0 0], .int .i64 8]) ∧ Ext W w') fun e w' ⟨a0, a1, a2, a3, v, h1, h2, _, h3⟩ => by
        rw [hless] at h1 h3
        obtain ⟨h4, rfl⟩ := h3 (by decide)
        simp only [Prod.mk.injEq] at h4
        obtain ⟨rfl, rfl, rfl, rfl⟩ := h4
        exact ⟨h1, h2⟩)
      have HA3 := Lib.hid (fun W (k : KeepG g ((p0 :: ps').length * bmE.size) (bmE.cells [p0]) wr W) A c (hA : bmE.At W A ((p0 :: ps') ++ [p0])) (hB : BmsOf W (p0 :: ps') (q0 :: pb')) => (AsmMain_any x0 y0 x1 y1 A c (N + 1) ((p0 :: ps') ++ [p0]) ((q0 :: pb') ++ [q0]) W (by rw [List.length_append, hlenS]; rfl) (by omega) hA (hB.snoc hB.tail.2) HEM.out har hallN).mono (R' := fun e w' => e = .returned (.tuple #[.agg #[.int .i64 0, .int .i64 0, .int .i64 0, .int .i64 0, .slice none 0 0], .int .i64 7]) ∧ Ext W w') fun e w' ⟨a0, a1, a2, a3, v, h1, h2, _, h3⟩ => by
        rw [hmore] at h1 h3
        obtain ⟨h4, rfl⟩ := h3 (by decide)
        simp only [Prod.mk.injEq] at h4
        obtain ⟨rfl, rfl, rfl, rfl⟩ := h4
        exact ⟨h1, h2⟩)
      have HLS := Lib.hid hlenS
      have HPX := Lib.hid hpx
      have HCO := Lib.hid hcode
      have HBS := Lib.hid hbs0
      clear hless hmore hallM hallT hallN htk hperm hLb hbsT hb0 hpx hcode hbsM hbs0 hrange HMX HML HMM HCK hlenS HBM HBD HCB' hatS hatO HPO HLO
      replace b3 := b3.ext hE5
      have c3 := b3.cell
      go_wp2_with fail
      refine (HA1.out _ (Ext.refl _)).mono ?_
      rintro e w5 ⟨a0, a1, a2, a3, vj, rfl, hE7, h0, -⟩
      obtain ⟨hq, hownJ⟩ := h0 HCO.out
      rw [HCO.out]
      rw [HPX.out] at hownJ
      simp only [Prod.mk.injEq] at hq
      obtain ⟨rfl, rfl, rfl, rfl⟩ := hq
      obtain ⟨AJ, cJ, rfl, hJc, _⟩ := hownJ.at HHN.out (by omega)
      have hpJ := PixAt.of_own hownJ
      have hEF := hE5.trans hE7
      clear c3 h0 hownJ HA1 HCO HPX
      go_wp2_with fail
      generalize hW5 : World.alloc w5 _ = W5
      have b13 : Box W5 w5.heap.size 34 #[.int .i64 a0, .int .i64 a1, .int .i64 a2, .int .i64 a3, .slice AJ n cJ] := by rw [← hW5]; exact Box.new _ _ _
      have hE57 : Ext w5 W5 := by rw [← hW5]; exact Ext.alloc _ _
      have h13 : wr.heap.size ≤ w5.heap.size := hE7.size
      generalize w5.heap.size = B13 at *
      clear hW5
      apply wp_region_parZ 9 7 (by kernel_rfl) (by kernel_rfl) rfl (fun _ _ _ _ _ h => h)
      simp only [List.take_succ_cons, List.take_zero, List.drop_succ_cons, List.drop_zero]
      generalize hW : World.drew _ = W
      have hEW : Ext wr W := by rw [← hW]; exact (hE7.trans hE57).trans (Ext.drew _)
      have hE5W : Ext w5 W := by rw [← hW]; exact hE57.trans (Ext.drew _)
      replace b13 : Box W B13 34 #[.int .i64 a0, .int .i64 a1, .int .i64 a2, .int .i64 a3, .slice AJ n cJ] := by rw [← hW]; exact b13.drew
      clear hW hE57 W5
      have k3 := (b3.ext hEW).lcell
      obtain ⟨AT, hAT⟩ : ∃ AT : Option Addr, (if cM = 1 then (some ⟨g, 0, none⟩ : Option Addr) else some ⟨g, 5, none⟩) = AT := ⟨_, rfl⟩
      have hatT' : bmE.At wr AT ps' := by
        intro hne
        have hne' := hne
        rw [← hAT]
        split
        · exfalso
          have := HLS.out
          cases ps' with
          | nil => exact hne rfl
          | cons => simp at this; omega
        · exact hatT hne
      have hT2 : (1 ≤ (N : Int)) = True := eq_true (by omega)
      have HA2' := Lib.hid (fun (z : Later W) => HA2.out z.val (hEW.later z) AT (cM - 1) (hatT'.ext (hEW.later z)))
      iterate 8
        refine parW_step rfl (fun K hK => ?_)
        apply Exists.intro
        refine ⟨fun z => ?_, ?_⟩
        focus
          go_simp
          first
            | rfl
            | with_reducible exact calls_val (HA2'.out z)
        go_simp
        refine hK _ ?_
        clear hK K
      refine parW_new (t := 34) (cs := #[.int .i64 0, .int .i64 0, .int .i64 0, .int .i64 0, .slice none 0 0]) rfl rfl rfl (by simp) (fun w1 => by kernel_rfl) ?_
      refine parW_fin (fun z => ?_)
      rintro v15 ⟨b15, rfl, hb15, bx15⟩ hp
      clear hp
      simp only [Act.put, List.setIfInBounds_toArray, List.set_cons_succ, List.set_cons_zero]
      have c15 := bx15.cell
      have f15 := bx15.frozen
      have l13 := b13.lt
      replace b13 := b13.ext z.prop
      have b15' := bx15.set5 (.int .i64 0) (.int .i64 0) (.int .i64 0) (.int .i64 0) (.slice none 0 0)
      have hEZ : Ext wr _ := (hEW.later z).set5 (by have := hEW.size; omega) (.int .i64 0) (.int .i64 0) (.int .i64 0) (.int .i64 0) (.slice none 0 0) (b := b15) (i := 0) (j := 1) (k := 2) (l := 3) (m := 4)
      have hE5Z : Ext w5 _ := (hE5W.later z).set5 (by have := hE5W.size; omega) (.int .i64 0) (.int .i64 0) (.int .i64 0) (.int .i64 0) (.slice none 0 0) (b := b15) (i := 0) (j := 1) (k := 2) (l := 3) (m := 4)
      have b13' := b13.far5 (show B13 ≠ b15 by omega) 0 1 2 3 4 (.int .i64 0) (.int .i64 0) (.int .i64 0) (.int .i64 0) (.slice none 0 0)
      clear k3 HA2' HA2 hatT' hatT
      generalize z.val = Z at *
      generalize hZ5 : World.setCell _ _ (.slice none 0 0) = Z5 at *
      go_wp2_with fail
      clear bx15 c15 f15 hZ5 b15' b13
      obtain ⟨⟨r0, r1, r2, r3⟩, A4, n4, c4⟩ := p0
      have l3 := b3.lt
      have hlw := hE.size
      have hne3 : w.heap.size ≠ g := by
        have h1 := b4.lt
        omega
      letI : Inhabited ParG.Rl := ⟨rlG g ((((r0, r1, r2, r3), A4, n4, c4) :: ps').length * bmE.size) (bmE.cells [((r0, r1, r2, r3), A4, n4, c4)])⟩
      apply ParG.wp_region_parZ 13 11 (by kernel_rfl) (by kernel_rfl) rfl (fun _ _ _ _ _ h => h)
      simp only [List.take_succ_cons, List.take_zero, List.drop_succ_cons, List.drop_zero]
      generalize hW : World.drew _ = W9
      replace hEZ : Ext wr W9 := by rw [← hW]; exact hEZ.trans (Ext.drew _)
      replace hE5Z : Ext w5 W9 := by rw [← hW]; exact hE5Z.trans (Ext.drew _)
      replace b13' : Box W9 B13 34 #[.int .i64 a0, .int .i64 a1, .int .i64 a2, .int .i64 a3, .slice AJ n cJ] := by rw [← hW]; exact b13'.drew
      clear hW Z5
      have hownR := Lib.hid hown
      replace hown := hown.ext hEZ
      have k3 : ∀ (z : ParG.Later W9) (i : Nat), z.val.cell? ⟨w.heap.size, i, none⟩ = #[.int .i64 a0, .int .i64 a1, .int .i64 a2, .int .i64 a3, .slice A n c][i]? := fun z i => (KeepG.box (show KeepG _ _ _ _ _ from z.prop) (b3.ext hEZ) hne3).cell i
      have kown : ∀ (z : ParG.Later W9), bmE.Own z.val wo.heap.size (.slice (some ⟨g, 0, none⟩) N cM) (((r0, r1, r2, r3), A4, n4, c4) :: ps') := fun z => KeepG.own_le (show KeepG _ _ _ _ _ from z.prop) hown (by rw [HLS.out]; exact Nat.le_refl _)
      have kc : ∀ (z : ParG.Later W9), z.val.cell? ⟨g, 0, none⟩ = some (.int .i64 r0) ∧ z.val.cell? ⟨g, 1, none⟩ = some (.int .i64 r1) ∧ z.val.cell? ⟨g, 2, none⟩ = some (.int .i64 r2) ∧ z.val.cell? ⟨g, 3, none⟩ = some (.int .i64 r3) ∧ z.val.cell? ⟨g, 4, none⟩ = some (.slice A4 n4 c4) := fun z => by
        obtain ⟨cur, _, _, hbx, _, _, _, h7⟩ := (kown z).opened
        exact ⟨(hbx.cell 0).trans (h7 0 _ rfl), (hbx.cell 1).trans (h7 1 _ rfl), (hbx.cell 2).trans (h7 2 _ rfl), (hbx.cell 3).trans (h7 3 _ rfl), (hbx.cell 4).trans (h7 4 _ rfl)⟩
      have y0 := fun z => (kc z).1
      have y1 := fun z => (kc z).2.1
      have y2 := fun z => (kc z).2.2.1
      have y3 := fun z => (kc z).2.2.2.1
      have y4 := fun z => (kc z).2.2.2.2
      clear kc
      have hN0 : 0 < N := by omega
      iterate 6
        refine ParG.parW_step rfl (fun K hK => ?_)
        apply Exists.intro
        refine ⟨fun z => ?_, ?_⟩
        focus
          go_simp
          first
            | rfl
            | fail
        go_simp
        refine hK _ ?_
        clear hK K
      refine ParG.parW_rel rfl (R := fun v w => ∃ b, v = .slice (some ⟨b, 0, none⟩) 1 1 ∧ b ≠ g ∧ Box w b 34 #[.int .i64 r0, .int .i64 r1, .int .i64 r2, .int .i64 r3, .slice A4 n4 c4]) (fun v w w' ⟨b, h1, h2, h3⟩ he => ⟨b, h1, h2, KeepG.box (show KeepG _ _ _ _ _ from he) h3 h2⟩) (fun x => ?_) ?_
      · have hgl := EL.Own.lt (kown x)
        simp only [ParG.Giv]
        go_simp
        exact ⟨KeepG.of_ext (Ext.alloc _ _), by omega, Box.new _ _ _⟩
      refine ParG.parW_rel rfl (R := fun v w => bmE.Own w wo.heap.size v ((((r0, r1, r2, r3), A4, n4, c4) :: ps') ++ [((r0, r1, r2, r3), A4, n4, c4)])) (fun v w w' h he => KeepG.own_new (n := 0) (cap := 0) (show KeepG _ _ _ _ _ from he) h) (fun x => ?_) ?_
      · intro v0 hv0
        obtain ⟨b, rfl, hb, hbx⟩ := hv0 (show Nat.testBit _ _ = true from by kernel_rfl)
        obtain ⟨v', w', r1', r2', r3'⟩ := EL.appK (E := bmE) 35 (kown x) (bmE_one hbx) (by simp) (by rw [HLS.out]; simp; omega) (Nat.le_trans hgM (Nat.le_of_lt (EL.Own.lt (kown x))))
        simp only [ParG.Giv]
        exact ParG.relStep_app rfl _ _ _ rfl rfl rfl r1' r3' r2'
      have HE0 := Lib.hid (fun (z : ParG.Later W9) => KeepG.ext (hE5.trans hEZ) (show KeepG _ _ _ _ _ from z.prop) hgM)
      refine ParG.parW_giv (c := .tuple #[.agg #[.int .i64 0, .int .i64 0, .int .i64 0, .int .i64 0, .slice none 0 0], .int .i64 7]) (fun x => ?_) ?_
      · intro v0 hv0 v1 hv1
        have g1 := hv1 (show Nat.testBit _ _ = true from by kernel_rfl)
        obtain ⟨A9, c9, rfl, _, hat9⟩ := EL.Own.at (E := bmE) (n := N + 1) g1 (by rw [List.length_append, HLS.out]; rfl) (by omega)
        have hc := HA3.out x.val (KeepG.trans (KeepG.of_ext hEZ) (show KeepG _ _ _ _ _ from x.prop)) A9 c9 hat9 (HBS.out.ext (HE0.out x))
        simp only [ParG.Giv]
        go_simp
        exact ParG.calls_val (hc.mono fun e w' ⟨h1, h2⟩ => ⟨h1, KeepG.of_ext h2⟩)
      iterate 3
        refine ParG.parW_step rfl (fun K hK => ?_)
        apply Exists.intro
        refine ⟨fun z => ?_, ?_⟩
        focus
          go_simp
          first
            | rfl
            | fail
        go_simp
        refine hK _ ?_
        clear hK K
      refine ParG.parW_rel rfl (R := fun v w => ∃ b, v = .pointer (some ⟨b, 0, none⟩) ∧ W9.heap.size ≤ b ∧ Box w b 34 #[.int .i64 0, .int .i64 0, .int .i64 0, .int .i64 0, .slice none 0 0]) (fun v w w' ⟨b, h1, h2, h3⟩ he => ⟨b, h1, h2, KeepG.box (show KeepG _ _ _ _ _ from he) h3 (by have := hown.lt; omega)⟩) (fun x => ?_) ?_
      · intro v0 hv0 v1 hv1
        have hss : W9.heap.size ≤ x.val.heap.size := x.prop.size
        simp only [ParG.Giv]
        go_simp
        exact ⟨KeepG.of_ext (Ext.alloc _ _), Box.new _ _ _⟩
      refine ParG.parW_fin (fun z => ?_)
      rintro v127 hv127 v128 hv128 v17 ⟨b17, rfl, hb17, bx17⟩ hp
      clear hp hv127 hv128
      simp only [Act.put, List.setIfInBounds_toArray, List.set_cons_succ, List.set_cons_zero]
      have hKZ : KeepG _ _ _ W9 z.val := z.prop
      have hgl := hown.lt
      have hE0 := HE0.out z
      have hgr : g < wr.heap.size := EL.Own.lt hownR.out
      have l3' := (b3.ext hEZ).lt
      have l13' := b13'.lt
      have p3 := (hKZ.box (b3.ext hEZ) hne3).far5 (show w.heap.size ≠ b17 by omega) 0 1 2 3 4 (.int .i64 0) (.int .i64 0) (.int .i64 0) (.int .i64 0) (.slice none 0 0)
      have p13 := (hKZ.box b13' (by omega)).far5 (show B13 ≠ b17 by omega) 0 1 2 3 4 (.int .i64 0) (.int .i64 0) (.int .i64 0) (.int .i64 0) (.slice none 0 0)
      have pJ := (((hpJ.ext hE5Z).keep hKZ hgr).put5 bx17 (.int .i64 0) (.int .i64 0) (.int .i64 0) (.int .i64 0) (.slice none 0 0)).at
      have s17 := hE0.set5 (b := b17) (i := 0) (j := 1) (k := 2) (l := 3) (m := 4) (by have := (hE5.trans hEZ).size; omega) (.int .i64 0) (.int .i64 0) (.int .i64 0) (.int .i64 0) (.slice none 0 0)
      have c17 := bx17.cell
      have f17 := bx17.frozen
      clear k3 kown y0 y1 y2 y3 y4 HE0 hE0 HA3 HBS hKZ
      generalize z.val = Z at *
      generalize hZf : World.setCell _ _ (.slice none 0 0) = Zf at *
      have c3 := p3.cell
      have c13 := p13.cell
      have HEQ := Lib.hid (fun W (k1 : Ext Zf W) => BmEqual_any a0 a1 a2 a3 a0 a1 a2 a3 AJ A cJ c n n l l W HHN.out HHN.out (by omega) (by omega) (pJ.ext k1) ((hatW.ext s17).ext k1))
      go_wp2_with fail
      refine (HEQ.out _ (Ext.refl _)).mono ?_
      first | rw [decide_eq_true rfl] | rw [show decide True = true from rfl]
      rintro e w6 ⟨rfl, hE8⟩
      clear c3 c13
      go_wp2_with fail
      refine (example_any _).mono ?_
      rintro e w7 ⟨rfl, hE9⟩
      go_wp2
      go_ret
      exact ⟨ret_eq rfl, ((hE.trans s17).trans hE8).trans hE9⟩
end Go.Proofs.Ytefdheoalonbaaa
