/- row: the runs of one row of pixels. -/
import Derived.Test.YtkjpcjmbhpfelaaGreatZB
set_option linter.unusedVariables false
set_option linter.unusedSimpArgs false
namespace Go.Proofs.YtkjpcjmbhpfelaaGreat
open Go.RowKit Go.Par Go.Reg

def inRow (y : Int) (r : R4) : Bool := !rectEmptyS r && decide (r.2.1 ≤ y) && decide (y < r.2.2.2)
def rawS (l : List R4) (y : Int) : List Run := (l.filter (inRow y)).map fun r => (r.1, r.2.2.1)
theorem rawS_append (l m : List R4) (y : Int) : rawS (l ++ m) y = rawS l y ++ rawS m y := by simp [rawS]
theorem rawS_one (r : R4) (y : Int) : rawS [r] y = if inRow y r then [(r.1, r.2.2.1)] else [] := by
  unfold rawS
  cases h : inRow y r <;> simp [h]
theorem rawS_len (l : List R4) (y : Int) : (rawS l y).length ≤ l.length := by
  unfold rawS
  rw [List.length_map]
  exact List.length_filter_le _ _
theorem rawS_in (l : List R4) (x y : Int) : inRuns (rawS l y) x = inL l x y := by
  rw [Bool.eq_iff_iff, inRuns_mem, inL_iff]
  unfold rawS
  constructor
  · rintro ⟨r, hr, h1, h2⟩
    obtain ⟨q, hq, rfl⟩ := List.mem_map.1 hr
    obtain ⟨hq1, hq2⟩ := List.mem_filter.1 hq
    simp only [inRow, Bool.and_eq_true, Bool.not_eq_true', decide_eq_true_eq] at hq2
    exact ⟨q, hq1, hasR_iff.2 ⟨hq2.1.1, h1, h2, hq2.1.2, hq2.2⟩⟩
  · rintro ⟨r, hr, hh⟩
    obtain ⟨h0, h1, h2, h3, h4⟩ := hasR_iff.1 hh
    exact ⟨_, List.mem_map.2 ⟨r, List.mem_filter.2 ⟨hr, by simp [inRow, h0, h3, h4]⟩, rfl⟩, h1, h2⟩
theorem rawS_pos (l : List R4) (y : Int) : ∀ r ∈ rawS l y, r.1 < r.2 := fun r hr => by
  obtain ⟨q, hq, rfl⟩ := List.mem_map.1 hr
  obtain ⟨hq1, hq2⟩ := List.mem_filter.1 hq
  simp only [inRow, Bool.and_eq_true, Bool.not_eq_true', decide_eq_true_eq] at hq2
  have := empty_false hq2.1.1
  dsimp only; omega
theorem set_last {α : Type} (R : List α) (p q : α) : (R ++ [p]).set R.length q = R ++ [q] := by simp
theorem RowTo.len {raw : List Run} {k : Nat} {R : List Run} (h : RowTo raw k R) : True := trivial
/-- the runs of row y of the rectangles l -/
def RowIs (R : List Run) (l : List R4) (y : Int) : Prop := OKR R ∧ ∀ x, inRuns R x = inL l x y
theorem RowIs.of {raw : List Run} {l : List R4} {y : Int} {R : List Run} (hp : raw.Perm (rawS l y)) (h : RowTo raw raw.length R) : RowIs R l y :=
  ⟨h.ok, fun x => by
    rw [h.val, List.take_length, ← rawS_in, Bool.eq_iff_iff, inRuns_mem, inRuns_mem]
    exact ⟨fun ⟨r, hr, hh⟩ => ⟨r, hp.mem_iff.1 hr, hh⟩, fun ⟨r, hr, hh⟩ => ⟨r, hp.mem_iff.2 hr, hh⟩⟩⟩
theorem okr_len {R : List Run} (h : OKR R) {lo hi : Int} (hb : ∀ r ∈ R, lo ≤ r.1 ∧ r.2 ≤ hi) (hlh : lo ≤ hi) : (R.length : Int) ≤ hi - lo := by
  obtain ⟨h1, h2⟩ := OKR.iff.1 h
  clear h
  induction R generalizing lo with
  | nil => simp; omega
  | cons r R ih =>
    have k1 := hb r List.mem_cons_self
    have k2 := h2 r List.mem_cons_self
    have := ih (lo := r.2) (fun q hq => ⟨by have := (List.pairwise_cons.1 h1).1 q hq; omega, (hb q (List.mem_cons_of_mem _ hq)).2⟩) (by omega) (List.pairwise_cons.1 h1).2 (fun q hq => h2 q (List.mem_cons_of_mem _ hq))
    rw [List.length_cons]
    omega
set_option maxRecDepth 100000 in
set_option maxHeartbeats 1600000 in
theorem row_any (l : List R4) (A : Option Addr) (n c : Nat) (y : Int) (w : World) (hn : l.length = n) (hnb : n ≤ 1000000) (hA : rectE.At w A l) :
    Calls Tryz.prog 47 #[.slice A n c, .int .i64 y] w fun e w' => ∃ v R, e = .returned v ∧ Ext w w' ∧ runE.Own w' w.heap.size v R ∧ R.length ≤ n ∧ RowIs R l y := by
  have HN := Lib.hid hn
  have HEM := Lib.hid (fun a b c d W => pEmpty_any a b c d W)
  clear hn
  go_enter Tryz.func47, Tryz.ntmps47
  go_wp2_with fail
  go_loopw [5, 14] (fun s i wr => ∃ k : Nat, k ≤ n ∧ i = .int .i64 k ∧ Ext w wr ∧ runE.Own wr w.heap.size s (rawS (l.take k) y)) (fun _ i _ => n - (intOf i).toNat)
  case atStart => exact ⟨0, Nat.zero_le _, rfl, Ext.refl _, EL.Own.nil _ _⟩
  case round =>
    obtain ⟨k, hk, rfl, hE, hown⟩ := hrel
    by_cases hlt : k < n
    · have dk : ((k : Int) < (n : Int)) = True := eq_true (by omega)
      obtain ⟨⟨x0, x1, x2, x3⟩, hlk⟩ : ∃ q, l[k]? = some q := ⟨_, List.getElem?_eq_getElem (by rw [HN.out]; exact hlt)⟩
      obtain ⟨b, o, rfl⟩ := hA.addr hlk
      obtain ⟨e0, e1, e2, e3⟩ := rect_cell hA hlk
      replace e0 := hE.cell e0
      replace e1 := hE.cell e1
      replace e2 := hE.cell e2
      replace e3 := hE.cell e3
      dsimp only at e0 e1 e2 e3
      have HT := Lib.hid (show rawS (l.take (k + 1)) y = rawS (l.take k) y ++ rawS [(x0, x1, x2, x3)] y from by rw [take_snocG hlk, rawS_append])
      have HLE := Lib.hid (show (rawS (l.take k) y).length ≤ k from Nat.le_trans (rawS_len _ _) (List.length_take_le _ _))
      generalize hraw : rawS (l.take k) y = raw at *
      clear hlk hraw
      go_wp2_with fail
      have hEa := hE.trans (Ext.alloc wr (.cells #[.int .i64 x0, .int .i64 x1, .int .i64 x2, .int .i64 x3] 34))
      have b2 := Box.new wr 34 #[.int .i64 x0, .int .i64 x1, .int .i64 x2, .int .i64 x3]
      have hownA := hown.ext (Ext.alloc wr (.cells #[.int .i64 x0, .int .i64 x1, .int .i64 x2, .int .i64 x3] 34))
      refine (HEM.out x0 x1 x2 x3 _).mono ?_
      rintro e w1 ⟨rfl, hE1⟩
      replace hEa := hEa.trans hE1
      replace hownA := hownA.ext hE1
      replace b2 := b2.ext hE1
      clear hE1 e0 e1 e2 e3 hown hE
      have c2 := b2.cell
      cases hin : inRow y (x0, x1, x2, x3)
      · have HX := Lib.hid (show rawS [(x0, x1, x2, x3)] y = [] from by rw [rawS_one, hin]; rfl)
        cases hem : rectEmptyS (x0, x1, x2, x3)
        · have hni : ¬ (x1 ≤ y ∧ y < x3) := fun ⟨h1, h2⟩ => by
            have : inRow y (x0, x1, x2, x3) = true := by simp [inRow, hem, h1, h2]
            rw [this] at hin; cases hin
          clear hin hem
          by_cases h1 : x1 ≤ y
          · have d1 : (x1 ≤ y) = True := eq_true h1
            have d2 : (y < x3) = False := eq_false (by omega)
            clear h1 hni
            go_wp2
            go_roundw
            case rel => exact ⟨k + 1, by omega, by go_num, hEa, by rw [HT.out, HX.out, List.append_nil]; exact hownA⟩
            case measure => simp [intOf]; omega
          · have d1 : (x1 ≤ y) = False := eq_false h1
            clear h1 hni
            go_wp2
            go_roundw
            case rel => exact ⟨k + 1, by omega, by go_num, hEa, by rw [HT.out, HX.out, List.append_nil]; exact hownA⟩
            case measure => simp [intOf]; omega
        · clear hin hem
          go_wp2
          go_roundw
          case rel => exact ⟨k + 1, by omega, by go_num, hEa, by rw [HT.out, HX.out, List.append_nil]; exact hownA⟩
          case measure => simp [intOf]; omega
      · have HX := Lib.hid (show rawS [(x0, x1, x2, x3)] y = [(x0, x2)] from by rw [rawS_one, hin]; rfl)
        have hem : rectEmptyS (x0, x1, x2, x3) = false := by
          cases h : rectEmptyS (x0, x1, x2, x3)
          · rfl
          · unfold inRow at hin; rw [h] at hin; cases hin
        have h1 : x1 ≤ y ∧ y < x3 := by
          simp only [inRow, Bool.and_eq_true, Bool.not_eq_true', decide_eq_true_eq] at hin
          exact ⟨hin.1.2, hin.2⟩
        rw [hem]
        clear hin hem
        have d1 : (x1 ≤ y) = True := eq_true h1.1
        have d2 : (y < x3) = True := eq_true h1.2
        clear h1
        have hEb := hEa.trans (Ext.alloc w1 (.cells #[.int .i64 x0, .int .i64 x2] 92))
        have hownB := hownA.ext (Ext.alloc w1 (.cells #[.int .i64 x0, .int .i64 x2] 92))
        have hrow := EL.rowOne (E := runE) (x := (x0, x2)) (Box.new w1 92 #[.int .i64 x0, .int .i64 x2]) rfl
        have hsz := hEb.size
        have hll : raw.length + 1 ≤ 1000000000 := by have := HLE.out; omega
        go_wp2_with (at_builtin; refine EL.wpApp runE rfl _ _ rfl w.heap.size _ _ raw [(x0, x2)] rfl rfl hownB hrow hll hsz ?_; intro v1 W1 own1 gr1 _)
        have hE2 := growExt hEb hownB (Nat.le_refl _) gr1
        go_roundw
        case rel => exact ⟨k + 1, by omega, by go_num, hE2, by rw [HT.out, HX.out]; exact own1⟩
        case measure => simp [intOf]; omega
    · have dk : ((k : Int) < (n : Int)) = False := eq_false (by omega)
      have HT := Lib.hid (show rawS (l.take k) y = rawS l y from by rw [List.take_of_length_le (by rw [HN.out]; omega)])
      rw [HT.out] at hown
      have HLE := Lib.hid (show (rawS l y).length ≤ n from Nat.le_trans (rawS_len _ _) (by rw [HN.out]; exact Nat.le_refl _))
      have HPOS := Lib.hid (rawS_pos l y)
      obtain ⟨A1, c1, rfl, _, _⟩ := hown.len
      have HSORT := Lib.hid (sortRun_any hown (by have := HLE.out; omega))
      have hE0 := hE
      clear hE
      go_wp2_with fail
      refine HSORT.out.mono ?_
      rintro e w2 ⟨rfl, raw, hp, hs, hown2, hg2⟩
      have hE2 := growExt hE0 hown (Nat.le_refl _) hg2
      have HP := Lib.hid hp
      have HS := Lib.hid hs
      have hlen := HP.out.length_eq
      obtain ⟨M, hM⟩ : ∃ M, raw.length = M := ⟨_, rfl⟩
      have HM := Lib.hid hM
      have hMn : M ≤ n := by rw [← hM, hlen]; exact HLE.out
      rw [← hlen, hM]
      obtain ⟨A2, c2, hv2, hMc, hat⟩ := hown2.at hM (by omega)
      injection hv2 with hv2 _ hv3
      subst hv2 hv3
      clear hp hs hg2 hown hown2 hM hlen hE0 HSORT
      go_wp2_with fail
      go_loopw [8, 46] (fun s i wr => ∃ (k : Nat) (R : List Run), k ≤ M ∧ i = .int .i64 k ∧ Ext w2 wr ∧ runE.Own wr w2.heap.size s R ∧ R.length ≤ k ∧ Hid (RowTo raw k R)) (fun _ i _ => M - (intOf i).toNat)
      case atStart => exact ⟨0, [], Nat.zero_le _, rfl, Ext.refl _, EL.Own.nil _ _, Nat.le_refl _, Lib.hid (RowTo.start raw)⟩
      case round =>
        obtain ⟨k, R, hk, rfl, hE, hown, hRk, HR⟩ := hrel
        by_cases hlt : k < M
        · have dk : ((k : Int) < (M : Int)) = True := eq_true (by omega)
          obtain ⟨⟨f, t⟩, hlk⟩ : ∃ q, raw[k]? = some q := ⟨_, List.getElem?_eq_getElem (by rw [HM.out]; exact hlt)⟩
          obtain ⟨b, o, rfl⟩ := hat.addr hlk
          obtain ⟨e0, e1⟩ := run_cell hat hlk
          replace e0 := hE.cell e0
          replace e1 := hE.cell e1
          dsimp only at e0 e1
          have HLK := Lib.hid hlk
          have HFT := Lib.hid (show f < t from HPOS.out (f, t) (HP.out.mem_iff.1 (List.mem_of_getElem? hlk)))
          clear hlk
          have hEa := hE.trans (Ext.alloc wr (.cells #[.int .i64 f, .int .i64 t] 92))
          have b2 := Box.new wr 92 #[.int .i64 f, .int .i64 t]
          have hownA := hown.ext (Ext.alloc wr (.cells #[.int .i64 f, .int .i64 t] 92))
          have c2 := b2.cell
          rcases List.eq_nil_or_concat R with e | ⟨R', ⟨a, lo⟩, e⟩
          · subst e
            obtain ⟨A1, c1, rfl, _, _⟩ := hown.len
            have HR2 := Lib.hid (HR.out.push HLK.out HFT.out (fun r hr => by cases hr))
            go_wp2_with fail
            go_quiet (fail)
            generalize hW : World.drewN _ _ = W
            have hEW : Ext (wr.alloc (.cells #[.int .i64 f, .int .i64 t] 92)) W := by rw [← hW]; exact (Ext.refl _).drewN _
            clear hW
            have hEb := (hEa.trans hEW).trans (Ext.alloc W (.cells #[.int .i64 f, .int .i64 t] 92))
            have hownB := (hownA.ext hEW).ext (Ext.alloc W (.cells #[.int .i64 f, .int .i64 t] 92))
            have hrow := EL.rowOne (E := runE) (x := (f, t)) (Box.new W 92 #[.int .i64 f, .int .i64 t]) rfl
            replace b2 := b2.ext hEW
            clear c2
            have c2 := b2.cell
            have hsz := hEb.size
            go_wp2_with (at_builtin; refine EL.wpApp runE rfl _ _ rfl w2.heap.size _ _ [] [(f, t)] rfl rfl hownB hrow (by simp) hsz ?_; intro v1 W1 own1 gr1 _)
            have hE3 := growExt hEb hownB (Nat.le_refl _) gr1
            go_roundw
            case rel => exact ⟨k + 1, _, by omega, by go_num, hE3, own1, by simp, HR2⟩
            case measure => simp [intOf]; omega
          · rw [List.concat_eq_append] at e
            subst e
            obtain ⟨g, cap, rfl, hgB, hcap⟩ := hown.head (by simp)
            obtain ⟨m, hm⟩ : ∃ m, R'.length = m := ⟨_, rfl⟩
            have hlen : (R' ++ [(a, lo)]).length = m + 1 := by simp [hm]
            have z0 := hownA.cell (i := m) (j := 1) (x := (a, lo)) (by rw [← hm]; simp) rfl
            have zf := hownA.frozen (i := m * 2 + 1)
            have e2s : runE.size = 2 := rfl
            rw [e2s] at z0
            have HL2 := Lib.hid hlen
            have hmk : m + 1 ≤ k := by rw [← hlen]; exact hRk
            obtain ⟨N2, hN2⟩ : ∃ N2, (R' ++ [(a, lo)]).length = N2 := ⟨_, rfl⟩
            have hN2m : N2 = m + 1 := by rw [← hN2, hlen]
            rw [hN2] at hown hownA hcap ⊢
            have w1 : IntKind.i64.wrap ((N2 : Int) - 1) = (m : Int) := (IntWalk.i64_in _ (by omega)).trans (by omega)
            have p0 : 0 < N2 := by omega
            have p1 : m < N2 := by omega
            have HN2 := Lib.hid hN2
            have HN2m := Lib.hid hN2m
            have HM2 := Lib.hid hm
            clear hN2 hN2m hlen hm e2s hRk hown hE
            by_cases hfl : f ≤ lo
            · have HR2 := Lib.hid (RowTo.merge HR.out HS.out HLK.out HFT.out hfl)
              have d1 : (f ≤ lo) = True := eq_true hfl
              clear hfl
              go_wp2_with fail
              go_quiet (fail)
              generalize hW : World.drewN _ _ = W
              have hEW : Ext (wr.alloc (.cells #[.int .i64 f, .int .i64 t] 92)) W := by rw [← hW]; exact (Ext.refl _).drewN _
              clear hW
              replace hEa := hEa.trans hEW
              replace hownA := hownA.ext hEW
              replace b2 := b2.ext hEW
              replace z0 := hEW.cell z0
              clear c2 zf hEW
              go_wp2_with fail
              apply wp_region_par' 12 (by kernel_rfl) (by kernel_rfl) rfl
              simp only [List.take_succ_cons, List.take_zero, List.drop_succ_cons, List.drop_zero]
              generalize hW : World.drew _ = W2
              have hEW : Ext W W2 := by rw [← hW]; exact Ext.drew _
              clear hW
              replace hEa := hEa.trans hEW
              replace hownA := hownA.ext hEW
              replace b2 := b2.ext hEW
              replace z0 := hEW.cell z0
              clear hEW
              have c2 := b2.lcell
              have c3 := fun z : Later W2 => z.cell z0
              iterate 12
                refine parW_step rfl (fun K hK => ?_)
                apply Exists.intro
                refine ⟨fun z => ?_, ?_⟩
                focus
                  go_simp
                  first
                    | rfl
                    | fail
                go_simp
                refine hK _ ?_
                clear hK K
              refine parW_end (fun z => ?_)
              replace hEa := hEa.later z
              replace hownA := hownA.ext z.prop
              have z1 := c3 z
              clear c2 c3 b2 z0
              generalize z.val = Z at *
              clear z
              have zf := hownA.frozen (i := m * 2 + 1)
              have hset := hownA.setAt (i := m) (j := 1) (x := (a, lo)) (y := (a, max lo t)) (v := .int .i64 (max lo t)) (by rw [← HM2.out]; simp) (by decide) rfl
              have e3 : (R' ++ [(a, lo)]).set m (a, max lo t) = R' ++ [(a, max lo t)] := by rw [← HM2.out]; exact set_last _ _ _
              rw [e3] at hset
              have hE3 := hEa.setNew (b := g) hgB (m * 2 + 1) (.int .i64 (max lo t))
              have HSET := Lib.hid hset
              clear hset e3 hownA w1
              go_wp2
              go_roundw
              case rel => exact ⟨k + 1, R' ++ [(a, max lo t)], by omega, by go_num, hE3, HSET.out, by rw [List.length_append, HM2.out]; simp; omega, HR2⟩
              case measure => simp [intOf]; omega
            · have HR2 := Lib.hid (HR.out.push HLK.out HFT.out (fun r hr => by
                rw [List.getLast?_append] at hr
                simp at hr
                subst hr
                show lo < f
                omega))
              have d1 : (f ≤ lo) = False := eq_false hfl
              have HLL := Lib.hid (show (R' ++ [(a, lo)]).length + ([(f, t)] : List Run).length ≤ 1000000000 from by rw [HN2.out, HN2m.out]; simp; omega)
              clear hfl
              go_wp2_with fail
              go_quiet (fail)
              generalize hW : World.drewN _ _ = W
              have hEW : Ext (wr.alloc (.cells #[.int .i64 f, .int .i64 t] 92)) W := by rw [← hW]; exact (Ext.refl _).drewN _
              clear hW
              have hEb := (hEa.trans hEW).trans (Ext.alloc W (.cells #[.int .i64 f, .int .i64 t] 92))
              have hownB := (hownA.ext hEW).ext (Ext.alloc W (.cells #[.int .i64 f, .int .i64 t] 92))
              have hrow := EL.rowOne (E := runE) (x := (f, t)) (Box.new W 92 #[.int .i64 f, .int .i64 t]) rfl
              replace b2 := b2.ext hEW
              clear c2
              have c2 := b2.cell
              have hsz := hEb.size
              go_wp2_with (at_builtin; refine EL.wpApp runE rfl _ _ rfl w2.heap.size _ _ (R' ++ [(a, lo)]) [(f, t)] rfl rfl hownB hrow HLL.out hsz ?_; intro v1 W1 own1 gr1 _)
              have hE3 := growExt hEb hownB (Nat.le_refl _) gr1
              go_roundw
              case rel => exact ⟨k + 1, _, by omega, by go_num, hE3, own1, by rw [List.length_append, HN2.out, HN2m.out]; simp; omega, HR2⟩
              case measure => simp [intOf]; omega
        · have dk : ((k : Int) < (M : Int)) = False := eq_false (by omega)
          obtain rfl : k = M := by omega
          obtain ⟨A3, c3, rfl, _, _⟩ := hown.len
          have HR2 := Lib.hid (show RowIs R l y from RowIs.of HP.out (by rw [HM.out]; exact HR.out))
          go_wp2
          go_ret
          exact ⟨_, R, rfl, hE2.trans hE, hown.lower hE2.size, by omega, HR2.out⟩
end Go.Proofs.YtkjpcjmbhpfelaaGreat
