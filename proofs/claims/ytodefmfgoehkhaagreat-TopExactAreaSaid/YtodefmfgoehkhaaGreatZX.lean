/- Texts put together: TaEx, TyR, TyS, TaTop. -/
import Derived.Test.YtodefmfgoehkhaaGreatZP
import Derived.Test.YtodefmfgoehkhaaGreatZC
import Derived.Test.YtodefmfgoehkhaaGreatZW
/- The example of the law: half a pixel. -/
set_option linter.unusedVariables false
namespace Go.Proofs.YtodefmfgoehkhaaGreat
open Go.RowKit Go.Par
open Go.TA (E2 IntR lineLen AreaOf covQ MarksOf crosses markAt xAt upOf leM marksOf spanLen clampR)

def triL : List (List P2) := [[(0, 0), (256, 0), (0, 256)]]
theorem tri_edges : edgesL triL = [((0, 0), (256, 0)), ((256, 0), (0, 256)), ((0, 256), (0, 0))] := by decide
theorem tri_marks {y : Rat} (h0 : 0 < y) (h1 : y < 256) : marksOf (edgesL triL) y = [(0, -1), (256 - y, 1)] := by
  refine (Go.TA.marksOf_spec _ _).uniq ⟨?_, ?_⟩
  · have c0 : ((0 : Int) : Rat) = 0 := rfl
    have c256 : ((256 : Int) : Rat) = 256 := rfl
    have e1 : crosses ((0, 0), (256, 0)) y = false := by
      simp only [crosses, Bool.or_eq_false_iff, decide_eq_false_iff_not, c0]
      grind
    have e2 : crosses ((256, 0), (0, 256)) y = true := by
      simp only [crosses, Bool.or_eq_true, decide_eq_true_eq, c0, c256]
      grind
    have e3 : crosses ((0, 256), (0, 0)) y = true := by
      simp only [crosses, Bool.or_eq_true, decide_eq_true_eq, c0, c256]
      grind
    have m2 : markAt y ((256, 0), (0, 256)) = (256 - y, 1) := by
      have n1 : ((256 - 0 : Int) : Rat) = 256 := rfl
      have n2 : ((0 - 256 : Int) : Rat) = -256 := rfl
      have : xAt ((256, 0), (0, 256)) y = 256 - y := by
        unfold xAt
        dsimp only
        rw [n1, n2, c0, c256]
        grind
      unfold markAt
      rw [this]
      rfl
    have m3 : markAt y ((0, 256), (0, 0)) = (0, -1) := by
      have n1 : ((0 - 256 : Int) : Rat) = -256 := rfl
      have n2 : ((0 - 0 : Int) : Rat) = 0 := rfl
      have : xAt ((0, 256), (0, 0)) y = 0 := by
        unfold xAt
        dsimp only
        rw [n1, n2, c0, c256]
        grind
      unfold markAt
      rw [this]
      rfl
    rw [tri_edges]
    simp only [List.filter_cons, e1, e2, e3, List.filter_nil, List.map_cons, List.map_nil, m2, m3, if_true, Bool.false_eq_true, if_false]
    exact List.Perm.swap _ _ _
  · refine List.pairwise_cons.2 ⟨fun m hm => ?_, List.pairwise_singleton _ _⟩
    rw [List.mem_singleton] at hm
    subst hm
    left
    show (0 : Rat) < 256 - y
    grind
theorem tri_len {y : Rat} (h0 : 0 < y) (h1 : y < 256) : lineLen (fun n => fillsS n 1) (edgesL triL) ((0 : Int) : Rat) ((256 : Int) : Rat) y = 256 - y := by
  have c0 : ((0 : Int) : Rat) = 0 := rfl
  have c256 : ((256 : Int) : Rat) = 256 := rfl
  unfold lineLen
  rw [tri_marks h0 h1, c0, c256]
  show (if fillsS (0 + -1) 1 = true then clampR 0 256 (256 - y) - clampR 0 256 0 else 0) + 0 = _
  rw [if_pos (by decide)]
  unfold clampR
  grind
theorem tri_area {S : Rat} (h : AreaOf (fun n => fillsS n 1) (edgesL triL) (256 * 0) (256 * 0) (256 * (0 + 1)) (256 * (0 + 1)) S) : S = 32768 := by
  unfold AreaOf at h
  rw [if_neg (by decide)] at h
  have h' : IntR (lineLen (fun n => fillsS n 1) (edgesL triL) ((0 : Int) : Rat) ((256 : Int) : Rat)) ((0 : Int) : Rat) ((256 : Int) : Rat) S := h
  have c0 : ((0 : Int) : Rat) = 0 := rfl
  have c256 : ((256 : Int) : Rat) = 256 := rfl
  have aff : Go.TA.Aff (lineLen (fun n => fillsS n 1) (edgesL triL) ((0 : Int) : Rat) ((256 : Int) : Rat)) ((0 : Int) : Rat) ((256 : Int) : Rat) := ⟨-1, 256, fun y h0 h1 => by
    rw [c0] at h0
    rw [c256] at h1
    rw [tri_len h0 h1]
    grind⟩
  have k := h'.aff (by rw [c0, c256]; grind) aff
  rw [k, tri_len (by rw [c0, c256]; grind) (by rw [c0, c256]; grind), c0, c256]
  grind
theorem half_cov : covQ (32768 / 65536) = 128 := by
  have e : (32768 / 65536 : Rat) = 1 / 2 := by grind
  rw [e]
  unfold covQ
  rw [if_neg (by grind), if_neg (by grind)]
  have e2 : (1 / 2 * 255 + 1 / 2 : Rat) = ((128 : Int) : Rat) := by
    have : ((128 : Int) : Rat) = 128 := rfl
    rw [this]
    grind
  rw [e2, Rat.floor_intCast]
end Go.Proofs.YtodefmfgoehkhaaGreat

/- The example of the law holds. -/
set_option linter.unusedVariables false
set_option linter.unusedSimpArgs false
namespace Go.Proofs.YtodefmfgoehkhaaGreat
open Go.RowKit Go.Par Go.Shelf Go.TN Go.Lib
open Go.TA (E2 IntR lineLen Events AreaOf covQ)

set_option maxRecDepth 100000 in
set_option maxHeartbeats 800000 in
theorem example_any (w : World) : Calls Tryz.prog 5 #[] w fun e w' => e = .returned (.bool true) ∧ Ext w w' := by
  have hE := (Ext.alloc w (.cells #[.int .i64 0, .int .i64 0, .int .i64 256, .int .i64 0, .int .i64 0, .int .i64 256] 49)).trans (Ext.alloc _ (.cells #[.slice (some ⟨w.heap.size, 0, none⟩) 3 3] 47))
  have x1 := (Box.new w 49 #[.int .i64 0, .int .i64 0, .int .i64 256, .int .i64 0, .int .i64 0, .int .i64 256]).alloc (.cells #[.slice (some ⟨w.heap.size, 0, none⟩) 3 3] 47)
  have x2 := Box.at1 (w := w) (o := .cells #[.int .i64 0, .int .i64 0, .int .i64 256, .int .i64 0, .int .i64 0, .int .i64 256] 49) (t := 47) (cs := #[.slice (some ⟨w.heap.size, 0, none⟩) 3 3])
  have hL : RingsAt ((w.alloc (.cells #[.int .i64 0, .int .i64 0, .int .i64 256, .int .i64 0, .int .i64 0, .int .i64 256] 49)).alloc (.cells #[.slice (some ⟨w.heap.size, 0, none⟩) 3 3] 47)) (some ⟨w.heap.size + 1, 0, none⟩) triL := fun _ => by
    refine ⟨w.heap.size + 1, 0, rfl, fun i r hr => ?_⟩
    cases i with
    | zero =>
      have e : r = [(0, 0), (256, 0), (0, 256)] := by simpa [triL] using hr.symm
      subst e
      exact ⟨_, by rw [x2.cell]; rfl, _, 3, rfl, by simp, by simp, ptsOfBox x1 rfl⟩
    | succ i => simp [triL] at hr
  have HP := Lib.hid (Pixel_any (rule := 1) (x := 0) (y := 0) triL _ 1 _ (by decide) (by decide) (by decide) hL (.inl rfl) (by omega) (by omega))
  have HC := Lib.hid (fun W (hW : Ext _ W) => covPixel_any (rule := 1) (x := 0) (y := 0) triL _ 1 W (by decide) (by decide) (by decide) (hL.ext hW) (.inl rfl) (by omega) (by omega) (V := 32768) (fun S h => tri_area h))
  have hl1 : triL.length = 1 := rfl
  rw [hl1] at HP HC
  rw [half_cov] at HC
  have sh : Sz 2 (Rat.divInt 1 2) := Sz.low (by omega) (L_i64 (by omega) (by omega)) (L_i64 (by omega) (by omega))
  have HH := Lib.hid (fun W => fromIntsV 1 2 W (by omega) (by omega) (by omega) (by omega) (by omega))
  clear hL x1 x2 hl1
  go_enter Tryz.func5, Tryz.ntmps5
  go_wp2_with fail
  refine HP.out.mono ?_
  rintro e w1 ⟨v, S, rfl, hE1, hv, hs, hare⟩
  have hSV := tri_area hare
  rw [hSV] at hv hs
  obtain ⟨p, rfl, hpq, hpa⟩ := hv.rq
  have hE2 := Ext.alloc w1 (.cells #[.bool p.b, .slice p.A p.n p.c, .bool p.b', .slice p.A' p.n' p.c'] 29)
  have x2 := Box.new w1 29 #[.bool p.b, .slice p.A p.n p.c, .bool p.b', .slice p.A' p.n' p.c']
  have hE3 := hE1.trans hE2
  replace hpa := hpa.ext hE2
  clear hare hSV hv HP hE1 hE2
  unfold RQ.v
  go_wp2_with fail
  refine (HH.out _).mono ?_
  rintro e w2 ⟨v, rfl, hE4, hv⟩
  obtain ⟨t, rfl, htq, hta⟩ := hv.rq
  have hE5 := Ext.alloc w2 (.cells #[.bool t.b, .slice t.A t.n t.c, .bool t.b', .slice t.A' t.n' t.c'] 29)
  have x4 := Box.new w2 29 #[.bool t.b, .slice t.A t.n t.c, .bool t.b', .slice t.A' t.n' t.c']
  replace hpa := (hpa.ext hE4).ext hE5
  replace x2 := (x2.ext hE4).ext hE5
  replace hta := hta.ext hE5
  replace hE3 := (hE3.trans hE4).trans hE5
  have HCM := Lib.hid (cmpR hpa.rv hta.rv (by rw [hpq]; exact hs) (by rw [htq]; exact sh) (by omega))
  have hz : cmpQ p.q t.q = 0 := by
    rw [cmpQ_zero, hpq, htq, half_def]
    grind
  rw [hz] at HCM
  unfold RQ.v at HCM ⊢
  have c2 := x2.cell
  clear hv hE4 hE5 hz hs sh hpa hta HH
  go_wp2_with fail
  refine HCM.out.mono ?_
  rintro e w3 ⟨rfl, hE6⟩
  replace hE3 := hE3.trans hE6
  clear HCM hE6 c2
  have HK := Lib.hid (HC.out _ hE3)
  clear HC
  go_wp2_with fail
  refine HK.out.mono ?_
  rintro e w4 ⟨rfl, hE6⟩
  go_wp2
  go_ret
  exact ⟨rfl, (hE.trans hE3).trans hE6⟩
end Go.Proofs.YtodefmfgoehkhaaGreat

/- SmallPolygons. -/
set_option linter.unusedVariables false
set_option linter.unusedSimpArgs false
namespace Go.Proofs.YtodefmfgoehkhaaGreat
open Go.RowKit Go.Par Go.Shelf Go.TN Go.Lib

def nearS (p : P2) : Bool := decide (-128 ≤ p.1 ∧ p.1 ≤ 1152 ∧ -128 ≤ p.2 ∧ p.2 ≤ 1152)
def smallR (r : List P2) : Bool := decide (r.length ≤ 5) && r.all nearS
def smallS (L : List (List P2)) : Bool := decide (L.length ≤ 3) && L.all smallR
theorem smallS_at {L : List (List P2)} {i : Nat} {r : List P2} (h : L[i]? = some r) (hr : smallR r = false) : smallS L = false := by
  unfold smallS
  have : L.all smallR = false := by
    rw [List.all_eq_false]
    exact ⟨r, List.mem_of_getElem? h, by rw [hr]; simp⟩
  rw [this, Bool.and_false]
theorem smallR_at {r : List P2} {i : Nat} {p : P2} (h : r[i]? = some p) (hp : nearS p = false) : smallR r = false := by
  unfold smallR
  have : r.all nearS = false := by
    rw [List.all_eq_false]
    exact ⟨p, List.mem_of_getElem? h, by rw [hp]; simp⟩
  rw [this, Bool.and_false]
theorem all_taken {α : Type} {f : α → Bool} {l : List α} {i : Nat} {x : α} (h : l[i]? = some x) (ht : (l.take i).all f = true) (hx : f x = true) : (l.take (i + 1)).all f = true := by
  rw [List.take_add_one, h, List.all_append, ht]
  simp [hx]
set_option maxRecDepth 100000 in
set_option maxHeartbeats 1600000 in
theorem Small_any (L : List (List P2)) (A : Option Addr) (c : Nat) (w : World) (hc : L.length ≤ 17592186044416) (hL : RingsAt w A L) :
    Calls Tryz.prog 4 #[.slice A L.length c] w fun e w' => e = .returned (.bool (smallS L)) ∧ Ext w w' := by
  obtain ⟨n, hn⟩ : ∃ n, n = L.length := ⟨_, rfl⟩
  rw [← hn]
  have HN := Lib.hid hn
  rw [← hn] at hc
  have HL := Lib.hid hL
  clear hn hL
  go_enter Tryz.func4, Tryz.ntmps4
  by_cases h3 : 3 < n
  · have HR := Lib.hid (show smallS L = false from by unfold smallS; rw [decide_eq_false (by have := HN.out; omega)]; rfl)
    have d1 : ((3 : Int) < (n : Int)) = True := eq_true (by omega)
    clear h3
    go_wp2
    go_ret
    exact ⟨ret_eq (by rw [HR.out]; rfl), Ext.refl _⟩
  · have d1 : ((3 : Int) < (n : Int)) = False := eq_false (by omega)
    go_wp2_with fail
    go_loopw [3, 4, 5] (fun i _ _ wr => ∃ k : Nat, k ≤ n ∧ i = .int .i64 k ∧ Ext w wr ∧ Hid ((L.take k).all smallR = true)) (fun i _ _ _ => n - (intOf i).toNat)
    case atStart => exact ⟨0, Nat.zero_le _, rfl, Ext.refl _, Lib.hid rfl⟩
    case round =>
      obtain ⟨k, hk, rfl, hE, HA⟩ := hrel
      by_cases hlt : k < n
      · obtain ⟨r, hlk⟩ : ∃ r, L[k]? = some r := ⟨_, List.getElem?_eq_getElem (by rw [← HN.out]; exact hlt)⟩
        obtain ⟨b, o, rfl, hcell⟩ := HL.out (fun e => by rw [e] at hlk; simp at hlk)
        obtain ⟨v, c0, A', c', rfl, hlc, hlb, hP⟩ := hcell k r hlk
        have c1 := hE.cell c0
        obtain ⟨m, hm⟩ : ∃ m, m = r.length := ⟨_, rfl⟩
        rw [← hm] at c1 hlb hlc c0
        have HM := Lib.hid hm
        have HK := Lib.hid hlk
        have HP := Lib.hid hP
        have HC0 := Lib.hid c0
        clear hcell c0 hP hm hlk
        by_cases h5 : 5 < m
        · have HR := Lib.hid (show smallS L = false from smallS_at HK.out (by unfold smallR; rw [decide_eq_false (by have := HM.out; omega)]; rfl))
          have d2 : ((5 : Int) < (m : Int)) = True := eq_true (by omega)
          clear h5
          go_wp2
          go_ret
          exact ⟨ret_eq (by rw [HR.out]; rfl), hE⟩
        · have d2 : ((5 : Int) < (m : Int)) = False := eq_false (by omega)
          go_wp2_with fail
          clear c1
          generalize wr = wo at *
          go_loopw [4, 5] (fun i _ wr => ∃ j : Nat, j ≤ m ∧ i = .int .i64 j ∧ Ext w wr ∧ Hid ((r.take j).all nearS = true)) (fun i _ _ => m - (intOf i).toNat)
          case atStart => exact ⟨0, Nat.zero_le _, rfl, hE, Lib.hid rfl⟩
          case round =>
            clear hE
            obtain ⟨j, hj, rfl, hE, HB⟩ := hrel
            have c1 := hE.cell HC0.out
            by_cases hjm : j < m
            · obtain ⟨⟨x, y⟩, hjk⟩ : ∃ p, r[j]? = some p := ⟨_, List.getElem?_eq_getElem (by rw [← HM.out]; exact hjm)⟩
              obtain ⟨b2, o2, rfl, hc2⟩ := HP.out (fun e => by rw [e] at hjk; simp at hjk)
              have e1 := hE.cell (hc2 j _ hjk).1
              have e2 := hE.cell (hc2 j _ hjk).2
              have HJ := Lib.hid hjk
              have hEA := hE.trans (Ext.alloc wr (.cells #[.int .i64 x, .int .i64 y] 49))
              dsimp only at e1 e2
              clear hc2 hjk
              cases hp : nearS (x, y)
              · have HR := Lib.hid (smallS_at HK.out (smallR_at HJ.out hp))
                have hnp : x < -128 ∨ 1152 < x ∨ y < -128 ∨ 1152 < y := by
                  simp only [nearS, decide_eq_false_iff_not] at hp
                  omega
                clear hp
                by_cases q1 : x < -128
                · have g1 : (x < -128) = True := eq_true q1
                  clear hnp
                  go_wp2
                  go_ret
                  exact ⟨ret_eq (by rw [HR.out]; rfl), hEA⟩
                · have g1 : (x < -128) = False := eq_false q1
                  by_cases q2 : 1152 < x
                  · have g2 : (1152 < x) = True := eq_true q2
                    clear hnp
                    go_wp2
                    go_ret
                    exact ⟨ret_eq (by rw [HR.out]; rfl), hEA⟩
                  · have g2 : (1152 < x) = False := eq_false q2
                    by_cases q3 : y < -128
                    · have g3 : (y < -128) = True := eq_true q3
                      clear hnp
                      go_wp2
                      go_ret
                      exact ⟨ret_eq (by rw [HR.out]; rfl), hEA⟩
                    · have g3 : (y < -128) = False := eq_false q3
                      have g4 : (1152 < y) = True := eq_true (by omega)
                      clear hnp
                      go_wp2
                      go_ret
                      exact ⟨ret_eq (by rw [HR.out]; rfl), hEA⟩
              · have hnp : ¬ x < -128 ∧ ¬ 1152 < x ∧ ¬ y < -128 ∧ ¬ 1152 < y := by
                  simp only [nearS, decide_eq_true_eq] at hp
                  omega
                have HB2 := Lib.hid (all_taken HJ.out HB.out hp)
                have g1 : (x < -128) = False := eq_false hnp.1
                have g2 : (1152 < x) = False := eq_false hnp.2.1
                have g3 : (y < -128) = False := eq_false hnp.2.2.1
                have g4 : (1152 < y) = False := eq_false hnp.2.2.2
                clear hnp hp
                go_wp2
                go_roundw
                case rel => exact ⟨j + 1, by omega, by go_num, hEA, HB2⟩
                case measure => simp [intOf]; omega
            · have hje : r.take j = r := List.take_of_length_le (by rw [← HM.out]; omega)
              have hrs : smallR r = true := by
                unfold smallR
                have := HB.out
                rw [hje] at this
                rw [this, decide_eq_true (by rw [← HM.out]; omega)]
                rfl
              have HA2 := Lib.hid (all_taken HK.out HA.out hrs)
              clear hje hrs
              go_wp2
              go_roundw
              case rel => exact ⟨k + 1, by omega, by go_num, hE, HA2⟩
              case measure => simp [intOf]; omega
      · have hke : L.take k = L := List.take_of_length_le (by rw [← HN.out]; omega)
        have HR := Lib.hid (show smallS L = true from by
          unfold smallS
          have := HA.out
          rw [hke] at this
          rw [this, decide_eq_true (by rw [← HN.out]; omega)]
          rfl)
        clear hke
        go_wp2
        go_ret
        exact ⟨ret_eq (by rw [HR.out]; rfl), hE⟩
end Go.Proofs.YtodefmfgoehkhaaGreat

/- The plain law of the statement: the pixels' areas add up. No program stands here. -/
set_option linter.unusedVariables false
namespace Go.Proofs.YtodefmfgoehkhaaGreat
open Go.RowKit Go.Par
open Go.TA (E2 IntR AreaOf SumRow InBox RowsInt)

theorem minP_le (a p : P2) : (minP a p).1 ≤ a.1 ∧ (minP a p).2 ≤ a.2 ∧ (minP a p).1 ≤ p.1 ∧ (minP a p).2 ≤ p.2 := by
  unfold minP; simp only; repeat' split
  all_goals omega
theorem maxP_ge (a p : P2) : a.1 ≤ (maxP a p).1 ∧ a.2 ≤ (maxP a p).2 ∧ p.1 ≤ (maxP a p).1 ∧ p.2 ≤ (maxP a p).2 := by
  unfold maxP; simp only; repeat' split
  all_goals omega
theorem fold_min {l : List P2} {a : P2} : ((l.foldl minP a).1 ≤ a.1 ∧ (l.foldl minP a).2 ≤ a.2) ∧ ∀ p ∈ l, (l.foldl minP a).1 ≤ p.1 ∧ (l.foldl minP a).2 ≤ p.2 := by
  induction l generalizing a with
  | nil => simp
  | cons q l ih =>
    have h := ih (a := minP a q)
    have h2 := minP_le a q
    rw [List.foldl_cons]
    refine ⟨by omega, fun p hp => ?_⟩
    rcases List.mem_cons.1 hp with rfl | hp
    · omega
    · exact h.2 p hp
theorem fold_max {l : List P2} {a : P2} : (a.1 ≤ (l.foldl maxP a).1 ∧ a.2 ≤ (l.foldl maxP a).2) ∧ ∀ p ∈ l, p.1 ≤ (l.foldl maxP a).1 ∧ p.2 ≤ (l.foldl maxP a).2 := by
  induction l generalizing a with
  | nil => simp
  | cons q l ih =>
    have h := ih (a := maxP a q)
    have h2 := maxP_ge a q
    rw [List.foldl_cons]
    refine ⟨by omega, fun p hp => ?_⟩
    rcases List.mem_cons.1 hp with rfl | hp
    · omega
    · exact h.2 p hp
def nearP (p : P2) : Prop := -128 ≤ p.1 ∧ p.1 ≤ 1152 ∧ -128 ≤ p.2 ∧ p.2 ≤ 1152
theorem near_min {a p : P2} (ha : nearP a) (hp : nearP p) : nearP (minP a p) := by
  unfold nearP minP at *
  simp only
  split <;> split <;> omega
theorem near_max {a p : P2} (ha : nearP a) (hp : nearP p) : nearP (maxP a p) := by
  unfold nearP maxP at *
  simp only
  split <;> split <;> omega
theorem near_fold {f : P2 → P2 → P2} (hf : ∀ a p, nearP a → nearP p → nearP (f a p)) {l : List P2} {a : P2} (ha : nearP a) (hl : ∀ p ∈ l, nearP p) : nearP (l.foldl f a) := by
  induction l generalizing a with
  | nil => exact ha
  | cons q l ih =>
    rw [List.foldl_cons]
    exact ih (hf a q ha (hl q List.mem_cons_self)) fun p hp => hl p (List.mem_cons_of_mem _ hp)
theorem small_near {L : List (List P2)} (h : smallS L = true) : ∀ r ∈ L, r.length ≤ 5 ∧ ∀ p ∈ r, nearP p := by
  intro r hr
  simp only [smallS, smallR, Bool.and_eq_true, decide_eq_true_eq, List.all_eq_true] at h
  have := h.2 r hr
  refine ⟨this.1, fun p hp => ?_⟩
  have := this.2 p hp
  simpa [nearS, nearP] using this
theorem small_len {L : List (List P2)} (h : smallS L = true) : L.length ≤ 3 := by
  simp only [smallS, Bool.and_eq_true, decide_eq_true_eq] at h
  exact h.1
theorem lenS_bd : ∀ {L : List (List P2)}, (∀ r ∈ L, r.length ≤ 5) → lenS L ≤ 5 * L.length
  | [], _ => by simp [lenS]
  | r :: L, h => by
    have ih := lenS_bd (L := L) fun r hr => h r (List.mem_cons_of_mem _ hr)
    have hr := h r List.mem_cons_self
    have e : lenS (r :: L) = r.length + lenS L := by unfold lenS; simp
    rw [e, List.length_cons]
    omega
theorem small_lenS {L : List (List P2)} (h : smallS L = true) : lenS L ≤ 15 := by
  have h1 := lenS_bd fun r hr => (small_near h r hr).1
  have h2 := small_len h
  omega
theorem small_valid {L : List (List P2)} (h : smallS L = true) : validL L = true := by
  unfold validL
  rw [decide_eq_true (by have := small_lenS h; omega), Bool.true_and, List.all_eq_true]
  intro r hr
  rw [List.all_eq_true]
  intro p hp
  obtain ⟨h1, h2, h3, h4⟩ := (small_near h r hr).2 p hp
  simp [validS, inB]
  omega
/-- the bounds of small polygons, and the pixels around them -/
theorem small_bounds {L : List (List P2)} (h : smallS L = true) (hok : (boundsS L).2.2 = true) :
    nearP (boundsS L).1 ∧ nearP (boundsS L).2.1 ∧ (boundsS L).1.1 ≤ (boundsS L).2.1.1 ∧ (boundsS L).1.2 ≤ (boundsS L).2.1.2 ∧
    ∀ r ∈ L, ∀ p ∈ r, ((boundsS L).1.1 ≤ p.1 ∧ p.1 ≤ (boundsS L).2.1.1) ∧ (boundsS L).1.2 ≤ p.2 ∧ p.2 ≤ (boundsS L).2.1.2 := by
  have hn : ∀ p ∈ L.flatten, nearP p := fun p hp => by
    obtain ⟨r, hr, hpr⟩ := List.mem_flatten.1 hp
    exact (small_near h r hr).2 p hpr
  have hmem : ∀ r ∈ L, ∀ p ∈ r, p ∈ L.flatten := fun r hr p hp => List.mem_flatten.2 ⟨r, hr, hp⟩
  unfold boundsS at hok ⊢
  rw [if_pos (small_valid h)] at hok ⊢
  generalize L.flatten = l at *
  cases l with
  | nil => simp [boundsF] at hok
  | cons p l =>
    have hp := hn p List.mem_cons_self
    have m1 := fold_min (l := p :: l) (a := p)
    have m2 := fold_max (l := p :: l) (a := p)
    have k1 := m1.2 p List.mem_cons_self
    have k2 := m2.2 p List.mem_cons_self
    refine ⟨near_fold (fun _ _ => near_min) hp hn, near_fold (fun _ _ => near_max) hp hn, ?_, ?_, fun r hr q hq => ?_⟩
    · show ((p :: l).foldl minP p).1 ≤ ((p :: l).foldl maxP p).1
      omega
    · show ((p :: l).foldl minP p).2 ≤ ((p :: l).foldl maxP p).2
      omega
    · have a1 := m1.2 q (hmem r hr q hq)
      have a2 := m2.2 q (hmem r hr q hq)
      exact ⟨⟨a1.1, a2.1⟩, a1.2, a2.2⟩
theorem small_inbox {L : List (List P2)} (h : smallS L = true) (hok : (boundsS L).2.2 = true) : InBox (edgesL L) (boundsS L).1.1 (boundsS L).1.2 (boundsS L).2.1.1 (boundsS L).2.1.2 := by
  obtain ⟨_, _, _, _, hb⟩ := small_bounds h hok
  intro e he
  obtain ⟨⟨ra, hra, hpa⟩, rb, hrb, hpb⟩ := edges_in hb he
  have qa := hb ra hra _ hpa
  have qb := hb rb hrb _ hpb
  exact ⟨⟨qa.1.1, qa.1.2, qa.2.1, qa.2.2⟩, qb.1.1, qb.1.2, qb.2.1, qb.2.2⟩
/-- the pixels around small polygons -/
theorem small_pix {L : List (List P2)} (h : smallS L = true) {X0 Y0 X1 Y1 : Int} (hp : pixS L = (X0, Y0, X1, Y1)) :
    (-1 ≤ X0 ∧ X0 ≤ X1 ∧ X1 ≤ 5) ∧ (-1 ≤ Y0 ∧ Y0 ≤ Y1 ∧ Y1 ≤ 5) ∧
    (((boundsS L).2.2 = true ∧ (((256 * X0 ≤ (boundsS L).1.1 ∧ (boundsS L).2.1.1 ≤ 256 * X1) ∧ 256 * Y0 ≤ (boundsS L).1.2 ∧ (boundsS L).2.1.2 ≤ 256 * Y1) ∨ ((X0, Y0, X1, Y1) = ((0, 0, 0, 0) : R4) ∧ ((boundsS L).2.1.1 ≤ (boundsS L).1.1 ∨ (boundsS L).2.1.2 ≤ (boundsS L).1.2)))) ∨ ((boundsS L).2.2 = false ∧ (X0, Y0, X1, Y1) = ((0, 0, 0, 0) : R4))) := by
  unfold pixS at hp
  cases hok : (boundsS L).2.2
  · rw [hok] at hp
    simp only [Bool.false_eq_true, if_false, Prod.mk.injEq] at hp
    obtain ⟨rfl, rfl, rfl, rfl⟩ := hp
    exact ⟨by omega, by omega, .inr ⟨rfl, rfl⟩⟩
  · rw [hok] at hp
    simp only [if_true] at hp
    obtain ⟨h1, h2, h3, h4, _⟩ := small_bounds h hok
    unfold nearP at h1 h2
    generalize (boundsS L).1.1 = l1 at *
    generalize (boundsS L).1.2 = l2 at *
    generalize (boundsS L).2.1.1 = u1 at *
    generalize (boundsS L).2.1.2 = u2 at *
    rw [rectCanon_in (by simp [inR]; omega)] at hp
    split at hp
    · rename_i hc
      simp only [Prod.mk.injEq] at hp
      obtain ⟨rfl, rfl, rfl, rfl⟩ := hp
      exact ⟨by omega, by omega, .inl ⟨rfl, .inr ⟨rfl, by omega⟩⟩⟩
    · rename_i hc
      simp only [Prod.mk.injEq] at hp
      obtain ⟨rfl, rfl, rfl, rfl⟩ := hp
      exact ⟨by omega, by omega, .inl ⟨rfl, .inl (by omega)⟩⟩
/-- the areas of the pixels add up to the area of all -/
theorem top_sum {L : List (List P2)} (h : smallS L = true) {X0 Y0 X1 Y1 : Int} (hp : pixS L = (X0, Y0, X1, Y1)) {rule : Int} {T q : Rat}
    (hT : ((boundsS L).2.2 = true ∧ ∃ S, AreaOf (fun n => fillsS n rule) (edgesL L) (boundsS L).1.1 (boundsS L).1.2 (boundsS L).2.1.1 (boundsS L).2.1.2 S ∧ T = S / 65536) ∨ ((boundsS L).2.2 = false ∧ T = 0))
    (hq : SumRow (fun n => fillsS n rule) (edgesL L) X0 X1 Y0 Y1 q) : q = T := by
  have flat : (X0, Y0, X1, Y1) = ((0, 0, 0, 0) : R4) → q = 0 := fun e => by
    simp only [Prod.mk.injEq] at e
    obtain ⟨rfl, rfl, rfl, rfl⟩ := e
    obtain ⟨R, h1, h2⟩ := hq
    have h3 : R = 0 := IntR.zero_len h1
    rw [h2, h3]
    grind
  obtain ⟨_, _, ⟨hok, hx⟩ | ⟨hok, he⟩⟩ := small_pix h hp
  · rcases hT with ⟨_, S, hS, rfl⟩ | ⟨hok', _⟩
    · rcases hx with hx | ⟨he, hf⟩
      · obtain ⟨_, _, h3, h4, _⟩ := small_bounds h hok
        exact SumRow.all (small_inbox h hok) hx.1.1 hx.1.2 hx.2.1 hx.2.2 h3 h4 hS hq
      · rw [flat he, hS.flat hf]
        grind
    · rw [hok] at hok'; cases hok'
  · rcases hT with ⟨hok', _⟩ | ⟨_, rfl⟩
    · rw [hok] at hok'; cases hok'
    · exact flat he
theorem fills_one {n rule : Int} (h : fillsS n rule = true) : fillsS n 1 = true := by
  unfold fillsS at *
  rw [if_pos rfl]
  split at h
  · exact h
  · split at h
    · simp only [bne_iff_ne, ne_eq] at h ⊢
      omega
    · cases h
end Go.Proofs.YtodefmfgoehkhaaGreat
