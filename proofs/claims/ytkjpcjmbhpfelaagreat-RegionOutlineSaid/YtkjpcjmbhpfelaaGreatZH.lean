/- Texts put together: RgRefW, RgRefF. -/
import Derived.Test.YtkjpcjmbhpfelaaGreatRgRef
import Derived.Test.YtkjpcjmbhpfelaaGreatZE
import Derived.Test.YtkjpcjmbhpfelaaGreatRgOutO
/- Outline of the reference: its small functions. -/
set_option linter.unusedVariables false
set_option linter.unusedSimpArgs false
namespace Go.Proofs.YtkjpcjmbhpfelaaGreat
open Go.RowKit Go.Par Go.Reg Go.Maps

def gedE : EL Tryz.prog GE where
  enc := fun g => [.int .i64 ((frG g).1 : Int), .int .i64 ((frG g).2 : Int), .int .i64 ((toG g).1 : Int), .int .i64 ((toG g).2 : Int), .int .i64 (g.1 : Int), .int .i64 (g.2.1 : Int)]
  size := 6
  t := 61
  st := 56
  zero := .agg #[.int .i64 0, .int .i64 0, .int .i64 0, .int .i64 0, .int .i64 0, .int .i64 0]
  bytes := 48
  len := fun _ => rfl
  one := fun x v hv => by simp at hv; rcases hv with rfl | rfl | rfl | rfl | rfl | rfl <;> rfl
  pos := by decide
  und := Tryz.underlying56
  info := by kernel_rfl
  zsize := rfl
  small := by decide
theorem ged_cell {w : World} {b o : Nat} {l : List GE} (h : gedE.At w (some ⟨b, o, none⟩) l) {k : Nat} {g : GE} (hk : l[k]? = some g) :
    w.cell? ⟨b, o + k * 6, none⟩ = some (.int .i64 ((frG g).1 : Int)) ∧ w.cell? ⟨b, o + k * 6 + 1, none⟩ = some (.int .i64 ((frG g).2 : Int)) ∧ w.cell? ⟨b, o + k * 6 + 2, none⟩ = some (.int .i64 ((toG g).1 : Int)) ∧
    w.cell? ⟨b, o + k * 6 + 3, none⟩ = some (.int .i64 ((toG g).2 : Int)) ∧ w.cell? ⟨b, o + k * 6 + 4, none⟩ = some (.int .i64 (g.1 : Int)) ∧ w.cell? ⟨b, o + k * 6 + 5, none⟩ = some (.int .i64 (g.2.1 : Int)) :=
  ⟨h.cellAt (j := 0) hk rfl, h.cellAt (j := 1) hk rfl, h.cellAt (j := 2) hk rfl, h.cellAt (j := 3) hk rfl, h.cellAt (j := 4) hk rfl, h.cellAt (j := 5) hk rfl⟩

set_option maxRecDepth 100000 in
set_option maxHeartbeats 3200000 in
theorem in_any (l : List R4) (A A1 A2 : Option Addr) (n c n1 c1 n2 c2 : Nat) (xs ys : List Int) (i k : Int) (w : World) (hn : l.length = n) (hnb : n ≤ 1000000) (hA : rectE.At w A l) (hn1 : xs.length = n1) (hn2 : ys.length = n2) (hb1 : n1 ≤ 1000000) (hb2 : n2 ≤ 1000000)
    (h1 : intE.At w A1 xs) (h2 : intE.At w A2 ys) (hi : -1 ≤ i ∧ i ≤ 1000000) (hk : -1 ≤ k ∧ k ≤ 1000000) :
    Calls Tryz.prog 43 #[.slice A n c, .slice A1 n1 c1, .slice A2 n2 c2, .int .i64 i, .int .i64 k] w fun e w' => e = .returned (.bool (inG (inL l) xs ys i k)) ∧ Ext w w' := by
  have HC := Lib.hid (fun (x y : Int) (W : World) (kW : Ext w W) => rContains_any l A n c x y W hn (by omega) (hA.ext kW))
  have HG := Lib.hid (show inG (inL l) xs ys i k = (decide (0 ≤ i) && decide (0 ≤ k) && decide (i + 1 < n1) && decide (k + 1 < n2) && inL l (xs.getD i.toNat 0) (ys.getD k.toNat 0)) from by rw [← hn1, ← hn2]; rfl)
  have HX := Lib.hid (fun (j : Nat) (hj : j < n1) => show xs[j]? = some (xs.getD j 0) from by rw [List.getD_eq_getElem?_getD, List.getElem?_eq_getElem (by rw [hn1]; exact hj)]; rfl)
  have HY := Lib.hid (fun (j : Nat) (hj : j < n2) => show ys[j]? = some (ys.getD j 0) from by rw [List.getD_eq_getElem?_getD, List.getElem?_eq_getElem (by rw [hn2]; exact hj)]; rfl)
  clear hn1 hn2 hA hn
  have w1 : IntKind.i64.wrap (i + 1) = i + 1 := IntWalk.i64_in _ (by omega)
  have w2 : IntKind.i64.wrap (k + 1) = k + 1 := IntWalk.i64_in _ (by omega)
  go_enter Tryz.func43, Tryz.ntmps43
  go_wp2_with fail
  apply wp_region_par' 33 (by kernel_rfl) (by kernel_rfl) rfl
  simp only [List.take_succ_cons, List.take_zero, List.drop_succ_cons, List.drop_zero]
  generalize hW : World.drew _ = W
  have hE : Ext w W := by rw [← hW]; exact Ext.drew _
  clear hW
  by_cases a1 : 0 ≤ i
  · have d1 : decide (0 ≤ i) = true := decide_eq_true a1
    have d1' : (i < 0) = False := eq_false (by omega)
    by_cases a2 : 0 ≤ k
    · have d2 : decide (0 ≤ k) = true := decide_eq_true a2
      have d2' : (k < 0) = False := eq_false (by omega)
      by_cases a3 : i + 1 < n1
      · have d3 : decide (i + 1 < (n1 : Int)) = true := decide_eq_true a3
        by_cases a4 : k + 1 < n2
        · have d4 : decide (k + 1 < (n2 : Int)) = true := decide_eq_true a4
          obtain ⟨i, rfl⟩ := Int.eq_ofNat_of_zero_le a1
          obtain ⟨k, rfl⟩ := Int.eq_ofNat_of_zero_le a2
          have x0 := HX.out i (by omega)
          have y0 := HY.out k (by omega)
          have HR := Lib.hid (show inG (inL l) xs ys i k = inL l (xs.getD i 0) (ys.getD k 0) from by rw [HG.out, d1, d2, d3, d4]; simp)
          generalize xs.getD i 0 = x at *
          generalize ys.getD k 0 = y at *
          obtain ⟨b1, o1, rfl⟩ := h1.addr x0
          obtain ⟨b2, o2, rfl⟩ := h2.addr y0
          have e0 := fun z : Later W => z.cell (hE.cell (int_cell h1 x0))
          have e1 := fun z : Later W => z.cell (hE.cell (int_cell h2 y0))
          have q1 : i < n1 := by omega
          have q2 : k < n2 := by omega
          clear x0 y0 HX HY HG h1 h2
          iterate 33
            refine parW_step rfl (fun K hK => ?_)
            apply Exists.intro
            refine ⟨fun z => ?_, ?_⟩
            focus
              go_simp
              first
                | rfl
                | with_reducible exact calls_val (HC.out _ _ _ (hE.later z))
            go_simp
            refine hK _ ?_
            clear hK K
          refine parW_end (fun z => ?_)
          go_wp2
          go_ret
          exact ⟨ret_eq (by rw [HR.out]; rfl), hE.later z⟩
        · have d4 : decide (k + 1 < (n2 : Int)) = false := decide_eq_false a4
          have HR := Lib.hid (show inG (inL l) xs ys i k = false from by rw [HG.out, d4]; simp)
          clear HX HY HG h1 h2
          iterate 33
            refine parW_step rfl (fun K hK => ?_)
            apply Exists.intro
            refine ⟨fun z => ?_, ?_⟩
            focus
              go_simp
              first
                | rfl
                | fail
            go_simp
            refine hK _ ?_
            clear hK K
          refine parW_end (fun z => ?_)
          go_wp2
          go_ret
          exact ⟨ret_eq (by rw [HR.out]; rfl), hE.later z⟩
      · have d3 : decide (i + 1 < (n1 : Int)) = false := decide_eq_false a3
        have HR := Lib.hid (show inG (inL l) xs ys i k = false from by rw [HG.out, d3]; simp)
        clear HX HY HG h1 h2
        iterate 33
          refine parW_step rfl (fun K hK => ?_)
          apply Exists.intro
          refine ⟨fun z => ?_, ?_⟩
          focus
            go_simp
            first
              | rfl
              | fail
          go_simp
          refine hK _ ?_
          clear hK K
        refine parW_end (fun z => ?_)
        go_wp2
        go_ret
        exact ⟨ret_eq (by rw [HR.out]; rfl), hE.later z⟩
    · have d2 : decide (0 ≤ k) = false := decide_eq_false a2
      have d2' : (k < 0) = True := eq_true (by omega)
      have HR := Lib.hid (show inG (inL l) xs ys i k = false from by rw [HG.out, d2]; simp)
      clear HX HY HG h1 h2
      iterate 33
        refine parW_step rfl (fun K hK => ?_)
        apply Exists.intro
        refine ⟨fun z => ?_, ?_⟩
        focus
          go_simp
          first
            | rfl
            | fail
        go_simp
        refine hK _ ?_
        clear hK K
      refine parW_end (fun z => ?_)
      go_wp2
      go_ret
      exact ⟨ret_eq (by rw [HR.out]; rfl), hE.later z⟩
  · have d1 : decide (0 ≤ i) = false := decide_eq_false a1
    have d1' : (i < 0) = True := eq_true (by omega)
    have HR := Lib.hid (show inG (inL l) xs ys i k = false from by rw [HG.out, d1]; simp)
    clear HX HY HG h1 h2
    iterate 33
      refine parW_step rfl (fun K hK => ?_)
      apply Exists.intro
      refine ⟨fun z => ?_, ?_⟩
      focus
        go_simp
        first
          | rfl
          | fail
      go_simp
      refine hK _ ?_
      clear hK K
    refine parW_end (fun z => ?_)
    go_wp2
    go_ret
    exact ⟨ret_eq (by rw [HR.out]; rfl), hE.later z⟩
def aheadB (p1 p2 q1 q2 : Int) : Bool := decide (p2 < q2) || (decide (p2 = q2) && decide (p1 < q1))
set_option maxRecDepth 100000 in
set_option maxHeartbeats 1600000 in
theorem ahead_any (p1 p2 q1 q2 : Int) (w : World) :
    Calls Tryz.prog 44 #[.agg #[.int .i64 p1, .int .i64 p2], .agg #[.int .i64 q1, .int .i64 q2]] w fun e w' => e = .returned (.bool (aheadB p1 p2 q1 q2)) ∧ Ext w w' := by
  go_enter Tryz.func44, Tryz.ntmps44
  go_wp2
  all_goals go_ret
  all_goals refine ⟨ret_eq ?_, (Ext.alloc _ _).trans (Ext.alloc _ _)⟩
  all_goals unfold aheadB
  · rename_i h; rw [decide_eq_true h]; rfl
  · rename_i g h; rw [decide_eq_false (by omega : ¬ q2 < q2), decide_eq_true (rfl : q2 = q2)]; rfl
  · rename_i g h; rw [decide_eq_false (by omega : ¬ p2 < q2), decide_eq_false g]; rfl

/-- the edge that follows, found by looking at the edges in order -/
def FolI (E : List GE) (g : GE) (k : Nat) (nx : Int) : Prop :=
  (nx = -1 ∧ ∀ (j : Nat) (h : GE), j < k → E[j]? = some h → frG h ≠ toG g) ∨
  (∃ (j : Nat) (h : GE), nx = (j : Int) ∧ j < k ∧ E[j]? = some h ∧ frG h = toG g ∧ ((h.1 = g.1 ∧ h.2.1 = g.2.1) ∨ ∀ (j' : Nat) (h' : GE), j' < k → E[j']? = some h' → frG h' = toG g → ¬ (h'.1 = g.1 ∧ h'.2.1 = g.2.1)))
theorem FolI.start (E : List GE) (g : GE) : FolI E g 0 (-1) := .inl ⟨rfl, fun j h hj => by omega⟩
theorem FolI.keep {E : List GE} {g f : GE} {k : Nat} {nx : Int} (h : FolI E g k nx) (hk : E[k]? = some f) (hn : frG f ≠ toG g ∨ (nx ≠ -1 ∧ ¬ (f.1 = g.1 ∧ f.2.1 = g.2.1))) : FolI E g (k + 1) nx := by
  rcases h with ⟨h1, h2⟩ | ⟨j, e, h1, h2, h3, h4, h5⟩
  · refine .inl ⟨h1, fun j e hj he => ?_⟩
    by_cases hjk : j < k
    · exact h2 j e hjk he
    · have : j = k := by omega
      subst this
      rw [hk] at he; injection he with he; subst he
      rcases hn with hn | hn
      · exact hn
      · exact absurd h1 hn.1
  · refine .inr ⟨j, e, h1, by omega, h3, h4, ?_⟩
    rcases h5 with h5 | h5
    · exact .inl h5
    · refine .inr fun j' h' hj' he' hf => ?_
      by_cases hjk : j' < k
      · exact h5 j' h' hjk he' hf
      · have : j' = k := by omega
        subst this
        rw [hk] at he'; injection he' with he'; subst he'
        rcases hn with hn | hn
        · exact absurd hf hn
        · exact hn.2
theorem FolI.take {E : List GE} {g f : GE} {k : Nat} {nx : Int} (h : FolI E g k nx) (hk : E[k]? = some f) (hf : frG f = toG g) (hn : nx < 0 ∨ (f.1 = g.1 ∧ f.2.1 = g.2.1)) : FolI E g (k + 1) (k : Int) := by
  refine .inr ⟨k, f, rfl, by omega, hk, hf, ?_⟩
  rcases hn with hn | hn
  · rcases h with ⟨h1, h2⟩ | ⟨j, e, h1, _⟩
    · by_cases hc : f.1 = g.1 ∧ f.2.1 = g.2.1
      · exact .inl hc
      · refine .inr fun j' h' hj' he' hf' => ?_
        by_cases hjk : j' < k
        · exact absurd hf' (h2 j' h' hjk he')
        · have : j' = k := by omega
          subst this
          rw [hk] at he'; injection he' with he'; subst he'
          exact hc
    · omega
  · exact .inl hn
theorem getD_inj {xs : List Int} (h : xs.Pairwise (· < ·)) {i j : Nat} (hi : i < xs.length) (hj : j < xs.length) (he : xs.getD i 0 = xs.getD j 0) : i = j := by
  have h1 : xs[i]? = some (xs.getD i 0) := by rw [List.getD_eq_getElem?_getD, List.getElem?_eq_getElem hi]; rfl
  have h2 : xs[j]? = some (xs.getD j 0) := by rw [List.getD_eq_getElem?_getD, List.getElem?_eq_getElem hj]; rfl
  have k1 := srt_lt h h1 h2
  have k2 := srt_lt h h2 h1
  omega
theorem frG_lt {S : Pix} {xs ys : List Int} {g : GE} (h : g ∈ boundG S xs ys) : (frG g).1 < xs.length ∧ (frG g).2 < ys.length ∧ (toG g).1 < xs.length ∧ (toG g).2 < ys.length ∧ g.2.2 < 4 ∧ g.1 < xs.length ∧ g.2.1 < ys.length := by
  obtain ⟨h1, h2, _, h4, _⟩ := mem_boundG.1 h
  obtain ⟨i, k, d⟩ := g
  dsimp only at h1 h2 h4
  rcases (show d = 0 ∨ d = 1 ∨ d = 2 ∨ d = 3 by omega) with rfl | rfl | rfl | rfl <;> simp [frG, toG] <;> omega
theorem FolI.next {S : Pix} {xs ys : List Int} (hG : Grid S xs ys) (sx : xs.Pairwise (· < ·)) (sy : ys.Pairwise (· < ·)) {i : Nat} {g : GE} {nx : Int} (hi : (boundG S xs ys)[i]? = some g) (h : FolI (boundG S xs ys) g (boundG S xs ys).length nx) :
    ∃ j : Nat, nx = (j : Int) ∧ NextE S ((boundG S xs ys).map (edgG xs ys)) i j := by
  have hs := grid_sys hG
  have hgi : ((boundG S xs ys).map (edgG xs ys))[i]? = some (edgG xs ys g) := by rw [List.getElem?_map, hi]; rfl
  obtain ⟨a1, a2, a3, a4, a5, _⟩ := frG_lt (List.mem_of_getElem? hi)
  have key : ∀ (j : Nat) (f : GE), (boundG S xs ys)[j]? = some f → (((edgG xs ys f).1 = (edgG xs ys g).2.2.1 ∧ (edgG xs ys f).2.1 = (edgG xs ys g).2.2.2.1) ↔ frG f = toG g) := fun j f hj => by
    obtain ⟨b1, b2, b3, b4, b5, _⟩ := frG_lt (List.mem_of_getElem? hj)
    constructor
    · rintro ⟨k1, k2⟩
      exact Prod.ext (getD_inj sx b1 a3 k1) (getD_inj sy b2 a4 k2)
    · intro e
      unfold edgG
      rw [e]
      exact ⟨rfl, rfl⟩
  rcases h with ⟨h1, h2⟩ | ⟨j, f, h1, h2, h3, h4, h5⟩
  · exfalso
    obtain ⟨j, e, f, k1, k2, k3, k4, k5⟩ := hs.next hgi
    rw [hgi] at k1; injection k1 with k1; subst k1
    rw [List.getElem?_map] at k2
    obtain ⟨f', q1, q2⟩ := Option.map_eq_some_iff.1 k2
    subst q2
    exact h2 j f' (List.getElem?_eq_some_iff.1 q1).1 q1 ((key j f' q1).1 ⟨k3, k4⟩)
  · refine ⟨j, h1, ?_⟩
    have hj : ((boundG S xs ys).map (edgG xs ys))[j]? = some (edgG xs ys f) := by rw [List.getElem?_map, h3]; rfl
    obtain ⟨k3, k4⟩ := (key j f h3).2 h4
    refine hs.choice hgi hj k3 k4 ?_
    rcases h5 with h5 | h5
    · exact .inl ((same_cell a5 (frG_lt (List.mem_of_getElem? h3)).2.2.2.2.1 h4).1 h5)
    · refine .inr fun k e he e1 e2 => ?_
      rw [List.getElem?_map] at he
      obtain ⟨f', q1, q2⟩ := Option.map_eq_some_iff.1 he
      subst q2
      have hf := (key k f' q1).1 ⟨e1, e2⟩
      intro hd
      exact h5 k f' (List.getElem?_eq_some_iff.1 q1).1 q1 hf ((same_cell a5 (frG_lt (List.mem_of_getElem? q1)).2.2.2.2.1 hf).2 hd)
end Go.Proofs.YtkjpcjmbhpfelaaGreat

/- Outline of the reference: follow, boundary. -/
set_option linter.unusedVariables false
set_option linter.unusedSimpArgs false
namespace Go.Proofs.YtkjpcjmbhpfelaaGreat
open Go.RowKit Go.Par Go.Reg Go.Maps

set_option maxRecDepth 100000 in
set_option maxHeartbeats 3200000 in
theorem follow_any (l : List GE) (A : Option Addr) (n c i : Nat) (g : GE) (w : World) (hn : l.length = n) (hb : n ≤ 300000000) (hA : gedE.At w A l) (hi : l[i]? = some g) :
    Calls Tryz.prog 23 #[.slice A n c, .int .i64 (i : Int)] w fun e w' => ∃ v : Int, e = .returned (.int .i64 v) ∧ Ext w w' ∧ FolI l g n v := by
  have HN := Lib.hid hn
  have hin : i < n := by rw [← hn]; exact (List.getElem?_eq_some_iff.1 hi).1
  have HS := Lib.hid (FolI.start l g)
  obtain ⟨bA, oA, rfl⟩ := hA.addr hi
  obtain ⟨g0', g1', g2', g3', g4', g5'⟩ := ged_cell hA hi
  have HG := Lib.hid (show ∀ p q, toG g = (p, q) ↔ p = (toG g).1 ∧ q = (toG g).2 from fun p q => ⟨fun e => by rw [e]; exact ⟨rfl, rfl⟩, fun ⟨e1, e2⟩ => by rw [e1, e2]⟩)
  clear hn hi
  go_enter Tryz.func23, Tryz.ntmps23
  go_wp2_with fail
  go_loopw [5, 6] (fun nx kk wr => ∃ (k : Nat) (v : Int), k ≤ n ∧ nx = .int .i64 v ∧ kk = .int .i64 k ∧ Ext w wr ∧ Hid (FolI l g k v)) (fun _ kk _ => n - (intOf kk).toNat)
  case atStart => exact ⟨0, _, Nat.zero_le _, rfl, rfl, Ext.refl _, HS⟩
  case round =>
    obtain ⟨k, v, hk, rfl, rfl, hE, HF⟩ := hrel
    by_cases hlt : k < n
    · have dk : ((k : Int) < (n : Int)) = True := eq_true (by omega)
      obtain ⟨f, hlk⟩ : ∃ f, l[k]? = some f := ⟨_, List.getElem?_eq_getElem (by rw [HN.out]; exact hlt)⟩
      obtain ⟨f0', f1', f2', f3', f4', f5'⟩ := ged_cell hA hlk
      have HK := Lib.hid (fun h => HF.out.keep hlk h)
      have HT := Lib.hid (fun h h' => HF.out.take hlk h h')
      have HX := Lib.hid (show frG f = toG g ↔ (((frG f).1 : Int) = ((toG g).1 : Int) ∧ ((frG f).2 : Int) = ((toG g).2 : Int)) from ⟨fun e => by rw [e]; exact ⟨rfl, rfl⟩, fun ⟨e1, e2⟩ => Prod.ext (by omega) (by omega)⟩)
      have HY := Lib.hid (show (f.1 = g.1 ∧ f.2.1 = g.2.1) ↔ ((f.1 : Int) = (g.1 : Int) ∧ (f.2.1 : Int) = (g.2.1 : Int)) from ⟨fun ⟨e1, e2⟩ => ⟨by rw [e1], by rw [e2]⟩, fun ⟨e1, e2⟩ => ⟨by omega, by omega⟩⟩)
      replace f0' := hE.cell f0'
      replace f1' := hE.cell f1'
      replace f4' := hE.cell f4'
      replace f5' := hE.cell f5'
      have k2' := hE.cell g2'
      have k3' := hE.cell g3'
      have k4' := hE.cell g4'
      have k5' := hE.cell g5'
      clear hlk f2' f3' g0' g1' g2' g3' g4' g5' HG
      generalize ((frG f).1 : Int) = p0 at *
      generalize ((frG f).2 : Int) = p1 at *
      generalize ((toG g).1 : Int) = q0 at *
      generalize ((toG g).2 : Int) = q1 at *
      generalize (f.1 : Int) = c0 at *
      generalize (f.2.1 : Int) = c1 at *
      generalize (g.1 : Int) = b0 at *
      generalize (g.2.1 : Int) = b1 at *
      go_wp2_with fail
      apply wp_region_par' 28 (by kernel_rfl) (by kernel_rfl) rfl
      simp only [List.take_succ_cons, List.take_zero, List.drop_succ_cons, List.drop_zero]
      generalize hW : World.drew _ = W
      have hEW : Ext wr W := by rw [← hW]; exact Ext.drew _
      clear hW
      have e0 := fun z : Later W => z.cell (hEW.cell f0')
      have e1 := fun z : Later W => z.cell (hEW.cell f1')
      have e2 := fun z : Later W => z.cell (hEW.cell k2')
      have e3 := fun z : Later W => z.cell (hEW.cell k3')
      have e4 := fun z : Later W => z.cell (hEW.cell f4')
      have e5 := fun z : Later W => z.cell (hEW.cell f5')
      have e6 := fun z : Later W => z.cell (hEW.cell k4')
      have e7 := fun z : Later W => z.cell (hEW.cell k5')
      clear f0' f1' k2' k3' f4' f5' k4' k5'
      have zq := fun a b c d W => eqArr a b c d W
      by_cases hf : p0 = q0 ∧ p1 = q1
      · have HFT := Lib.hid (HX.out.2 hf)
        obtain ⟨rfl, rfl⟩ := hf
        by_cases hv : v < 0
        · have d1 : decide (v < 0) = true := decide_eq_true hv
          have HR := Lib.hid (HT.out HFT.out (.inl hv))
          clear HK HT HX HY
          iterate 28
            refine parW_step rfl (fun K hK => ?_)
            apply Exists.intro
            refine ⟨fun z => ?_, ?_⟩
            focus
              go_simp
              first
                | rfl
                | fail
            go_simp
            refine hK _ ?_
            clear hK K
          refine parW_end (fun z => ?_)
          have hE2 := hE.trans (hEW.later z)
          generalize z.val = Z at *
          clear z e0 e1 e2 e3 e4 e5 e6 e7
          go_wp2
          go_roundw
          case rel => exact ⟨k + 1, _, by omega, rfl, by go_num, hE2, HR⟩
          case measure => simp [intOf]; omega
        · have d1 : decide (v < 0) = false := decide_eq_false hv
          by_cases hc : c0 = b0 ∧ c1 = b1
          · have HR := Lib.hid (HT.out HFT.out (.inr (HY.out.2 hc)))
            obtain ⟨rfl, rfl⟩ := hc
            clear HK HT HX HY
            iterate 28
              refine parW_step rfl (fun K hK => ?_)
              apply Exists.intro
              refine ⟨fun z => ?_, ?_⟩
              focus
                go_simp
                first
                  | rfl
                  | fail
              go_simp
              refine hK _ ?_
              clear hK K
            refine parW_end (fun z => ?_)
            have hE2 := hE.trans (hEW.later z)
            generalize z.val = Z at *
            clear z e0 e1 e2 e3 e4 e5 e6 e7
            go_wp2
            go_roundw
            case rel => exact ⟨k + 1, _, by omega, rfl, by go_num, hE2, HR⟩
            case measure => simp [intOf]; omega
          · have HR := Lib.hid (HK.out (.inr ⟨by omega, fun h => hc (HY.out.1 h)⟩))
            have d2 : (c0 == b0 && c1 == b1) = false := by
              rw [Bool.eq_false_iff]; intro e; apply hc; simpa using e
            have d3 : (decide (c0 = b0) && decide (c1 = b1)) = false := by
              rw [Bool.eq_false_iff]; intro e; apply hc; simpa using e
            clear HK HT HX HY
            iterate 28
              refine parW_step rfl (fun K hK => ?_)
              apply Exists.intro
              refine ⟨fun z => ?_, ?_⟩
              focus
                go_simp
                first
                  | rfl
                  | fail
              go_simp
              refine hK _ ?_
              clear hK K
            refine parW_end (fun z => ?_)
            have hE2 := hE.trans (hEW.later z)
            generalize z.val = Z at *
            clear z e0 e1 e2 e3 e4 e5 e6 e7
            go_wp2
            go_roundw
            case rel => exact ⟨k + 1, _, by omega, rfl, by go_num, hE2, HR⟩
            case measure => simp [intOf]; omega
      · have HR := Lib.hid (HK.out (.inl fun h => hf (HX.out.1 h)))
        have d2 : (p0 == q0 && p1 == q1) = false := by
          rw [Bool.eq_false_iff]; intro e; apply hf; simpa using e
        have d3 : (decide (p0 = q0) && decide (p1 = q1)) = false := by
          rw [Bool.eq_false_iff]; intro e; apply hf; simpa using e
        clear HK HT HX HY
        iterate 28
          refine parW_step rfl (fun K hK => ?_)
          apply Exists.intro
          refine ⟨fun z => ?_, ?_⟩
          focus
            go_simp
            first
              | rfl
              | fail
          go_simp
          refine hK _ ?_
          clear hK K
        refine parW_end (fun z => ?_)
        have hE2 := hE.trans (hEW.later z)
        generalize z.val = Z at *
        clear z e0 e1 e2 e3 e4 e5 e6 e7
        go_wp2
        go_roundw
        case rel => exact ⟨k + 1, _, by omega, rfl, by go_num, hE2, HR⟩
        case measure => simp [intOf]; omega
    · have dk : ((k : Int) < (n : Int)) = False := eq_false (by omega)
      have hkn : k = n := by omega
      subst hkn
      go_wp2
      go_ret
      exact ⟨_, ret_eq rfl, hE, HF.out⟩
end Go.Proofs.YtkjpcjmbhpfelaaGreat
