/- Outline of the reference: begun, insert. -/
import Derived.Test.YtkjpcjmbhpfelaaGreatRgRefC
set_option linter.unusedVariables false
set_option linter.unusedSimpArgs false
namespace Go.Proofs.YtkjpcjmbhpfelaaGreat
open Go.RowKit Go.Par Go.Reg Go.Maps

theorem aheadB_scl (q f : Crn) : aheadB (q.1 * 256) (q.2.1 * 256) (f.1 * 256) (f.2.1 * 256) = decide (aheadP q f) := by
  have h1 : (q.2.1 * 256 < f.2.1 * 256) ↔ q.2.1 < f.2.1 := by omega
  have h2 : (q.2.1 * 256 = f.2.1 * 256) ↔ q.2.1 = f.2.1 := by omega
  have h3 : (q.1 * 256 < f.1 * 256) ↔ q.1 < f.1 := by omega
  by_cases h : aheadP q f
  · rw [decide_eq_true h]
    unfold aheadB
    simp only [h1, h2, h3]
    rcases h with h | ⟨h, k⟩
    · rw [decide_eq_true h]; rfl
    · rw [decide_eq_true h, decide_eq_true k]; simp
  · rw [decide_eq_false h]
    unfold aheadB
    simp only [h1, h2, h3]
    unfold aheadP at h
    simp
    omega
theorem _root_.Go.Reg.LeastAt.go {K : List Crn} {t k : Nat} {f q : Crn} (h : LeastAt (K.take k) t) (hf : K[t]? = some f) (hq : K[k]? = some q) (ht : t < k ∨ (k = 0 ∧ t = 0)) (hn : ¬ aheadP q f) : LeastAt (K.take (k + 1)) t ∧ t < k + 1 := by
  rcases ht with ht | ⟨rfl, rfl⟩
  · exact ⟨h.step hf hq ht hn, by omega⟩
  · refine ⟨?_, by omega⟩
    rw [take_snocG hq]
    exact LeastAt.first q
set_option maxRecDepth 100000 in
set_option maxHeartbeats 6400000 in
theorem begun_any (K : List Crn) (A : Option Addr) (n cc : Nat) (w : World) (hn : K.length = n) (hb : n ≤ 300000000) (hA : ptE.At w A (K.map scl)) (h0 : 0 < n) :
    Calls Tryz.prog 25 #[.slice A n cc] w fun e w' => ∃ v t, e = .returned v ∧ Ext w w' ∧ t < n ∧ LeastAt K t ∧ ptE.Own w' w.heap.size v ((rot t K).map scl) := by
  have HN := Lib.hid hn
  clear hn
  go_enter Tryz.func25, Tryz.ntmps25
  go_wp2_with fail
  go_loopw [3, 4] (fun tt i wr => ∃ k t : Nat, k ≤ n ∧ tt = .int .i64 t ∧ i = .int .i64 k ∧ Ext w wr ∧ (t < k ∨ (k = 0 ∧ t = 0)) ∧ Hid (LeastAt (K.take k) t)) (fun _ i _ => n - (intOf i).toNat)
  case atStart => exact ⟨0, 0, Nat.zero_le _, rfl, rfl, Ext.refl _, .inr ⟨rfl, rfl⟩, Lib.hid (.inl ⟨rfl, rfl⟩)⟩
  case round =>
    obtain ⟨k, t, hk, rfl, rfl, hE, htk, HL⟩ := hrel
    by_cases hlt : k < n
    · have dk : ((k : Int) < (n : Int)) = True := eq_true (by omega)
      have htn : t < n := by omega
      obtain ⟨q, hq⟩ : ∃ q, K[k]? = some q := ⟨_, List.getElem?_eq_getElem (by rw [HN.out]; exact hlt)⟩
      obtain ⟨f, hf⟩ : ∃ q, K[t]? = some q := ⟨_, List.getElem?_eq_getElem (by rw [HN.out]; exact htn)⟩
      have HG := Lib.hid (fun h => HL.out.go hf hq htk h)
      have HM := Lib.hid (fun (h1 : t < k) h => HL.out.move hf hq h1 h)
      have HZ := Lib.hid (fun (h1 : k = 0) (h2 : t = 0) => show ¬ aheadP q f from by
        subst h1 h2
        rw [hq] at hf; injection hf with hf; subst hf
        unfold aheadP; omega)
      have pk : (K.map scl)[k]? = some (q.1 * 256, q.2.1 * 256) := by rw [List.getElem?_map, hq]; rfl
      have pf : (K.map scl)[t]? = some (f.1 * 256, f.2.1 * 256) := by rw [List.getElem?_map, hf]; rfl
      obtain ⟨bA, oA, rfl⟩ := hA.addr pk
      obtain ⟨a0, a1⟩ := ptc_cell hA pf
      obtain ⟨e0, e1⟩ := ptc_cell hA pk
      dsimp only at a0 a1 e0 e1
      replace a0 := hE.cell a0
      replace a1 := hE.cell a1
      replace e0 := hE.cell e0
      replace e1 := hE.cell e1
      have HH := Lib.hid (fun W => ahead_any (q.1 * 256) (q.2.1 * 256) (f.1 * 256) (f.2.1 * 256) W)
      rw [aheadB_scl] at HH
      obtain ⟨ab, hab⟩ : ∃ ab, decide (aheadP q f) = ab := ⟨_, rfl⟩
      rw [hab] at HH
      have HAB := Lib.hid hab
      generalize q.1 * 256 = xq at *
      generalize q.2.1 * 256 = yq at *
      generalize f.1 * 256 = xf at *
      generalize f.2.1 * 256 = yf at *
      clear hq hf pk pf hab
      go_wp2_with fail
      apply wp_region_par' 9 (by kernel_rfl) (by kernel_rfl) rfl
      simp only [List.take_succ_cons, List.take_zero, List.drop_succ_cons, List.drop_zero]
      generalize hW : World.drew _ = W
      have hEW : Ext wr W := by rw [← hW]; exact Ext.drew _
      clear hW
      have A0 := fun z : Later W => z.cell (hEW.cell a0)
      have A1 := fun z : Later W => z.cell (hEW.cell a1)
      have E0 := fun z : Later W => z.cell (hEW.cell e0)
      have E1 := fun z : Later W => z.cell (hEW.cell e1)
      have HTK := Lib.hid htk
      clear htk
      iterate 9
        refine parW_step rfl (fun K hK => ?_)
        apply Exists.intro
        refine ⟨fun z => ?_, ?_⟩
        focus
          go_simp
          first
            | rfl
            | with_reducible exact calls_val (HH.out _)
        go_simp
        refine hK _ ?_
        clear hK K
      refine parW_end (fun z => ?_)
      have hE2 := hE.trans (hEW.later z)
      clear A0 A1 E0 E1 a0 a1 e0 e1
      generalize z.val = Z at *
      clear z hEW
      cases ab
      · obtain ⟨r1, r2⟩ := HG.out (of_decide_eq_false HAB.out)
        have HR := Lib.hid r1
        clear r1
        go_wp2
        go_roundw
        case rel => exact ⟨k + 1, t, by omega, rfl, by go_num, hE2, .inl r2, HR⟩
        case measure => simp [intOf]; omega
      · have hah : aheadP q f := of_decide_eq_true HAB.out
        have HT := Lib.hid (show t < k from by
          rcases Nat.lt_or_ge t k with h | h
          · exact h
          · exfalso
            have hk0 : k = 0 ∧ t = 0 := by
              rcases HL.out with ⟨_, h1⟩ | ⟨g, h1, _⟩
              · have := HTK.out; omega
              · have := HTK.out; omega
            exact HZ.out hk0.1 hk0.2 hah)
        have HR := Lib.hid (HM.out HT.out hah)
        clear hah
        go_wp2
        go_roundw
        case rel => exact ⟨k + 1, k, by omega, rfl, by go_num, hE2, .inl (by omega), HR⟩
        case measure => simp [intOf]; omega
    · have dk : ((k : Int) < (n : Int)) = False := eq_false (by omega)
      have hfin : K.take k = K := List.take_of_length_le (by rw [HN.out]; omega)
      rw [hfin] at HL
      have htn : t < n := by omega
      have HLT := Lib.hid (show ∀ j : Nat, j < n → (rot t K)[j]? = K[(t + j) % n]? from fun j hj => by rw [rot_get (by rw [HN.out]; exact htn) (by rw [HN.out]; exact hj), HN.out, Nat.add_comm])
      have HRL := Lib.hid (show (rot t K).length = n from by rw [rot_length (by rw [HN.out]; omega), HN.out])
      clear hfin htk
      generalize wr = wo at *
      go_wp2_with fail
      have hE0 := hE.trans (Ext.alloc wo (.cells #[] 42))
      have hown0 := EL.Own.made (E := ptE) wo
      go_loopw [5, 6] (fun s i wz => ∃ k : Nat, k ≤ n ∧ i = .int .i64 k ∧ Ext wo wz ∧ ptE.Own wz wo.heap.size s (((rot t K).take k).map scl)) (fun _ i _ => n - (intOf i).toNat)
      case atStart => exact ⟨0, Nat.zero_le _, rfl, Ext.alloc _ _, hown0⟩
      case round =>
        clear hE0 hown0
        obtain ⟨k, hk, rfl, hE3, hown⟩ := hrel
        by_cases hlt : k < n
        · have dk : ((k : Int) < (n : Int)) = True := eq_true (by omega)
          obtain ⟨i, hi⟩ : ∃ i, i = (t + k) % n := ⟨_, rfl⟩
          have hin : i < n := by rw [hi]; exact Nat.mod_lt _ (by omega)
          obtain ⟨q, hq⟩ : ∃ q, K[i]? = some q := ⟨_, List.getElem?_eq_getElem (by rw [HN.out]; exact hin)⟩
          have hrk : (rot t K)[k]? = some q := by rw [HLT.out k hlt, ← hi]; exact hq
          have HS := Lib.hid (show ((rot t K).take (k + 1)).map scl = ((rot t K).take k).map scl ++ [(q.1 * 256, q.2.1 * 256)] from by rw [take_snocG hrk, List.map_append]; rfl)
          have pk : (K.map scl)[i]? = some (q.1 * 256, q.2.1 * 256) := by rw [List.getElem?_map, hq]; rfl
          obtain ⟨bA, oA, rfl⟩ := hA.addr pk
          obtain ⟨e0, e1⟩ := ptc_cell hA pk
          dsimp only at e0 e1
          replace e0 := (hE.trans hE3).cell e0
          replace e1 := (hE.trans hE3).cell e1
          generalize q.1 * 256 = xq at *
          generalize q.2.1 * 256 = yq at *
          have m1 := tmod_nat (a := t + k) (n := n) (x := (t : Int) + k) (by omega)
          have m2 := emod_nat (a := t + k) (n := n) (x := (t : Int) + k) (by omega)
          rw [← hi] at m1 m2
          have q3 : ¬ n = 0 := by omega
          have w1 : IntKind.i64.wrap ((t : Int) + (k : Int)) = (t : Int) + k := IntWalk.i64_in _ (by omega)
          clear hq hrk pk hi
          have hEa := hE3.trans (Ext.alloc wr (.cells #[.int .i64 xq, .int .i64 yq] 42))
          have hownA := hown.ext (Ext.alloc wr (.cells #[.int .i64 xq, .int .i64 yq] 42))
          have hrow := EL.rowOne (E := ptE) (x := (xq, yq)) (Box.new wr 42 #[.int .i64 xq, .int .i64 yq]) rfl
          have hsz := hEa.size
          have hll : (((rot t K).take k).map scl).length + ([(xq, yq)] : List (Int × Int)).length ≤ 1000000000 := by
            simp only [List.length_map, List.length_singleton, List.length_take]; omega
          go_wp2_with (at_builtin; refine EL.wpApp ptE rfl _ _ rfl wo.heap.size _ _ _ [(xq, yq)] rfl rfl hownA hrow hll hsz ?_; intro v1 W1 own1 gr1 _)
          have hE4 := growExt hEa hownA (Nat.le_refl _) gr1
          go_roundw
          case rel => exact ⟨k + 1, by omega, by go_num, hE4, by rw [HS.out]; exact own1⟩
          case measure => simp [intOf]; omega
        · have dk : ((k : Int) < (n : Int)) = False := eq_false (by omega)
          have hfin : (rot t K).take k = rot t K := List.take_of_length_le (by rw [HRL.out]; omega)
          rw [hfin] at hown
          clear hfin
          have HOW := Lib.hid (hown.lower hE.size)
          clear hown
          go_wp2
          exact bodyPost_ret (v := u5) (by simp [results, Tryz.results25, go_sem, List.size_toArray]) rfl ⟨_, t, rfl, hE.trans hE3, htn, HL.out, HOW.out⟩
theorem ptsc_cell {w : World} {b o : Nat} {l : List Sl} (h : ptsE.At w (some ⟨b, o, none⟩) l) {k : Nat} {x : Sl} (hk : l[k]? = some x) : w.cell? ⟨b, o + k, none⟩ = some (.slice x.1 x.2.1 x.2.2) := by
  have := h.cellAt (j := 0) hk rfl
  simpa [ptsE] using this
/-- a slice whose first point is its ring's first corner -/
def FirstR (w : World) (t : RSl) : Prop := ∃ g, t.1.1 = some ⟨g, 0, none⟩ ∧ 0 < t.1.2.1 ∧ w.cell? ⟨g, 0, none⟩ = some (.int .i64 ((hd0 t.2).1 * 256)) ∧ w.cell? ⟨g, 1, none⟩ = some (.int .i64 ((hd0 t.2).2.1 * 256))
/-- a slice of points that is a ring, in a block known whole -/
def RowR (w : World) (t : RSl) : Prop := t.2.length = t.1.2.1 ∧ t.1.2.1 ≤ 300000000 ∧ t.2 ≠ [] ∧ ptE.BoxAt w t.1.1 (t.2.map scl)
theorem RowR.ext {w w' : World} {t : RSl} (h : RowR w t) (he : Ext w w') : RowR w' t := ⟨h.1, h.2.1, h.2.2.1, h.2.2.2.ext he⟩
theorem RowR.first {w : World} {t : RSl} (h : RowR w t) : FirstR w t := by
  obtain ⟨r1, r2, r3, r5⟩ := h
  obtain ⟨f, R', hR'⟩ : ∃ f R', t.2 = f :: R' := by
    cases hq : t.2 with
    | nil => exact absurd hq r3
    | cons f R' => exact ⟨f, R', rfl⟩
  obtain ⟨g', cur, e, hbx, hcells⟩ := r5 (by rw [hR']; simp)
  have hc0 := hcells 0 (.int .i64 (f.1 * 256)) (by rw [hR']; rfl)
  have hc1 := hcells 1 (.int .i64 (f.2.1 * 256)) (by rw [hR']; rfl)
  have hh : hd0 t.2 = f := by rw [hR']; rfl
  refine ⟨g', e, by rw [← r1, hR']; simp, ?_, ?_⟩
  · rw [hh, hbx.cell]; exact hc0
  · rw [hh, hbx.cell]; exact hc1
/-- the same, the block below B -/
def RowB (B : Nat) (w : World) (t : RSl) : Prop := RowR w t ∧ ∀ a, t.1.1 = some a → a.block < B
theorem RowR.low {w : World} {t : RSl} (h : RowR w t) : RowB w.heap.size w t := ⟨h, fun a ha => by
  obtain ⟨g', cur, e, hbx, hcells⟩ := h.2.2.2 (by simpa using h.2.2.1)
  rw [ha] at e; injection e with e; subst e
  exact hbx.lt⟩
theorem RowB.ext {B : Nat} {w w' : World} {t : RSl} (h : RowB B w t) (he : Ext w w') : RowB B w' t := ⟨h.1.ext he, h.2⟩
theorem RowB.set {B : Nat} {w : World} {g2 i : Nat} {u : Value} {cs : Array Value} {t : RSl} (h : RowB B w t) (hb : Box w g2 boolE.t cs) : RowB B (w.setCell ⟨g2, i, none⟩ u) t := ⟨⟨h.1.1, h.1.2.1, h.1.2.2.1, h.1.2.2.2.set (F := boolE) hb (by decide)⟩, h.2⟩
theorem RowB.grown {B : Nat} {w w' : World} {v : Value} {l : List (Int × Int)} {t : RSl} (h : RowB B w t) (hown : ptE.Own w B v l) (hg : w.grownBy w' v.ownBlock) : RowB B w' t := ⟨⟨h.1.1, h.1.2.1, h.1.2.2.1, fun hl => by
  obtain ⟨g', cur, e, hbx, hcells⟩ := h.1.2.2.2 hl
  refine ⟨g', cur, e, boxGrown hbx hg (fun e' => ?_), hcells⟩
  have h1 := h.2 _ e
  have h2 := (World.ownsRow.lt hown _ e').1
  dsimp only at h1
  omega⟩, h.2⟩
abbrev keyT (t : RSl) : Crn := hd0 t.2
set_option maxRecDepth 100000 in
set_option maxHeartbeats 6400000 in
theorem insert_any (T : List RSl) (r : RSl) (A : Option Addr) (n cc : Nat) (w : World) (hn : T.length = n) (hb : n ≤ 300000000) (hA : ptsE.At w A (T.map fun t => t.1)) (hT : ∀ t ∈ T, FirstR w t) (hr : FirstR w r) :
    Calls Tryz.prog 24 #[.slice A n cc, .slice r.1.1 r.1.2.1 r.1.2.2] w fun e w' => ∃ v, e = .returned v ∧ Ext w w' ∧ ptsE.Own w' w.heap.size v ((insS keyT r T).map fun t => t.1) := by
  have HN := Lib.hid hn
  have HT := Lib.hid hT
  obtain ⟨gr, er, hr0, r0, r1⟩ := hr
  obtain ⟨⟨⟨ra, rn, rc⟩, rR⟩, hrr⟩ : ∃ q, q = r := ⟨r, rfl⟩
  subst hrr
  dsimp only at er hr0 r0 r1 ⊢
  subst er
  clear hn hT
  have HRF := Lib.hid (show keyT ((some ⟨gr, 0, none⟩, rn, rc), rR) = hd0 rR from rfl)
  obtain ⟨r, hrr⟩ : ∃ q : RSl, ((some ⟨gr, 0, none⟩, rn, rc), rR) = q := ⟨_, rfl⟩
  have HRR := Lib.hid (show r.1 = (some ⟨gr, 0, none⟩, rn, rc) from by rw [← hrr])
  rw [hrr] at HRF ⊢
  clear hrr
  go_enter Tryz.func24, Tryz.ntmps24
  go_wp2_with fail
  go_loopw [5, 6, 7] (fun s dd i wr => ∃ (k : Nat) (b : Bool) (O : List RSl), k ≤ n ∧ dd = .bool b ∧ i = .int .i64 k ∧ Ext w wr ∧ ptsE.Own wr w.heap.size s (O.map fun t => t.1) ∧ O.length ≤ k + 1 ∧ Hid ((b = false ∧ O = T.take k ∧ ∀ (j : Nat) (a : RSl), j < k → T[j]? = some a → ¬ aheadP (keyT r) (keyT a)) ∨ (b = true ∧ O ++ T.drop k = insS keyT r T))) (fun _ _ i _ => n - (intOf i).toNat)
  case atStart => exact ⟨0, false, [], Nat.zero_le _, rfl, rfl, Ext.alloc _ _, EL.Own.made (E := ptsE) w, by simp, Lib.hid (.inl ⟨rfl, rfl, fun j a h => by omega⟩)⟩
  case round =>
    obtain ⟨k, b, O, hk, rfl, rfl, hE, hown, hOl, HO⟩ := hrel
    by_cases hlt : k < n
    · have dk : ((k : Int) < (n : Int)) = True := eq_true (by omega)
      obtain ⟨⟨⟨ta, tn, tc⟩, tR⟩, ht⟩ : ∃ q, T[k]? = some q := ⟨_, List.getElem?_eq_getElem (by rw [HN.out]; exact hlt)⟩
      obtain ⟨gt, et, ht0, t0, t1⟩ := HT.out _ (List.mem_of_getElem? ht)
      dsimp only at et ht0 t0 t1
      subst et
      obtain ⟨t, hte⟩ : ∃ q : RSl, ((some ⟨gt, 0, none⟩, tn, tc), tR) = q := ⟨_, rfl⟩
      have HTT := Lib.hid (show t.1 = (some ⟨gt, 0, none⟩, tn, tc) from by rw [← hte])
      have HTF := Lib.hid (show keyT t = hd0 tR from by rw [← hte])
      rw [hte] at ht
      clear hte
      have pt : (T.map fun t => t.1)[k]? = some (some ⟨gt, 0, none⟩, tn, tc) := by rw [List.getElem?_map, ht]; exact congrArg some HTT.out
      obtain ⟨bA, oA, rfl⟩ := hA.addr pt
      have h0 := ptsc_cell hA pt
      dsimp only at h0
      have HA0 := Lib.hid h0
      replace h0 := hE.cell h0
      replace t0 := hE.cell t0
      replace t1 := hE.cell t1
      have s0 := hE.cell r0
      have s1 := hE.cell r1
      have HD := Lib.hid (show T.drop k = t :: T.drop (k + 1) from by
        obtain ⟨hl, e⟩ := List.getElem?_eq_some_iff.1 ht
        rw [List.drop_eq_getElem_cons hl, e])
      have HSK := Lib.hid (fun h1 h2 => insS_skip keyT r T k t h1 ht h2)
      have HTK := Lib.hid (show T.take (k + 1) = T.take k ++ [t] from take_snocG ht)
      have HTG := Lib.hid (show T[k]? = some t from ht)
      have hq := aheadB_scl (keyT r) (keyT t)
      rw [HRF.out, HTF.out] at hq
      have HH := Lib.hid (fun W => ahead_any ((hd0 rR).1 * 256) ((hd0 rR).2.1 * 256) ((hd0 tR).1 * 256) ((hd0 tR).2.1 * 256) W)
      rw [hq] at HH
      obtain ⟨ab, hab⟩ : ∃ ab, decide (aheadP (hd0 rR) (hd0 tR)) = ab := ⟨_, rfl⟩
      rw [hab] at HH
      have HAB := Lib.hid (show aheadP (keyT r) (keyT t) ↔ ab = true from by rw [HRF.out, HTF.out, ← hab]; simp)
      clear hq hab ht pt r0 r1
      generalize (hd0 rR).1 * 256 = xr at *
      generalize (hd0 rR).2.1 * 256 = yr at *
      generalize (hd0 tR).1 * 256 = xt at *
      generalize (hd0 tR).2.1 * 256 = yt at *
      obtain ⟨OS, hOS⟩ : ∃ OS : List Sl, O.map (fun t => t.1) = OS := ⟨_, rfl⟩
      have HOS := Lib.hid hOS
      have HOL := Lib.hid (show OS.length ≤ k + 1 from by rw [← hOS, List.length_map]; exact hOl)
      rw [hOS] at hown
      clear hOS
      cases b
      · have HB := Lib.hid (show O = T.take k ∧ ∀ (j : Nat) (a : RSl), j < k → T[j]? = some a → ¬ aheadP (keyT r) (keyT a) from by
          rcases HO.out with h | h
          · exact h.2
          · exact absurd h.1 (by decide))
        have HOk := Lib.hid (show O.length ≤ k from by rw [HB.out.1, List.length_take]; omega)
        go_wp2_with fail
        apply wp_region_par' 14 (by kernel_rfl) (by kernel_rfl) rfl
        simp only [List.take_succ_cons, List.take_zero, List.drop_succ_cons, List.drop_zero]
        generalize hW : World.drew _ = W
        have hEW : Ext wr W := by rw [← hW]; exact Ext.drew _
        clear hW
        have E0 := fun z : Later W => z.cell (hEW.cell h0)
        have E1 := fun z : Later W => z.cell (hEW.cell t0)
        have E2 := fun z : Later W => z.cell (hEW.cell t1)
        have E3 := fun z : Later W => z.cell (hEW.cell s0)
        have E4 := fun z : Later W => z.cell (hEW.cell s1)
        iterate 14
          refine parW_step rfl (fun K hK => ?_)
          apply Exists.intro
          refine ⟨fun z => ?_, ?_⟩
          focus
            go_simp
            first
              | rfl
              | with_reducible exact calls_val (HH.out _)
          go_simp
          refine hK _ ?_
          clear hK K
        refine parW_end (fun z => ?_)
        have hEz := hEW.later z
        have hE2 := hE.trans hEz
        have h0' := hEz.cell h0
        have hown2 := hown.ext hEz
        clear h0 t0 t1 s0 s1 hown hE
        generalize z.val = Z at *
        clear z hEW hEz
        clear E0 E1 E2 E3 E4
        cases ab
        · have hst : (false = false ∧ O ++ [t] = T.take (k + 1) ∧ ∀ (j : Nat) (a : RSl), j < k + 1 → T[j]? = some a → ¬ aheadP (keyT r) (keyT a)) ∨ (false = true ∧ (O ++ [t]) ++ T.drop (k + 1) = insS keyT r T) := .inl ⟨rfl, by rw [HTK.out, HB.out.1], fun j a hj ha => by
            by_cases hjk : j < k
            · exact HB.out.2 j a hjk ha
            · have : j = k := by omega
              subst this
              rw [HTG.out] at ha
              injection ha with ha
              subst ha
              intro h
              exact absurd (HAB.out.1 h) (by decide)⟩
          have HST := Lib.hid hst
          clear hst
          have hEa := hE2.trans (Ext.alloc Z (.cells #[.slice (some ⟨gt, 0, none⟩) tn tc] 48))
          have hownA := hown2.ext (Ext.alloc Z (.cells #[.slice (some ⟨gt, 0, none⟩) tn tc] 48))
          have hrow := EL.rowOne (E := ptsE) (x := (((some ⟨gt, 0, none⟩), tn, tc) : Sl)) (Box.new Z 48 #[.slice (some ⟨gt, 0, none⟩) tn tc]) rfl
          have hsz := hEa.size
          have hll : (OS).length + ([((some ⟨gt, 0, none⟩), tn, tc)] : List Sl).length ≤ 1000000000 := by
            have := HOL.out
            simp only [List.length_append, List.length_singleton]; omega
          go_wp2_with (at_builtin; refine EL.wpApp ptsE rfl _ _ rfl w.heap.size _ _ (OS) [((some ⟨gt, 0, none⟩), tn, tc)] rfl rfl hownA hrow hll hsz ?_; intro v1 W1 own1 gr1 _)
          have hE9 := growExt hEa hownA (Nat.le_refl _) gr1
          have HM := Lib.hid (show (O ++ [t]).map (fun t : RSl => t.1) = OS ++ ([((some ⟨gt, 0, none⟩), tn, tc)] : List Sl) from by simp only [List.map_append, List.map_singleton, HOS.out, HRR.out, HTT.out])
          go_roundw
          case rel => exact ⟨k + 1, _, O ++ [t], by omega, rfl, by go_num, hE9, by rw [HM.out]; exact own1, by simp only [List.length_append, List.length_singleton]; omega, HST⟩
          case measure => simp [intOf]; omega
        · have hst : (true = false ∧ (O ++ [r]) ++ [t] = T.take (k + 1) ∧ ∀ (j : Nat) (a : RSl), j < k + 1 → T[j]? = some a → ¬ aheadP (keyT r) (keyT a)) ∨ (true = true ∧ ((O ++ [r]) ++ [t]) ++ T.drop (k + 1) = insS keyT r T) := .inr ⟨rfl, by
            rw [HSK.out HB.out.2 (HAB.out.2 rfl), HD.out, HB.out.1]; simp⟩
          have HST := Lib.hid hst
          clear hst
          have hEa := hE2.trans (Ext.alloc Z (.cells #[.slice (some ⟨gr, 0, none⟩) rn rc] 48))
          have hownA := hown2.ext (Ext.alloc Z (.cells #[.slice (some ⟨gr, 0, none⟩) rn rc] 48))
          have hrow := EL.rowOne (E := ptsE) (x := (((some ⟨gr, 0, none⟩), rn, rc) : Sl)) (Box.new Z 48 #[.slice (some ⟨gr, 0, none⟩) rn rc]) rfl
          have hsz := hEa.size
          have hll : (OS).length + ([((some ⟨gr, 0, none⟩), rn, rc)] : List Sl).length ≤ 1000000000 := by
            have := HOL.out
            simp only [List.length_append, List.length_singleton]; omega
          go_upto_region 9 with (at_builtin; refine EL.wpApp ptsE rfl _ _ rfl w.heap.size _ _ (OS) [((some ⟨gr, 0, none⟩), rn, rc)] rfl rfl hownA hrow hll hsz ?_; intro v1 W1 own1 gr1 _; have hE3 := growExt hEa hownA (Nat.le_refl _) gr1; have h0w := hE3.cell HA0.out)
          clear hEa hownA hrow hsz hll hown2 hE2 h0'
          have hEa := hE3.trans (Ext.alloc W1 (.cells #[.slice (some ⟨gt, 0, none⟩) tn tc] 48))
          have hownA := own1.ext (Ext.alloc W1 (.cells #[.slice (some ⟨gt, 0, none⟩) tn tc] 48))
          have hrow := EL.rowOne (E := ptsE) (x := (((some ⟨gt, 0, none⟩), tn, tc) : Sl)) (Box.new W1 48 #[.slice (some ⟨gt, 0, none⟩) tn tc]) rfl
          have hsz := hEa.size
          have hll : (OS ++ ([((some ⟨gr, 0, none⟩), rn, rc)] : List Sl)).length + ([((some ⟨gt, 0, none⟩), tn, tc)] : List Sl).length ≤ 1000000000 := by
            have := HOL.out
            simp only [List.length_append, List.length_singleton]; omega
          go_wp2_with (at_builtin; refine EL.wpApp ptsE rfl _ _ rfl w.heap.size _ _ (OS ++ ([((some ⟨gr, 0, none⟩), rn, rc)] : List Sl)) [((some ⟨gt, 0, none⟩), tn, tc)] rfl rfl hownA hrow hll hsz ?_; intro v2 W2 own2 gr2 _)
          have hE9 := growExt hEa hownA (Nat.le_refl _) gr2
          have HM := Lib.hid (show ((O ++ [r]) ++ [t]).map (fun t : RSl => t.1) = (OS ++ ([((some ⟨gr, 0, none⟩), rn, rc)] : List Sl)) ++ ([((some ⟨gt, 0, none⟩), tn, tc)] : List Sl) from by simp only [List.map_append, List.map_singleton, HOS.out, HRR.out, HTT.out])
          go_roundw
          case rel => exact ⟨k + 1, _, (O ++ [r]) ++ [t], by omega, rfl, by go_num, hE9, by rw [HM.out]; exact own2, by have := HOk.out; simp only [List.length_append, List.length_singleton]; omega, HST⟩
          case measure => simp [intOf]; omega
      · have HB := Lib.hid (show O ++ T.drop k = insS keyT r T from by
          rcases HO.out with h | h
          · exact absurd h.1 (by decide)
          · exact h.2)
        go_wp2_with fail
        apply wp_region_par' 14 (by kernel_rfl) (by kernel_rfl) rfl
        simp only [List.take_succ_cons, List.take_zero, List.drop_succ_cons, List.drop_zero]
        generalize hW : World.drew _ = W
        have hEW : Ext wr W := by rw [← hW]; exact Ext.drew _
        clear hW
        have E0 := fun z : Later W => z.cell (hEW.cell h0)
        iterate 14
          refine parW_step rfl (fun K hK => ?_)
          apply Exists.intro
          refine ⟨fun z => ?_, ?_⟩
          focus
            go_simp
            first
              | rfl
              | fail
          go_simp
          refine hK _ ?_
          clear hK K
        refine parW_end (fun z => ?_)
        have hEz := hEW.later z
        have hE2 := hE.trans hEz
        have h0' := hEz.cell h0
        have hown2 := hown.ext hEz
        clear h0 t0 t1 s0 s1 hown hE
        generalize z.val = Z at *
        clear z hEW hEz
        clear E0
        have hst : (true = false ∧ O ++ [t] = T.take (k + 1) ∧ ∀ (j : Nat) (a : RSl), j < k + 1 → T[j]? = some a → ¬ aheadP (keyT r) (keyT a)) ∨ (true = true ∧ (O ++ [t]) ++ T.drop (k + 1) = insS keyT r T) := .inr ⟨rfl, by rw [← HB.out, HD.out]; simp⟩
        have HST := Lib.hid hst
        clear hst
        have hEa := hE2.trans (Ext.alloc Z (.cells #[.slice (some ⟨gt, 0, none⟩) tn tc] 48))
        have hownA := hown2.ext (Ext.alloc Z (.cells #[.slice (some ⟨gt, 0, none⟩) tn tc] 48))
        have hrow := EL.rowOne (E := ptsE) (x := (((some ⟨gt, 0, none⟩), tn, tc) : Sl)) (Box.new Z 48 #[.slice (some ⟨gt, 0, none⟩) tn tc]) rfl
        have hsz := hEa.size
        have hll : (OS).length + ([((some ⟨gt, 0, none⟩), tn, tc)] : List Sl).length ≤ 1000000000 := by
          have := HOL.out
          simp only [List.length_append, List.length_singleton]; omega
        go_wp2_with (at_builtin; refine EL.wpApp ptsE rfl _ _ rfl w.heap.size _ _ (OS) [((some ⟨gt, 0, none⟩), tn, tc)] rfl rfl hownA hrow hll hsz ?_; intro v1 W1 own1 gr1 _)
        have hE9 := growExt hEa hownA (Nat.le_refl _) gr1
        have HM := Lib.hid (show (O ++ [t]).map (fun t : RSl => t.1) = OS ++ ([((some ⟨gt, 0, none⟩), tn, tc)] : List Sl) from by simp only [List.map_append, List.map_singleton, HOS.out, HRR.out, HTT.out])
        go_roundw
        case rel => exact ⟨k + 1, _, O ++ [t], by omega, rfl, by go_num, hE9, by rw [HM.out]; exact own1, by simp only [List.length_append, List.length_singleton]; omega, HST⟩
        case measure => simp [intOf]; omega
    · have dk : ((k : Int) < (n : Int)) = False := eq_false (by omega)
      have HT0 := Lib.hid (show T.take k = T ∧ T.drop k = [] from ⟨List.take_of_length_le (by rw [HN.out]; omega), List.drop_of_length_le (by rw [HN.out]; omega)⟩)
      cases b
      · have HB := Lib.hid (show O = T ∧ insS keyT r T = T ++ [r] from by
          rcases HO.out with ⟨_, h1, h2⟩ | h
          · rw [HT0.out.1] at h1
            refine ⟨h1, insS_end keyT r T fun b hb => ?_⟩
            obtain ⟨j, hj⟩ := List.mem_iff_getElem?.1 hb
            have := (List.getElem?_eq_some_iff.1 hj).1
            exact h2 j b (by have := HN.out; omega) hj
          · exact absurd h.1 (by decide))
        obtain ⟨OS, hOS⟩ : ∃ OS : List Sl, O.map (fun t => t.1) = OS := ⟨_, rfl⟩
        have HOS := Lib.hid hOS
        have HOL := Lib.hid (show OS.length ≤ k + 1 from by rw [← hOS, List.length_map]; exact hOl)
        rw [hOS] at hown
        clear hOS
        have HM := Lib.hid (show (insS keyT r T).map (fun t : RSl => t.1) = OS ++ ([((some ⟨gr, 0, none⟩), rn, rc)] : List Sl) from by rw [HB.out.2, List.map_append, ← HB.out.1, HOS.out, List.map_singleton, HRR.out])
        have hEa := hE.trans (Ext.alloc wr (.cells #[.slice (some ⟨gr, 0, none⟩) rn rc] 48))
        have hownA := hown.ext (Ext.alloc wr (.cells #[.slice (some ⟨gr, 0, none⟩) rn rc] 48))
        have hrow := EL.rowOne (E := ptsE) (x := (((some ⟨gr, 0, none⟩), rn, rc) : Sl)) (Box.new wr 48 #[.slice (some ⟨gr, 0, none⟩) rn rc]) rfl
        have hsz := hEa.size
        have hll : (OS).length + ([((some ⟨gr, 0, none⟩), rn, rc)] : List Sl).length ≤ 1000000000 := by
          have := HOL.out
          simp only [List.length_append, List.length_singleton]; omega
        go_wp2_with (at_builtin; refine EL.wpApp ptsE rfl _ _ rfl w.heap.size _ _ (OS) [((some ⟨gr, 0, none⟩), rn, rc)] rfl rfl hownA hrow hll hsz ?_; intro v1 W1 own1 gr1 _)
        have hE9 := growExt hEa hownA (Nat.le_refl _) gr1
        exact bodyPost_ret (v := v1) (by simp [results, Tryz.results24, go_sem, List.size_toArray]) rfl ⟨_, rfl, hE9, by rw [HM.out]; exact own1⟩
      · have HB := Lib.hid (show O = insS keyT r T from by
          rcases HO.out with h | h
          · exact absurd h.1 (by decide)
          · rw [← h.2, HT0.out.2, List.append_nil])
        go_wp2
        exact bodyPost_ret (v := u5) (by simp [results, Tryz.results24, go_sem, List.size_toArray]) rfl ⟨_, rfl, hE, by rw [← HB.out]; exact hown⟩
    end Go.Proofs.YtkjpcjmbhpfelaaGreat
