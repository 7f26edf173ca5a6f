/- Outlines of the program: the ring of a cycle. -/
import Derived.Test.YtkjpcjmbhpfelaaGreatZD
set_option linter.unusedVariables false
set_option linter.unusedSimpArgs false
namespace Go.Reg
open Go.Proofs.YtkjpcjmbhpfelaaGreat Go.Par
/-- the direction at a way's end -/
def dirL (d : Nat) (l : List Edg) : Nat := match l.getLast? with | some g => g.2.2.2.2 | none => d
theorem dirL_cons (d : Nat) (f : Edg) (l : List Edg) : dirL d (f :: l) = dirL f.2.2.2.2 l := by
  unfold dirL
  cases l with
  | nil => rfl
  | cons g l => rw [List.getLast?_cons_cons]; cases h : (g :: l).getLast? with
    | none => simp at h
    | some q => rfl
theorem corn_snoc : ∀ (l : List Edg) (d : Nat) (e : Edg), corn d (l ++ [e]) = corn d l ++ (if dirL d l = e.2.2.2.2 then [] else [startC e]) := by
  intro l
  induction l with
  | nil =>
    intro d e
    show corn d [e] = [] ++ (if d = e.2.2.2.2 then [] else [startC e])
    unfold corn
    split <;> rfl
  | cons f l ih =>
    intro d e
    rw [List.cons_append, dirL_cons]
    conv => lhs; unfold corn
    conv => rhs; unfold corn
    split
    · rename_i h
      rw [ih d e, h]
    · rw [ih, List.cons_append]
theorem dirL_prev {c : List Edg} {k : Nat} {g : Edg} (hk : k < c.length) (hg : c[(k + c.length - 1) % c.length]? = some g) : dirL (lastD c) (c.take k) = g.2.2.2.2 := by
  cases k with
  | zero =>
    rw [Nat.zero_add, Nat.mod_eq_of_lt (by omega)] at hg
    rw [List.take_zero]
    show lastD c = _
    exact lastD_of (by rw [List.getLast?_eq_getElem?]; exact hg)
  | succ k =>
    rw [show k + 1 + c.length - 1 = k + c.length by omega, Nat.add_mod_right, Nat.mod_eq_of_lt (by omega)] at hg
    unfold dirL
    rw [take_snocG hg, List.getLast?_append]
    rfl
def ptC (x : Crn) : Int × Int := (x.1, x.2.1)
def LeastAt (K : List Crn) (t : Nat) : Prop := K = [] ∧ t = 0 ∨ ∃ f, K[t]? = some f ∧ ∀ x ∈ K, ¬ aheadP x f
theorem LeastAt.first (q : Crn) : LeastAt ([] ++ [q]) 0 := .inr ⟨q, rfl, fun x hx => by simp at hx; subst hx; unfold aheadP; omega⟩
theorem LeastAt.more {K : List Crn} {t : Nat} {q f : Crn} (h : LeastAt K t) (hf : K[t]? = some f) (hn : ¬ aheadP q f) : LeastAt (K ++ [q]) t := by
  rcases h with ⟨rfl, rfl⟩ | ⟨f', h1, h2⟩
  · simp at hf
  · rw [hf] at h1; injection h1 with h1; subst h1
    refine .inr ⟨f, by rw [List.getElem?_append_left (List.getElem?_eq_some_iff.1 hf).1]; exact hf, fun x hx => ?_⟩
    rcases List.mem_append.1 hx with hx | hx
    · exact h2 x hx
    · rw [List.mem_singleton.1 hx]; exact hn
theorem LeastAt.now {K : List Crn} {t : Nat} {q f : Crn} (h : LeastAt K t) (hf : K[t]? = some f) (hn : aheadP q f) : LeastAt (K ++ [q]) K.length := by
  rcases h with ⟨rfl, rfl⟩ | ⟨f', h1, h2⟩
  · simp at hf
  · rw [hf] at h1; injection h1 with h1; subst h1
    refine .inr ⟨q, by rw [List.getElem?_append_right (Nat.le_refl _), Nat.sub_self]; rfl, fun x hx hxq => ?_⟩
    rcases List.mem_append.1 hx with hx | hx
    · refine h2 x hx ?_
      unfold aheadP at *; omega
    · rw [List.mem_singleton.1 hx] at hxq
      unfold aheadP at hxq; omega
theorem LeastAt.rot {K : List Crn} {t : Nat} (h : LeastAt K t) (ht : t < K.length) : ∀ x ∈ rot t K, ∀ f, (rot t K)[0]? = some f → ¬ aheadP x f := by
  intro x hx f hf
  rw [rot_get ht (by omega), Nat.zero_add, Nat.mod_eq_of_lt ht] at hf
  rcases h with ⟨rfl, _⟩ | ⟨f', h1, h2⟩
  · simp at ht
  · rw [hf] at h1; injection h1 with h1; subst h1
    exact h2 x (rot_mem.1 hx)
theorem befS_ahead (p q : Crn) : (befS (ptC p) (ptC q) < 0) ↔ aheadP p q := by
  unfold befS aheadP ptC
  dsimp only
  split <;> omega
theorem scale_set {α : Type} {l : List α} {k : Nat} {x : α} (f : α → α) (h : l[k]? = some x) : ((l.take k).map f ++ l.drop k).set k (f x) = (l.take (k + 1)).map f ++ l.drop (k + 1) := by
  have hk := (List.getElem?_eq_some_iff.1 h).1
  rw [drop_consG h, take_snocG h, List.set_append_right _ _ (by simp; omega)]
  simp
  rw [show k - min k l.length = 0 by omega]
  rfl
theorem scale_get {α : Type} {l : List α} {k : Nat} (f : α → α) (h : k < l.length) : ((l.take k).map f ++ l.drop k)[k]? = l[k]? := by
  rw [List.getElem?_append_right (by simp; omega), List.length_map, List.length_take, List.getElem?_drop, Nat.min_eq_left (by omega)]
  congr 1; omega
end Go.Reg
namespace Go.Par
open Go.RowKit
/-- append(s[t:n:n], s[:t]...): the row turned, in its own block or in a new one -/
theorem EL.appCut {P : Program} {α : Type} {E : EL P α} {w : World} {B g N cap t : Nat} {l : List α} (ty : TypeId) (h : E.Own w B (.slice (some ⟨g, 0, none⟩) N cap) l) (ht : t < N) (hb : N ≤ 1000000000) :
    ∃ g' c' cz w', (Builtin.append_ #[E.st, E.st] ty #[.slice (some ⟨g, t * E.size, none⟩) (N - t) (N - t), .slice (some ⟨g, 0, none⟩) t cap]).run P w = .ok (.slice (some ⟨g', 0, none⟩) N c') w' ∧ N ≤ c' ∧ Ext w w' ∧ E.Own w' B (.slice (some ⟨g', 0, none⟩) N cz) (l.drop t ++ l.take t) := by
  obtain ⟨i0, hi, hz0, hz1, hz2⟩ := info_parts E.info
  have hlt := h.lt
  have hcell := fun {j : Nat} {x : α} {k : Nat} {v : Value} (a : l[j]? = some x) (b : (E.enc x)[k]? = some v) => h.cell a b
  have hop := h.opened
  obtain ⟨cur, hl, hbg, hg, hcap, hm, hs, hc⟩ := hop
  rcases Nat.eq_zero_or_pos t with h0 | h0
  · subst h0
    refine ⟨g, N, cap, w, ?_, Nat.le_refl _, Ext.refl _, by rw [List.drop_zero, List.take_zero, List.append_nil]; exact h⟩
    simp [Builtin.append_, run_underlying E.und, sizeOf, typeInfo, hi, Builtin.lenOf, Builtin.firstCells, loadCells, loadCellsFrom, storeCells, Result.andThen]
  · have hcells : ∀ (k : Nat) (v : Value), (E.cells l)[k]? = some v → w.cell? ⟨g, k, none⟩ = some v := fun k v hv => by rw [hg.cell]; exact hc k v hv
    have ed : ∀ (j : Nat) (v : Value), (E.cells (l.drop t))[j]? = some v → w.cell? ((⟨g, t * E.size, none⟩ : Addr).add j) = some v := fun j v hv => by
      rw [Addr.add_lit]
      refine hcells _ v ?_
      have e : E.cells l = E.cells (l.take t) ++ E.cells (l.drop t) := by rw [← E.cells_append, List.take_append_drop]
      rw [e, List.getElem?_append_right (by rw [E.cells_length, List.length_take]; have := Nat.mul_le_mul_right E.size (Nat.min_le_left t l.length); omega), E.cells_length, List.length_take, Nat.min_eq_left (by omega)]
      rw [show t * E.size + j - t * E.size = j by omega]
      exact hv
    have et : ∀ (j : Nat) (v : Value), (E.cells (l.take t))[j]? = some v → w.cell? ((⟨g, 0, none⟩ : Addr).add j) = some v := fun j v hv => by
      rw [Addr.add_lit, Nat.zero_add]
      refine hcells _ v ?_
      have e : E.cells l = E.cells (l.take t) ++ E.cells (l.drop t) := by rw [← E.cells_append, List.take_append_drop]
      rw [e, List.getElem?_append_left (List.getElem?_eq_some_iff.1 hv).1]
      exact hv
    have hld : (E.cells (l.drop t)).length = (N - t) * i0.size := by rw [E.cells_length, List.length_drop, ← hl, hz1]
    have hlt' : (E.cells (l.take t)).length = t * i0.size := by rw [E.cells_length, List.length_take, Nat.min_eq_left (by omega), hz1]
    have hsum : N - t + t = N := by omega
    have hbytes : N * i0.bytes ≤ 140737488355328 := by rw [hz2]; exact Nat.le_trans (Nat.mul_le_mul hb E.small) (by decide)
    have hr := run_append_grow (P := P) w E.st ty E.t i0 E.zero E.und hi hz0 ⟨g, t * E.size, none⟩ (N - t) (N - t) (E.cells (l.drop t)) hld ed ⟨g, 0, none⟩ t cap (E.cells (l.take t)) hlt' et (by omega) (by omega) (growslice_fits (by omega) (by rw [hsum]; exact hbytes))
    rw [hsum] at hr
    have hge := grownCap_ge w N (N - t) E.t
    have hcm : grownCap w N (N - t) E.t ≤ maxLen := grownCap_le_maxLen w N (N - t) E.t (by unfold maxLen; omega)
    refine ⟨w.heap.size, _, grownCap w N (N - t) E.t, _, hr, hge, (Ext.drew w).trans (Ext.alloc _ _), EL.Own.mk (cur := (E.cells (l.drop t)).toArray ++ (E.cells (l.take t)).toArray ++ Builtin.zeroCells E.zero.cells (grownCap w N (N - t) E.t - N)) ?_ (by omega) (heap_alloc_new w.drew _) hge hcm ?_ fun j v hv => ?_⟩
    · rw [List.length_append, List.length_drop, List.length_take]; omega
    · simp only [Array.size_append, List.size_toArray, size_zeroCells, E.zsize, hld, hlt', hz1, ← Nat.add_mul]
      congr 1
      omega
    · rw [E.cells_append] at hv
      have hj := (List.getElem?_eq_some_iff.1 hv).1
      rw [Array.getElem?_append_left (by simpa using hj)]
      simpa using hv
end Go.Par
namespace Go.Proofs.YtkjpcjmbhpfelaaGreat
open Go.RowKit Go.Par Go.Reg Go.Maps

theorem tmod_nat {a n : Nat} {x : Int} (h : x = (a : Int)) : x.tmod (n : Int) = ((a % n : Nat) : Int) := by subst h; rfl
theorem emod_nat {a n : Nat} {x : Int} (h : x = (a : Int)) : x % (n : Int) = ((a % n : Nat) : Int) := by subst h; rfl
/-- the ring of a cycle, as it is handed back -/
def RingRes (c : List Edg) (n : Nat) (v : Value) (w' : World) : Prop := ∃ (A' : Option Addr) (m c' t : Nat), v = .slice A' m c' ∧ t < (corn (lastD c) c).length ∧ (rot t (corn (lastD c) c)).length = m ∧ m ≤ n ∧ m ≤ c' ∧
      (∀ x ∈ rot t (corn (lastD c) c), ∀ f, (rot t (corn (lastD c) c))[0]? = some f → ¬ aheadP x f) ∧ ptE.BoxAt w' A' ((rot t (corn (lastD c) c)).map fun x => (x.1 * 256, x.2.1 * 256))
set_option maxRecDepth 100000 in
set_option maxHeartbeats 6400000 in
theorem ring_any (c : List Edg) (A : Option Addr) (n cc : Nat) (w : World) (hn : c.length = n) (hb : n ≤ 10000000) (hA : edgE.At w A c) (hbd : ∀ e ∈ c, (-4096 ≤ e.1 ∧ e.1 ≤ 4096) ∧ (-4096 ≤ e.2.1 ∧ e.2.1 ≤ 4096) ∧ e.2.2.2.2 < 4) (hne : corn (lastD c) c ≠ []) :
    Calls Tryz.prog 16 #[.slice A n cc] w fun e w' => ∃ v, e = .returned v ∧ Ext w w' ∧ RingRes c n v w' := by
  have HN := Lib.hid hn
  have HBD := Lib.hid hbd
  have HNE := Lib.hid hne
  clear hn hbd hne
  go_enter Tryz.func16, Tryz.ntmps16
  go_wp2_with fail
  go_loopw [3, 4, 11] (fun s tt i wr => ∃ (k t : Nat) (K : List Crn), k ≤ n ∧ tt = .int .i64 t ∧ i = .int .i64 k ∧ Ext w wr ∧ ptE.Own wr w.heap.size s (K.map ptC) ∧ K.length ≤ k ∧ Hid (K = corn (lastD c) (c.take k)) ∧ Hid (LeastAt K t)) (fun _ _ i _ => n - (intOf i).toNat)
  case atStart => exact ⟨0, 0, [], Nat.zero_le _, rfl, rfl, Ext.refl _, EL.Own.nil _ _, Nat.le_refl _, Lib.hid rfl, Lib.hid (.inl ⟨rfl, rfl⟩)⟩
  case round =>
    obtain ⟨k, t, K, hk, rfl, rfl, hE, hown, hKk, HK, HL⟩ := hrel
    by_cases hlt : k < n
    · have dk : ((k : Int) < (n : Int)) = True := eq_true (by omega)
      obtain ⟨i, hi⟩ : ∃ i, i = (k + n - 1) % n := ⟨_, rfl⟩
      have hin : i < n := by rw [hi]; exact Nat.mod_lt _ (by omega)
      obtain ⟨⟨a, b, a', b', d⟩, hlk⟩ : ∃ q, c[k]? = some q := ⟨_, List.getElem?_eq_getElem (by rw [HN.out]; exact hlt)⟩
      obtain ⟨⟨u, v, u', v', g⟩, hli⟩ : ∃ q, c[i]? = some q := ⟨_, List.getElem?_eq_getElem (by rw [HN.out]; exact hin)⟩
      have hdp := dirL_prev (c := c) (k := k) (g := (u, v, u', v', g)) (by rw [HN.out]; exact hlt) (by rw [HN.out, ← hi]; exact hli)
      have HSN := Lib.hid (show corn (lastD c) (c.take (k + 1)) = K ++ (if g = d then [] else [(a, b, d)]) from by rw [take_snocG hlk, corn_snoc, hdp, HK.out]; rfl)
      obtain ⟨ba, bb, bd⟩ := HBD.out _ (List.mem_of_getElem? hlk)
      dsimp only at ba bb bd
      obtain ⟨bA, oA, rfl⟩ := hA.addr hlk
      obtain ⟨e0, e1, e2, e3, e4⟩ := edg_cell hA hlk
      obtain ⟨f0, f1, f2, f3, f4⟩ := edg_cell hA hli
      dsimp only at e0 e1 e2 e3 e4 f0 f1 f2 f3 f4
      replace e0 := hE.cell e0
      replace e1 := hE.cell e1
      replace e2 := hE.cell e2
      replace e3 := hE.cell e3
      replace e4 := hE.cell e4
      replace f0 := hE.cell f0
      replace f1 := hE.cell f1
      replace f2 := hE.cell f2
      replace f3 := hE.cell f3
      replace f4 := hE.cell f4
      have m1 := tmod_nat (a := k + n - 1) (n := n) (x := (k : Int) + n - 1) (by omega)
      have m2 := emod_nat (a := k + n - 1) (n := n) (x := (k : Int) + n - 1) (by omega)
      rw [← hi] at m1 m2
      have q3 : ¬ n = 0 := by omega
      have w1 : IntKind.i64.wrap ((k : Int) + (n : Int)) = (k : Int) + n := IntWalk.i64_in _ (by omega)
      have w2 : IntKind.i64.wrap ((k : Int) + (n : Int) - 1) = (k : Int) + n - 1 := IntWalk.i64_in _ (by omega)
      clear hlk hli hdp hi
      have hEa := (hE.trans (Ext.alloc wr (.cells #[.int .i64 a, .int .i64 b, .int .i64 a', .int .i64 b', .int .i64 (d : Int)] 44))).trans (Ext.alloc _ (.cells #[.int .i64 u, .int .i64 v, .int .i64 u', .int .i64 v', .int .i64 (g : Int)] 44))
      have hownA := (hown.ext (Ext.alloc wr (.cells #[.int .i64 a, .int .i64 b, .int .i64 a', .int .i64 b', .int .i64 (d : Int)] 44))).ext (Ext.alloc _ (.cells #[.int .i64 u, .int .i64 v, .int .i64 u', .int .i64 v', .int .i64 (g : Int)] 44))
      by_cases hgd : g = d
      · subst hgd
        have HX := Lib.hid (show K = corn (lastD c) (c.take (k + 1)) from by rw [HSN.out, if_pos rfl, List.append_nil])
        have d1 : ((g : Int) == (g : Int)) = true := by simp
        clear hown
        go_wp2
        go_roundw
        case rel => exact ⟨k + 1, t, K, by omega, rfl, by go_num, hEa, hownA, by omega, HX, HL⟩
        case measure => simp [intOf]; omega
      · have HX := Lib.hid (show K ++ [(a, b, d)] = corn (lastD c) (c.take (k + 1)) from by rw [HSN.out, if_neg hgd])
        have d1 : ((g : Int) == (d : Int)) = false := by simp; omega
        have b6 := (Box.new wr 44 #[.int .i64 a, .int .i64 b, .int .i64 a', .int .i64 b', .int .i64 (d : Int)]).alloc (.cells #[.int .i64 u, .int .i64 v, .int .i64 u', .int .i64 v', .int .i64 (g : Int)] 44)
        have c6 := b6.cell
        have hll : (K.map ptC).length + ([ptC (a, b, d)] : List (Int × Int)).length ≤ 1000000000 := by simp; omega
        have hmp : K.map ptC ++ [ptC (a, b, d)] = (K ++ [(a, b, d)]).map ptC := by simp
        have HMP := Lib.hid hmp
        obtain ⟨B6, hB6⟩ : ∃ B6, wr.heap.size = B6 := ⟨_, rfl⟩
        rw [hB6] at b6 c6
        clear hown hgd hmp
        rcases List.eq_nil_or_concat K with e | ⟨K', f', e⟩
        · subst e
          have HL2 := Lib.hid (show LeastAt ([] ++ [(a, b, d)]) t from by
            rcases HL.out with ⟨_, rfl⟩ | ⟨f, h1, _⟩
            · exact LeastAt.first _
            · simp at h1)
          have hmn : ([] : List Crn).map ptC = [] := rfl
          rw [hmn] at hownA hll HMP
          have hown0 := hownA
          obtain ⟨A6, c8, rfl, _, _⟩ := hownA.len
          clear hmn
          go_wp2_with fail
          clear hB6
          apply wp_region_par' 13 (by kernel_rfl) (by kernel_rfl) rfl
          simp only [List.take_succ_cons, List.take_zero, List.drop_succ_cons, List.drop_zero]
          generalize hW : World.drew _ = W
          have hEW : Ext ((wr.alloc (.cells #[.int .i64 a, .int .i64 b, .int .i64 a', .int .i64 b', .int .i64 (d : Int)] 44)).alloc (.cells #[.int .i64 u, .int .i64 v, .int .i64 u', .int .i64 v', .int .i64 (g : Int)] 44)) W := by rw [← hW]; exact Ext.drew _
          clear hW c6
          iterate 13
            refine parW_step rfl (fun K hK => ?_)
            apply Exists.intro
            refine ⟨fun z => ?_, ?_⟩
            focus
              go_simp
              first
                | rfl
                | fail
            go_simp
            refine hK _ ?_
            clear hK K
          refine parW_end (fun z => ?_)
          have hEz := hEW.later z
          replace hEa := hEa.trans hEz
          replace hown0 := hown0.ext hEz
          replace b6 := b6.ext hEz
          clear hEz hEW hownA
          generalize z.val = Z at *
          clear z
          have c6 := b6.cell
          have hEb := hEa.trans (Ext.alloc Z (.cells #[.int .i64 a, .int .i64 b] 42))
          have hownB := hown0.ext (Ext.alloc Z (.cells #[.int .i64 a, .int .i64 b] 42))
          have hrow := EL.rowOne (E := ptE) (x := ptC (a, b, d)) (Box.new Z 42 #[.int .i64 a, .int .i64 b]) rfl
          have hsz := hEb.size
          clear hown0
          go_wp2_with (at_builtin; refine EL.wpApp ptE rfl _ _ rfl w.heap.size _ _ [] [ptC (a, b, d)] rfl rfl hownB hrow hll hsz ?_; intro v1 W1 own1 gr1 _)
          have hE2 := growExt hEb hownB (Nat.le_refl _) gr1
          go_roundw
          case rel => exact ⟨k + 1, t, _, by omega, rfl, by go_num, hE2, by rw [← HMP.out]; exact own1, by simp, HX, HL2⟩
          case measure => simp [intOf]; omega
        · rw [List.concat_eq_append] at e
          obtain ⟨⟨p, q, r⟩, hf, hfl⟩ : ∃ f, K[t]? = some f ∧ t < K.length := by
            rcases HL.out with ⟨e', _⟩ | ⟨f, h1, _⟩
            · rw [e'] at e; simp at e
            · exact ⟨f, h1, (List.getElem?_eq_some_iff.1 h1).1⟩
          obtain ⟨j, ej, hj, hjm⟩ : ∃ (j : Nat) (ej : Edg), c[j]? = some ej ∧ startC ej = (p, q, r) := by
            have h1 := List.mem_of_getElem? hf
            rw [HK.out] at h1
            obtain ⟨ej, h2, h3⟩ := List.mem_map.1 ((corn_sub _ _).subset h1)
            obtain ⟨j, hj⟩ := List.mem_iff_getElem?.1 (List.mem_of_mem_take h2)
            exact ⟨j, ej, hj, h3⟩
          obtain ⟨bp, bq, _⟩ := HBD.out _ (List.mem_of_getElem? hj)
          simp only [startC, Prod.mk.injEq] at hjm
          rw [hjm.1] at bp
          rw [hjm.2.1] at bq
          have HLN := Lib.hid (fun h => LeastAt.now (q := (a, b, d)) HL.out hf h)
          have HLM := Lib.hid (fun h => LeastAt.more (q := (a, b, d)) HL.out hf h)
          have HBA := Lib.hid (befS_ahead (a, b, d) (p, q, r))
          have HBF := Lib.hid (fun W => (before_any a b p q W (by omega)).mono (R' := fun e w' => e = .returned (.int .i64 (befS (ptC (a, b, d)) (ptC (p, q, r)))) ∧ Ext W w') fun e w' h => ⟨h.1, h.2.1⟩)
          generalize befS (ptC (a, b, d)) (ptC (p, q, r)) = bf at *
          have hown0 := hownA
          obtain ⟨gg, cap, rfl, hgB, hcap⟩ := hown0.head (by rw [List.length_map]; omega)
          obtain ⟨N, hN⟩ : ∃ N, K.length = N := ⟨_, rfl⟩
          have hNl : (K.map ptC).length = N := by rw [List.length_map, hN]
          have hkm : (K.map ptC)[t]? = some (p, q) := by rw [List.getElem?_map, hf]; rfl
          have y0 := hown0.cell (j := 0) hkm rfl
          have y1 := hown0.cell (j := 1) hkm rfl
          rw [show ptE.size = 2 from rfl] at y0 y1
          rw [hNl] at hown0 hcap hll ⊢
          rw [hN] at hfl hKk HLN
          have g1 : 0 < N := by omega
          have g2 : (0 : Int) ≤ (t : Int) := by omega
          have g3 : (t : Int) < (N : Int) := by omega
          have HN2 := Lib.hid hN
          rw [Nat.add_zero] at y0
          obtain ⟨lb, hlb⟩ : ∃ lb, decide (bf < 0) = lb := ⟨_, rfl⟩
          have HLB := Lib.hid hlb
          clear hf hj hjm hkm hNl hownA e bp bq hN
          go_wp2_with fail
          clear hB6
          apply wp_region_par' 13 (by kernel_rfl) (by kernel_rfl) rfl
          simp only [List.take_succ_cons, List.take_zero, List.drop_succ_cons, List.drop_zero]
          generalize hW : World.drew _ = W
          have hEW : Ext ((wr.alloc (.cells #[.int .i64 a, .int .i64 b, .int .i64 a', .int .i64 b', .int .i64 (d : Int)] 44)).alloc (.cells #[.int .i64 u, .int .i64 v, .int .i64 u', .int .i64 v', .int .i64 (g : Int)] 44)) W := by rw [← hW]; exact Ext.drew _
          clear hW c6
          have c6 := (b6.ext hEW).lcell
          have z0 := fun z : Later W => z.cell (hEW.cell y0)
          have z1 := fun z : Later W => z.cell (hEW.cell y1)
          iterate 13
            refine parW_step rfl (fun K hK => ?_)
            apply Exists.intro
            refine ⟨fun z => ?_, ?_⟩
            focus
              go_simp
              first
                | rfl
                | with_reducible exact calls_val (HBF.out _)
            go_simp
            refine hK _ ?_
            clear hK K
          refine parW_end (fun z => ?_)
          have hEz := hEW.later z
          replace hEa := hEa.trans hEz
          replace hown0 := hown0.ext hEz
          replace b6 := b6.ext hEz
          clear hEz hEW z0 z1 c6 y0 y1
          generalize z.val = Z at *
          clear z
          have c6 := b6.cell
          have hEb := hEa.trans (Ext.alloc Z (.cells #[.int .i64 a, .int .i64 b] 42))
          have hownB := hown0.ext (Ext.alloc Z (.cells #[.int .i64 a, .int .i64 b] 42))
          have hrow := EL.rowOne (E := ptE) (x := ptC (a, b, d)) (Box.new Z 42 #[.int .i64 a, .int .i64 b]) rfl
          have hsz := hEb.size
          clear hown0
          clear hlb
          cases lb
          rotate_left
          · have hbf := of_decide_eq_true HLB.out
            have HL2 := Lib.hid (HLN.out (HBA.out.1 hbf))
            have hll' : (K.map ptC).length + ([ptC (a, b, d)] : List (Int × Int)).length ≤ 1000000000 := by rw [List.length_map, HN2.out]; exact hll
            have HLL := Lib.hid hll'
            clear hbf hll'
            go_wp2_with (at_builtin; refine EL.wpApp ptE rfl _ _ rfl w.heap.size _ _ (K.map ptC) [ptC (a, b, d)] rfl rfl hownB hrow HLL.out hsz ?_; intro v1 W1 own1 gr1 _)
            have hE2 := growExt hEb hownB (Nat.le_refl _) gr1
            go_roundw
            case rel => exact ⟨k + 1, N, _, by omega, rfl, by go_num, hE2, by rw [← HMP.out]; exact own1, by rw [List.length_append, HN2.out]; simp; omega, HX, HL2⟩
            case measure => simp [intOf]; omega
          · have hbf := of_decide_eq_false HLB.out
            have HL2 := Lib.hid (HLM.out (fun h => hbf (HBA.out.2 h)))
            have hll' : (K.map ptC).length + ([ptC (a, b, d)] : List (Int × Int)).length ≤ 1000000000 := by rw [List.length_map, HN2.out]; exact hll
            have HLL := Lib.hid hll'
            clear hbf hll'
            go_wp2_with (at_builtin; refine EL.wpApp ptE rfl _ _ rfl w.heap.size _ _ (K.map ptC) [ptC (a, b, d)] rfl rfl hownB hrow HLL.out hsz ?_; intro v1 W1 own1 gr1 _)
            have hE2 := growExt hEb hownB (Nat.le_refl _) gr1
            go_roundw
            case rel => exact ⟨k + 1, t, _, by omega, rfl, by go_num, hE2, by rw [← HMP.out]; exact own1, by rw [List.length_append, HN2.out]; simp; omega, HX, HL2⟩
            case measure => simp [intOf]; omega
    · have dk : ((k : Int) < (n : Int)) = False := eq_false (by omega)
      have hKe : K = corn (lastD c) c := by rw [HK.out, List.take_of_length_le (by rw [HN.out]; omega)]
      obtain ⟨N, hN⟩ : ∃ N, K.length = N := ⟨_, rfl⟩
      have hN0 : 0 < N := by rw [← hN, hKe]; exact List.length_pos_iff.2 HNE.out
      have htN : t < N := by
        rcases HL.out with ⟨e, _⟩ | ⟨f, h1, _⟩
        · rw [e] at hN; simp at hN; omega
        · rw [← hN]; exact (List.getElem?_eq_some_iff.1 h1).1
      have hNb : N ≤ 10000000 := by omega
      obtain ⟨g, cap, rfl, hgB, hcap⟩ := hown.head (by rw [List.length_map, hN]; exact hN0)
      rw [List.length_map, hN] at hown hcap ⊢
      have HLR := Lib.hid (HL.out.rot (by rw [hN]; exact htN))
      have hRm : (K.map ptC).drop t ++ (K.map ptC).take t = (rot t K).map ptC := by unfold rot; rw [List.map_append, List.map_drop, List.map_take]
      have HRM := Lib.hid hRm
      have HRL := Lib.hid (show (rot t K).length = N by rw [rot_length (by omega), hN])
      have HBR := Lib.hid (show ∀ x ∈ rot t K, (-4096 ≤ x.1 ∧ x.1 ≤ 4096) ∧ (-4096 ≤ x.2.1 ∧ x.2.1 ≤ 4096) from fun x hx => by
        have h1 := rot_mem.1 hx
        rw [hKe] at h1
        obtain ⟨ej, h2, h3⟩ := List.mem_map.1 ((corn_sub _ _).subset h1)
        obtain ⟨a1, a2, _⟩ := HBD.out _ h2
        rw [← h3]
        exact ⟨a1, a2⟩)
      have HKE := Lib.hid hKe
      have HKN := Lib.hid hN
      generalize hR : rot t K = R at *
      have HR := Lib.hid hR
      clear hRm hN hKe hR
      have s1 : (0 : Int) ≤ (t : Int) := by omega
      have s2 : (t : Int) ≤ (N : Int) := by omega
      have s3 : (N : Int) ≤ (cap : Int) := by omega
      have s4 : ¬ N = t := by omega
      have s5 : ((N : Int) - (t : Int)).toNat = N - t := by omega
      have s6 : (t : Int) ≤ (cap : Int) := by omega
      go_wp2_with fail
      apply wp_region_par' 10 (by kernel_rfl) (by kernel_rfl) rfl
      simp only [List.take_succ_cons, List.take_zero, List.drop_succ_cons, List.drop_zero]
      generalize hW : World.drew _ = W
      have hEW : Ext wr W := by rw [← hW]; exact Ext.drew _
      clear hW
      iterate 10
        refine parW_step rfl (fun K hK => ?_)
        apply Exists.intro
        refine ⟨fun z => ?_, ?_⟩
        focus
          go_simp
          first
            | rfl
            | fail
        go_simp
        refine hK _ ?_
        clear hK K
      refine parW_end (fun z => ?_)
      have hEz := hEW.later z
      replace hE := hE.trans hEz
      replace hown := hown.ext hEz
      clear hEz hEW
      generalize z.val = Z at *
      clear z
      obtain ⟨g', c', cz, w', hr, hc', hE', own'⟩ := EL.appCut (E := ptE) (t := t) 48 hown htN (by omega)
      rw [HRM.out] at own'
      rw [show ptE.size = 2 from rfl] at hr
      replace hE := hE.trans hE'
      go_wp2_with (at_builtin; refine Lib.wpList_append_run _ rfl _ _ _ _ rfl _ _ rfl rfl _ _ hr ?_)
      have hgB' : w.heap.size ≤ g' := by obtain ⟨_, _, h, _⟩ := own'.opened; exact h
      have htN' := htN
      clear hr s1 s2 s3 s4 s5 s6 htN hE' hcap
      go_loopw [66] (fun i wz => ∃ j : Nat, j ≤ N ∧ i = .int .i64 j ∧ Ext w wz ∧ ptE.Own wz w.heap.size (.slice (some ⟨g', 0, none⟩) N cz) (((R.map ptC).take j).map (fun p : Int × Int => (p.1 * 256, p.2 * 256)) ++ (R.map ptC).drop j)) (fun i _ => N - (intOf i).toNat)
      case atStart => exact ⟨0, Nat.zero_le _, rfl, hE, by rw [List.take_zero, List.map_nil, List.nil_append, List.drop_zero]; exact own'⟩
      case round =>
        clear hE own'
        obtain ⟨j, hj, rfl, hE, hown⟩ := hrel
        by_cases hlt2 : j < N
        · have dj : ((j : Int) < (N : Int)) = True := eq_true (by omega)
          obtain ⟨⟨p, q, r⟩, hp⟩ : ∃ x, R[j]? = some x := ⟨_, List.getElem?_eq_getElem (by rw [HRL.out]; exact hlt2)⟩
          obtain ⟨bp, bq⟩ := HBR.out _ (List.mem_of_getElem? hp)
          dsimp only at bp bq
          have hpm : (R.map ptC)[j]? = some (p, q) := by rw [List.getElem?_map, hp]; rfl
          have hgt := (scale_get (fun p : Int × Int => (p.1 * 256, p.2 * 256)) (List.getElem?_eq_some_iff.1 hpm).1).trans hpm
          have HST := Lib.hid (scale_set (fun p : Int × Int => (p.1 * 256, p.2 * 256)) hpm)
          generalize ((R.map ptC).take j).map (fun p : Int × Int => (p.1 * 256, p.2 * 256)) ++ (R.map ptC).drop j = L at *
          have y0 := hown.cell (j := 0) hgt rfl
          have y1 := hown.cell (j := 1) hgt rfl
          rw [show ptE.size = 2 from rfl] at y0 y1
          rw [Nat.add_zero] at y0
          have q1 : IntKind.i64.wrap (p * 256) = p * 256 := IntWalk.i64_in _ (by omega)
          have q2 : IntKind.i64.wrap (q * 256) = q * 256 := IntWalk.i64_in _ (by omega)
          have HG := Lib.hid hgt
          clear hgt hpm hp
          go_wp2_with fail
          apply wp_region_par' 15 (by kernel_rfl) (by kernel_rfl) rfl
          simp only [List.take_succ_cons, List.take_zero, List.drop_succ_cons, List.drop_zero]
          generalize hW : World.drew _ = W
          have hEW : Ext wr W := by rw [← hW]; exact Ext.drew _
          clear hW
          have z0 := fun z : Later W => z.cell (hEW.cell y0)
          have z1 := fun z : Later W => z.cell (hEW.cell y1)
          iterate 15
            refine parW_step rfl (fun K hK => ?_)
            apply Exists.intro
            refine ⟨fun z => ?_, ?_⟩
            focus
              go_simp
              first
                | rfl
                | fail
            go_simp
            refine hK _ ?_
            clear hK K
          refine parW_end (fun z => ?_)
          have hEz := hEW.later z
          replace hE := hE.trans hEz
          replace hown := hown.ext hEz
          replace y0 := hEz.cell y0
          replace y1 := hEz.cell y1
          clear hEz hEW z0 z1
          generalize z.val = Z at *
          clear z
          have hs1 := hown.setAt (j := 0) (y := (p * 256, q)) (v := .int .i64 (p * 256)) HG.out (by decide) rfl
          have hs2 := hs1.setAt (i := j) (j := 1) (x := (p * 256, q)) (y := (p * 256, q * 256)) (v := .int .i64 (q * 256)) (by rw [List.getElem?_set_self (List.getElem?_eq_some_iff.1 HG.out).1]) (by decide) rfl
          rw [List.set_set, HST.out] at hs2
          rw [show ptE.size = 2 from rfl, Nat.add_zero] at hs2
          have hE3 := (hE.setNew (b := g') hgB' (j * 2) (.int .i64 (p * 256))).setNew (b := g') hgB' (j * 2 + 1) (.int .i64 (q * 256))
          have fz := fun i => hown.frozen (i := i)
          have HS2 := Lib.hid hs2
          clear hs1 hs2 hown
          go_wp2
          go_roundw
          case rel => exact ⟨j + 1, by omega, by go_num, hE3, HS2.out⟩
          case measure => simp [intOf]; omega
        · have dj : ((j : Int) < (N : Int)) = False := eq_false (by omega)
          have HFIN := Lib.hid (show ((R.map ptC).take j).map (fun p : Int × Int => (p.1 * 256, p.2 * 256)) ++ (R.map ptC).drop j = R.map fun x => (x.1 * 256, x.2.1 * 256) from by
            rw [List.take_of_length_le (by rw [List.length_map, HRL.out]; omega), List.drop_eq_nil_of_le (by rw [List.length_map, HRL.out]; omega), List.append_nil, List.map_map]
            rfl)
          rw [HFIN.out] at hown
          have hbx := EL.BoxAt.of_own hown
          have hNn : N ≤ n := by rw [← HKN.out]; omega
          have HRES := Lib.hid (show t < (corn (lastD c) c).length ∧ rot t (corn (lastD c) c) = R from ⟨by rw [← HKE.out, HKN.out]; exact htN', by rw [← HKE.out]; exact HR.out⟩)
          go_wp2
          go_ret
          exact ⟨_, rfl, hE, _, N, c', t, rfl, HRES.out.1, by rw [HRES.out.2]; exact HRL.out, hNn, hc', by rw [HRES.out.2]; exact HLR.out, by rw [HRES.out.2]; exact hbx⟩
end Go.Proofs.YtkjpcjmbhpfelaaGreat
