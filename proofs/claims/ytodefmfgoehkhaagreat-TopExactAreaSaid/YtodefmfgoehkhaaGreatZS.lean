/- Texts put together: TyD, TyE. -/
import Derived.Test.YtodefmfgoehkhaaGreatZR
import Derived.BigRegion
/- scanline: rows of spans and of marks; the orders by which they are sorted. -/
set_option linter.unusedVariables false
set_option linter.unusedSimpArgs false
namespace Go.Proofs.YtodefmfgoehkhaaGreat
open Go.RowKit Go.Par Go.TN
open Go.TA (E2 Mk leM Sp)

abbrev SpR := RQ × RQ
abbrev MkR := RQ × Int
def spE : EL Tryz.prog SpR where
  enc := fun x => [.bool x.1.b, .slice x.1.A x.1.n x.1.c, .bool x.1.b', .slice x.1.A' x.1.n' x.1.c', .bool x.2.b, .slice x.2.A x.2.n x.2.c, .bool x.2.b', .slice x.2.A' x.2.n' x.2.c']
  size := 8
  t := 106
  st := 78
  zero := .agg #[.bool false, .slice none 0 0, .bool false, .slice none 0 0, .bool false, .slice none 0 0, .bool false, .slice none 0 0]
  bytes := 128
  len := fun _ => rfl
  one := fun x v hv => by simp at hv; rcases hv with rfl | rfl | rfl | rfl | rfl | rfl | rfl | rfl <;> rfl
  pos := by decide
  und := Tryz.underlying78
  info := by kernel_rfl
  zsize := rfl
  small := by decide
def mkE : EL Tryz.prog MkR where
  enc := fun x => [.bool x.1.b, .slice x.1.A x.1.n x.1.c, .bool x.1.b', .slice x.1.A' x.1.n' x.1.c', .int .i64 x.2]
  size := 5
  t := 110
  st := 107
  zero := .agg #[.bool false, .slice none 0 0, .bool false, .slice none 0 0, .int .i64 0]
  bytes := 72
  len := fun _ => rfl
  one := fun x v hv => by simp at hv; rcases hv with rfl | rfl | rfl | rfl | rfl <;> rfl
  pos := by decide
  und := Tryz.underlying107
  info := by kernel_rfl
  zsize := rfl
  small := by decide
theorem spE_clean : Clean spE := ⟨fun x u hu d => by simp [spE] at hu; rcases hu with rfl | rfl | rfl | rfl | rfl | rfl | rfl | rfl <;> simp, fun u hu d e => by subst e; simp [spE, Value.cells] at hu⟩
theorem mkE_clean : Clean mkE := ⟨fun x u hu d => by simp [mkE] at hu; rcases hu with rfl | rfl | rfl | rfl | rfl <;> simp, fun u hu d e => by subst e; simp [mkE, Value.cells] at hu⟩
theorem sp_one {w : World} {b : Nat} (x : SpR) (h : Box w b 106 #[.bool x.1.b, .slice x.1.A x.1.n x.1.c, .bool x.1.b', .slice x.1.A' x.1.n' x.1.c', .bool x.2.b, .slice x.2.A x.2.n x.2.c, .bool x.2.b', .slice x.2.A' x.2.n' x.2.c']) : spE.Row w (.slice (some ⟨b, 0, none⟩) 1 1) [x] :=
  ⟨_, _, rfl, Nat.le_refl _, (by simp), EL.At.box h fun j v hv => by simpa [EL.cells, spE] using hv⟩
theorem mk_one {w : World} {b : Nat} (x : MkR) (h : Box w b 110 #[.bool x.1.b, .slice x.1.A x.1.n x.1.c, .bool x.1.b', .slice x.1.A' x.1.n' x.1.c', .int .i64 x.2]) : mkE.Row w (.slice (some ⟨b, 0, none⟩) 1 1) [x] :=
  ⟨_, _, rfl, Nat.le_refl _, (by simp), EL.At.box h fun j v hv => by simpa [EL.cells, mkE] using hv⟩
/-- the cells of one element -/
theorem at8 {w : World} {b o k : Nat} {l : List SpR} {x : SpR} (hc : ∀ i x, l[i]? = some x → ∀ j v, (spE.enc x)[j]? = some v → w.cell? ⟨b, o + i * spE.size + j, none⟩ = some v) (hx : l[k]? = some x) :
    (w.cell? ⟨b, o + k * 8, none⟩ = some (.bool x.1.b) ∧ w.cell? ⟨b, o + k * 8 + 1, none⟩ = some (.slice x.1.A x.1.n x.1.c) ∧ w.cell? ⟨b, o + k * 8 + 2, none⟩ = some (.bool x.1.b') ∧ w.cell? ⟨b, o + k * 8 + 3, none⟩ = some (.slice x.1.A' x.1.n' x.1.c')) ∧
    (w.cell? ⟨b, o + k * 8 + 4, none⟩ = some (.bool x.2.b) ∧ w.cell? ⟨b, o + k * 8 + 5, none⟩ = some (.slice x.2.A x.2.n x.2.c) ∧ w.cell? ⟨b, o + k * 8 + 6, none⟩ = some (.bool x.2.b') ∧ w.cell? ⟨b, o + k * 8 + 7, none⟩ = some (.slice x.2.A' x.2.n' x.2.c')) :=
  ⟨⟨hc k x hx 0 _ rfl, hc k x hx 1 _ rfl, hc k x hx 2 _ rfl, hc k x hx 3 _ rfl⟩, hc k x hx 4 _ rfl, hc k x hx 5 _ rfl, hc k x hx 6 _ rfl, hc k x hx 7 _ rfl⟩
theorem at5 {w : World} {b o k : Nat} {l : List MkR} {x : MkR} (hc : ∀ i x, l[i]? = some x → ∀ j v, (mkE.enc x)[j]? = some v → w.cell? ⟨b, o + i * mkE.size + j, none⟩ = some v) (hx : l[k]? = some x) :
    w.cell? ⟨b, o + k * 5, none⟩ = some (.bool x.1.b) ∧ w.cell? ⟨b, o + k * 5 + 1, none⟩ = some (.slice x.1.A x.1.n x.1.c) ∧ w.cell? ⟨b, o + k * 5 + 2, none⟩ = some (.bool x.1.b') ∧ w.cell? ⟨b, o + k * 5 + 3, none⟩ = some (.slice x.1.A' x.1.n' x.1.c') ∧ w.cell? ⟨b, o + k * 5 + 4, none⟩ = some (.int .i64 x.2) :=
  ⟨hc k x hx 0 _ rfl, hc k x hx 1 _ rfl, hc k x hx 2 _ rfl, hc k x hx 3 _ rfl, hc k x hx 4 _ rfl⟩
/-! ## the orders -/
set_option maxHeartbeats 400000 in
theorem spCmp_any {w : World} {k : Nat} {x y : SpR} (hx : x.1.At w) (hy : y.1.At w) (s1 : Sz k x.1.q) (s2 : Sz k y.1.q) (hk : k ≤ 1000000) :
    Calls Tryz.prog 92 #[.agg (spE.enc x).toArray, .agg (spE.enc y).toArray] w fun e w' => e = .returned (.int .i64 (cmpQ x.1.q y.1.q)) ∧ Ext w w' := by
  have H := Lib.hid (fun W (hE : Ext w W) => cmpR (hx.ext hE).rv (hy.ext hE).rv s1 s2 (by omega))
  generalize cmpQ x.1.q y.1.q = r at *
  clear hx hy s1 s2 hk
  show Calls Tryz.prog 92 #[.agg #[.bool x.1.b, .slice x.1.A x.1.n x.1.c, .bool x.1.b', .slice x.1.A' x.1.n' x.1.c', .bool x.2.b, .slice x.2.A x.2.n x.2.c, .bool x.2.b', .slice x.2.A' x.2.n' x.2.c'], .agg #[.bool y.1.b, .slice y.1.A y.1.n y.1.c, .bool y.1.b', .slice y.1.A' y.1.n' y.1.c', .bool y.2.b, .slice y.2.A y.2.n y.2.c, .bool y.2.b', .slice y.2.A' y.2.n' y.2.c']] w _
  go_enter Tryz.func92, Tryz.ntmps92
  go_wp2_with fail
  refine (H.out _ ((Ext.alloc _ _).trans (Ext.alloc _ _))).mono ?_
  rintro e w1 ⟨rfl, hE⟩
  go_wp2
  go_ret
  exact ⟨rfl, ((Ext.alloc _ _).trans (Ext.alloc _ _)).trans hE⟩
set_option maxHeartbeats 400000 in
theorem cmpOr_any {w : World} {b : Nat} {c1 c2 : Int} (h : Box w b 3 #[.int .i64 c1, .int .i64 c2]) :
    Calls Tryz.prog 96 #[.slice (some ⟨b, 0, none⟩) 2 2] w fun e w' => e = .returned (.int .i64 (if c1 = 0 then c2 else c1)) ∧ w = w' := by
  have c := h.cell
  clear h
  go_enter Tryz.func96, Tryz.ntmps96
  go_wp2_with fail
  go_loopw [5, 8] (fun _ i wr => ∃ k : Nat, k ≤ 2 ∧ i = .int .i64 k ∧ wr = w ∧ (1 ≤ k → c1 = 0) ∧ (2 ≤ k → c2 = 0)) (fun _ i _ => 2 - (intOf i).toNat)
  case atStart => exact ⟨0, by omega, rfl, rfl, fun h => by omega, fun h => by omega⟩
  case round =>
    obtain ⟨k, hk, rfl, rfl, h1, h2⟩ := hrel
    obtain h | h | h : k = 0 ∨ k = 1 ∨ k = 2 := by omega
    · subst h
      by_cases hc : c1 = 0
      · subst hc
        clear h1 h2
        go_wp2_with fail
        go_roundw
        case rel => exact ⟨1, by omega, by go_num, trivial, fun _ => trivial, fun h => by omega⟩
        case measure => simp [intOf]
      · have HR := Lib.hid (show (if c1 = 0 then c2 else c1) = c1 from if_neg hc)
        have d0 : (c1 == 0) = false := by simp [hc]
        clear h1 h2
        go_wp2_with fail
        go_ret
        exact ⟨rfl, rfl⟩
    · subst h
      have hc1 := h1 (by omega)
      subst hc1
      by_cases hc : c2 = 0
      · subst hc
        clear h1 h2
        go_wp2_with fail
        go_roundw
        case rel => exact ⟨2, by omega, by go_num, trivial, fun _ => trivial, fun _ => trivial⟩
        case measure => simp [intOf]
      · have d0 : (c2 == 0) = false := by simp [hc]
        clear h1 h2
        go_wp2_with fail
        go_ret
        exact ⟨ret_eq (by simp), rfl⟩
    · subst h
      have hc1 := h1 (by omega)
      have hc2 := h2 (by omega)
      subst hc1 hc2
      clear h1 h2
      go_wp2_with fail
      go_ret
      exact ⟨ret_eq (by simp), rfl⟩
def cfM (x y : MkR) : Int := if cmpQ x.1.q y.1.q = 0 then cmpJ y.2 x.2 else cmpQ x.1.q y.1.q
set_option maxHeartbeats 800000 in
theorem mkCmp_any {w : World} {k : Nat} {x y : MkR} (hx : x.1.At w) (hy : y.1.At w) (s1 : Sz k x.1.q) (s2 : Sz k y.1.q) (hk : k ≤ 1000000) :
    Calls Tryz.prog 95 #[.agg (mkE.enc x).toArray, .agg (mkE.enc y).toArray] w fun e w' => e = .returned (.int .i64 (cfM x y)) ∧ Ext w w' := by
  have H := Lib.hid (fun W (hE : Ext w W) => cmpR (hx.ext hE).rv (hy.ext hE).rv s1 s2 (by omega))
  have HCF := Lib.hid (show cfM x y = if cmpQ x.1.q y.1.q = 0 then cmpJ y.2 x.2 else cmpQ x.1.q y.1.q from rfl)
  have HJ := Lib.hid (fun W => Compare_any y.2 x.2 W)
  generalize cfM x y = cv at *
  generalize cmpQ x.1.q y.1.q = r at *
  generalize cmpJ y.2 x.2 = r2 at *
  clear hx hy s1 s2 hk
  show Calls Tryz.prog 95 #[.agg #[.bool x.1.b, .slice x.1.A x.1.n x.1.c, .bool x.1.b', .slice x.1.A' x.1.n' x.1.c', .int .i64 x.2], .agg #[.bool y.1.b, .slice y.1.A y.1.n y.1.c, .bool y.1.b', .slice y.1.A' y.1.n' y.1.c', .int .i64 y.2]] w _
  go_enter Tryz.func95, Tryz.ntmps95
  go_wp2_with fail
  apply wp_region_par' 10 (by kernel_rfl) (by kernel_rfl) rfl
  simp only [List.take_succ_cons, List.take_zero, List.drop_succ_cons, List.drop_zero]
  generalize hW : World.drew _ = W
  have x2 := Box.of_drew ((Box.new w 110 #[.bool x.1.b, .slice x.1.A x.1.n x.1.c, .bool x.1.b', .slice x.1.A' x.1.n' x.1.c', .int .i64 x.2]).alloc _) hW
  have x3 := Box.of_drew (Box.at1 (w := w)) hW
  have hE := Ext.of_drew ((Ext.alloc _ _).trans (Ext.alloc _ _)) hW
  clear hW
  have z2 := x2.lcell
  have z3 := x3.lcell
  have HC : Hid (∀ z : Later W, Calls Tryz.prog 11 #[.agg #[.bool x.1.b, .slice x.1.A x.1.n x.1.c, .bool x.1.b', .slice x.1.A' x.1.n' x.1.c'], .agg #[.bool y.1.b, .slice y.1.A y.1.n y.1.c, .bool y.1.b', .slice y.1.A' y.1.n' y.1.c']] z.val fun e w' => e = .returned (.int .i64 r) ∧ Ext z.val w') := Lib.hid (fun z => H.out z.val (hE.later z))
  have HK := Lib.hid (fun W => calls_same (HJ.out W))
  clear H HJ
  iterate 10
    refine parW_step rfl (fun K hK => ?_)
    apply Exists.intro
    refine ⟨fun z => ?_, ?_⟩
    focus
      go_simp
      first
        | rfl
        | with_reducible exact calls_val (HC.out _)
        | with_reducible exact HK.out _
    go_simp
    refine hK _ ?_
    clear hK K
  refine parW_end (fun z => ?_)
  replace hE := hE.later z
  clear z2 z3 x2 x3 HC HK
  generalize z.val = Z at *
  go_wp2_with fail
  refine (cmpOr_any (Box.new Z 3 _)).mono ?_
  rintro e w1 ⟨rfl, rfl⟩
  rw [← HCF.out]
  go_wp2
  go_ret
  exact ⟨rfl, hE.trans (Ext.alloc _ _)⟩
end Go.Proofs.YtodefmfgoehkhaaGreat

/- Insertion sort at spans and at marks (printed by gen_sort.py). -/
set_option linter.unusedVariables false
set_option linter.unusedSimpArgs false
namespace Go.Proofs.YtodefmfgoehkhaaGreat
open Go.RowKit Go.Par Go.TN Go.Sort Go.Lib

/-! ## insertion, plain -/
def SortedC {α : Type} (cf : α → α → Int) (l : List α) : Prop := l.Pairwise (fun x y => ¬ cf y x < 0)
theorem ins_stop {α : Type} {cf : α → α → Int} (hO : SWO (ltOf cf)) {A C : List α} {x : α} (hs : SortedC cf (A ++ C)) (hC : ∀ c ∈ C, cf x c < 0) (hA : A = [] ∨ ∃ A' y, A = A' ++ [y] ∧ ¬ cf x y < 0) : SortedC cf (A ++ x :: C) := by
  have lt : ∀ a b, ltOf cf a b = true ↔ cf a b < 0 := fun a b => by unfold ltOf; exact decide_eq_true_iff
  have nlt : ∀ a b, ltOf cf a b = false ↔ ¬ cf a b < 0 := fun a b => by unfold ltOf; exact decide_eq_false_iff_not
  unfold SortedC at *
  obtain ⟨h1, h2, h3⟩ := List.pairwise_append.1 hs
  refine List.pairwise_append.2 ⟨h1, List.pairwise_cons.2 ⟨fun c hc => ?_, h2⟩, fun a ha b hb => ?_⟩
  · intro k
    have e1 := hO.trans x c x ((lt _ _).2 (hC c hc)) ((lt _ _).2 k)
    rw [hO.irrefl x] at e1
    cases e1
  · rcases List.mem_cons.1 hb with rfl | hb
    · rcases hA with rfl | ⟨A', y, rfl, hy⟩
      · cases ha
      · rcases List.mem_append.1 ha with ha' | ha'
        · have h4 := (List.pairwise_append.1 h1).2.2 a ha' y (List.mem_singleton.2 rfl)
          exact (nlt _ _).1 (hO.ntrans b y a ((nlt _ _).2 hy) ((nlt _ _).2 h4))
        · rw [List.mem_singleton] at ha'
          subst ha'
          exact hy
    · exact h3 a ha b hb
theorem set_mid2 {α : Type} (A : List α) (x y : α) (C : List α) : ((A ++ y :: x :: C).set (A.length + 1) y).set A.length x = A ++ x :: y :: C := by
  rw [List.set_append_right _ _ (by omega), List.set_append_right _ _ (by omega)]
  congr 1
  rw [show A.length + 1 - A.length = 1 by omega, Nat.sub_self]
  rfl
/-- one element on its way down -/
def InsAt {α : Type} (cf : α → α → Int) (l : List α) (i j : Nat) (cont : List α) : Prop := ∃ A x C R, cont = A ++ x :: (C ++ R) ∧ A.length = j ∧ A.length + C.length = i ∧ SortedC cf (A ++ C) ∧ (∀ c ∈ C, cf x c < 0) ∧ cont.Perm l
theorem InsAt.start {α : Type} {cf : α → α → Int} {l cont : List α} {i : Nat} (hi : i < cont.length) (hs : SortedC cf (cont.take i)) (hp : cont.Perm l) : InsAt cf l i i cont := by
  refine ⟨cont.take i, cont[i], [], cont.drop (i + 1), ?_, by rw [List.length_take]; omega, by rw [List.length_take]; simp; omega, by simpa using hs, fun c hc => (by cases hc), hp⟩
  rw [List.nil_append, ← List.drop_eq_getElem_cons hi, List.take_append_drop]
theorem InsAt.swap {α : Type} {cf : α → α → Int} {l cont : List α} {i j : Nat} (h : InsAt cf l i (j + 1) cont) {x y : α} (hx : cont[j + 1]? = some x) (hy : cont[j]? = some y) (hlt : cf x y < 0) : InsAt cf l i j ((cont.set (j + 1) y).set j x) := by
  obtain ⟨A, x', C, R, rfl, h1, h2, h3, h4, h5⟩ := h
  rcases List.eq_nil_or_concat A with rfl | ⟨A', y', rfl⟩
  · simp at h1
  · rw [List.concat_eq_append] at *
    rw [List.length_append, List.length_singleton] at h1 h2
    have hj : A'.length = j := by omega
    subst hj
    have e : A' ++ [y'] ++ x' :: (C ++ R) = A' ++ y' :: x' :: (C ++ R) := by simp
    rw [e] at hx hy h5 ⊢
    rw [List.getElem?_append_right (by omega), show A'.length + 1 - A'.length = 1 by omega] at hx
    rw [List.getElem?_append_right (Nat.le_refl _), Nat.sub_self] at hy
    simp only [List.getElem?_cons_zero, List.getElem?_cons_succ, Option.some.injEq] at hx hy
    subst hx hy
    rw [set_mid2]
    refine ⟨A', x', y' :: C, R, by simp, rfl, by simp; omega, by simpa using h3, fun c hc => ?_, ?_⟩
    · rcases List.mem_cons.1 hc with rfl | hc
      · exact hlt
      · exact h4 c hc
    · refine List.Perm.trans ?_ h5
      exact (List.Perm.swap _ _ _).append_left A'
theorem InsAt.stop {α : Type} {cf : α → α → Int} (hO : SWO (ltOf cf)) {l cont : List α} {i j : Nat} (h : InsAt cf l i j cont) (hend : j = 0 ∨ ∃ x y, cont[j]? = some x ∧ cont[j - 1]? = some y ∧ ¬ cf x y < 0) : SortedC cf (cont.take (i + 1)) ∧ cont.Perm l := by
  obtain ⟨A, x, C, R, rfl, h1, h2, h3, h4, h5⟩ := h
  refine ⟨?_, h5⟩
  have e : (A ++ x :: (C ++ R)).take (i + 1) = A ++ x :: C := by
    rw [show A ++ x :: (C ++ R) = (A ++ x :: C) ++ R by simp, List.take_append_of_le_length (by simp; omega), List.take_of_length_le (by simp; omega)]
  rw [e]
  refine ins_stop hO h3 h4 ?_
  rcases hend with h0 | ⟨x', y, hx, hy, hn⟩
  · exact .inl (List.eq_nil_of_length_eq_zero (by omega))
  · rcases List.eq_nil_or_concat A with rfl | ⟨A', y', rfl⟩
    · exact .inl rfl
    · rw [List.concat_eq_append] at *
      refine .inr ⟨A', y', rfl, ?_⟩
      rw [List.length_append, List.length_singleton] at h1
      rw [List.getElem?_append_right (by simp; omega)] at hx
      rw [show j - (A' ++ [y']).length = 0 by simp; omega] at hx
      rw [List.getElem?_append_left (by simp; omega), List.getElem?_append_right (by omega), show j - 1 - A'.length = 0 by omega] at hy
      simp only [List.getElem?_cons_zero, Option.some.injEq] at hx hy
      subst hx hy
      exact hn
theorem swo_sp : SWO (ltOf fun a b : SpR => cmpQ a.1.q b.1.q) := swo_q fun x : SpR => x.1.q
theorem cmpJ_neg {a b : Int} : cmpJ a b < 0 ↔ a < b := by
  unfold cmpJ
  by_cases h : a < b
  · simp [h]
  · by_cases h2 : b < a
    · simp [h, h2]
    · simp [h, h2]
theorem cfM_neg {x y : MkR} : cfM x y < 0 ↔ (x.1.q < y.1.q ∨ x.1.q = y.1.q ∧ y.2 < x.2) := by
  unfold cfM
  by_cases h : x.1.q = y.1.q
  · rw [if_pos (cmpQ_zero.2 h), cmpJ_neg]
    constructor
    · intro k; exact .inr ⟨h, k⟩
    · rintro (k | k)
      · rw [h] at k; grind
      · exact k.2
  · rw [if_neg (fun k => h (cmpQ_zero.1 k)), cmpQ_neg]
    constructor
    · intro k; exact .inl k
    · rintro (k | k)
      · exact k
      · exact absurd k.1 h
theorem swo_mk : SWO (ltOf cfM) := by
  have e : ∀ x y, ltOf cfM x y = decide (x.1.q < y.1.q ∨ x.1.q = y.1.q ∧ y.2 < x.2) := fun x y => by
    unfold ltOf
    rw [decide_eq_decide]
    exact cfM_neg
  refine ⟨fun x => ?_, fun x y z h1 h2 => ?_, fun x y z h1 h2 => ?_⟩
  · rw [e]; simp
  · rw [e, decide_eq_true_eq] at *
    rcases h1 with h1 | ⟨h1, h1'⟩ <;> rcases h2 with h2 | ⟨h2, h2'⟩
    · left; grind
    · left; grind
    · left; grind
    · right; exact ⟨by rw [h1, h2], by omega⟩
  · rw [e, decide_eq_false_iff_not] at *
    intro h
    rcases Classical.em (x.1.q < y.1.q) with k1 | k1
    · exact h1 (.inl k1)
    · rcases Classical.em (y.1.q < z.1.q) with k2 | k2
      · exact h2 (.inl k2)
      · rcases h with h | ⟨h, h'⟩
        · grind
        · have e1 : x.1.q = y.1.q := by grind
          have e2 : y.1.q = z.1.q := by grind
          have n1 : ¬ y.2 < x.2 := fun k => h1 (.inr ⟨e1, k⟩)
          have n2 : ¬ z.2 < y.2 := fun k => h2 (.inr ⟨e2, k⟩)
          omega
/-! ## the walks -/
theorem own_sp {w : World} {B g n cap : Nat} {l : List SpR} (h : OwnC spE w B (.slice (some ⟨g, 0, none⟩) n cap) l) {k : Nat} {x : SpR} (hx : l[k]? = some x) :
    (w.cell? ⟨g, k * 8, none⟩ = some (.bool x.1.b)) ∧ (w.cell? ⟨g, k * 8 + 1, none⟩ = some (.slice x.1.A x.1.n x.1.c)) ∧ (w.cell? ⟨g, k * 8 + 2, none⟩ = some (.bool x.1.b')) ∧ (w.cell? ⟨g, k * 8 + 3, none⟩ = some (.slice x.1.A' x.1.n' x.1.c')) ∧ (w.cell? ⟨g, k * 8 + 4, none⟩ = some (.bool x.2.b)) ∧ (w.cell? ⟨g, k * 8 + 5, none⟩ = some (.slice x.2.A x.2.n x.2.c)) ∧ (w.cell? ⟨g, k * 8 + 6, none⟩ = some (.bool x.2.b')) ∧ (w.cell? ⟨g, k * 8 + 7, none⟩ = some (.slice x.2.A' x.2.n' x.2.c')) :=
  ⟨h.own.cellAt (E := spE) (j := 0) hx rfl, h.own.cellAt (E := spE) (j := 1) hx rfl, h.own.cellAt (E := spE) (j := 2) hx rfl, h.own.cellAt (E := spE) (j := 3) hx rfl, h.own.cellAt (E := spE) (j := 4) hx rfl, h.own.cellAt (E := spE) (j := 5) hx rfl, h.own.cellAt (E := spE) (j := 6) hx rfl, h.own.cellAt (E := spE) (j := 7) hx rfl⟩
def CmpOk_sp (w : World) (l : List SpR) : Prop := ∀ W x y, DigKeep w W → x ∈ l → y ∈ l → Calls Tryz.prog 92 #[.agg #[.bool x.1.b, .slice x.1.A x.1.n x.1.c, .bool x.1.b', .slice x.1.A' x.1.n' x.1.c', .bool x.2.b, .slice x.2.A x.2.n x.2.c, .bool x.2.b', .slice x.2.A' x.2.n' x.2.c'], .agg #[.bool y.1.b, .slice y.1.A y.1.n y.1.c, .bool y.1.b', .slice y.1.A' y.1.n' y.1.c', .bool y.2.b, .slice y.2.A y.2.n y.2.c, .bool y.2.b', .slice y.2.A' y.2.n' y.2.c']] W fun e w' => e = .returned (.int .i64 (cmpQ x.1.q y.1.q)) ∧ Ext W w'
theorem sp_enter (args : Array Value) (w : World) : (callFunc 92 args).run Tryz.prog w = .ok (.enter 92 args) w := enters_of Tryz.func92 (by kernel_rfl) rfl _ _
set_option maxRecDepth 100000 in
set_option maxHeartbeats 1600000 in
theorem sp_insert {w : World} {B g n cap : Nat} {l : List SpR} (hown : OwnC spE w B (.slice (some ⟨g, 0, none⟩) n cap) l) (h0 : 0 < n) (hn : n ≤ 1000000) (hcmp : CmpOk_sp w l) :
    Calls Tryz.prog 120 #[.slice (some ⟨g, 0, none⟩) n cap, .int .i64 0, .int .i64 n, .func (.func 92) #[] #[]] w fun e w' =>
      e = .returned (.tuple #[]) ∧ ∃ l', l'.Perm l ∧ SortedC (fun a b => cmpQ a.1.q b.1.q) l' ∧ OwnC spE w' B (.slice (some ⟨g, 0, none⟩) n cap) l' ∧ But g w w' ∧ DigKeep w w' := by
  obtain ⟨_, hl, _, _, hcap, hcm, _⟩ := hown.own.opened
  have HN := Lib.hid hl
  have HCMP := Lib.hid hcmp
  clear hl hcmp hcm
  have heg := sp_enter
  go_enter Tryz.func120, Tryz.ntmps120
  go_wp2_with fail
  go_loopw [8, 9] (fun i _ wr => ∃ (i' : Nat) (cont : List SpR), 1 ≤ i' ∧ i' ≤ n ∧ i = .int .i64 i' ∧ But g w wr ∧ DigKeep w wr ∧ OwnC spE wr B (.slice (some ⟨g, 0, none⟩) n cap) cont ∧ Hid (cont.Perm l ∧ SortedC (fun a b => cmpQ a.1.q b.1.q) (cont.take i'))) (fun i _ _ => n - (intOf i).toNat)
  case atStart => exact ⟨1, l, by omega, by omega, rfl, But.refl _ _, DigKeep.refl _, hown, Lib.hid ⟨List.Perm.refl _, by
    cases l with
    | nil => exact List.Pairwise.nil
    | cons x t => exact List.pairwise_singleton _ _⟩⟩
  case round =>
    clear hown
    obtain ⟨i, cont, hi1, hin, rfl, hbut, hdig, hown, HG⟩ := hrel
    have hcl : cont.length = n := by rw [HG.out.1.length_eq, ← HN.out]
    by_cases hlt : i < n
    · have HST := Lib.hid (InsAt.start (cf := (fun a b => cmpQ a.1.q b.1.q)) (by rw [hcl]; exact hlt) HG.out.2 HG.out.1)
      clear HG hcl
      go_wp2_with fail
      generalize wr = wo at *
      go_loopw [9] (fun jv wr => ∃ (j : Nat) (cont : List SpR), j ≤ i ∧ jv = .int .i64 j ∧ But g w wr ∧ DigKeep w wr ∧ OwnC spE wr B (.slice (some ⟨g, 0, none⟩) n cap) cont ∧ Hid (InsAt (fun a b => cmpQ a.1.q b.1.q) l i j cont)) (fun jv _ => (intOf jv).toNat)
      case atStart => exact ⟨i, cont, Nat.le_refl _, rfl, hbut, hdig, hown, HST⟩
      case round =>
        clear hown hbut hdig HST cont
        obtain ⟨j, cont, hji, rfl, hbut, hdig, hown, HI⟩ := hrel
        have hperm : cont.Perm l := by obtain ⟨_, _, _, _, _, _, _, _, _, h⟩ := HI.out; exact h
        have hcl : cont.length = n := by rw [hperm.length_eq, ← HN.out]
        by_cases hj0 : j = 0
        · subst hj0
          have HS := Lib.hid (HI.out.stop swo_sp (.inl rfl))
          clear HI hperm hcl
          go_wp2_with fail
          apply wp_region_par' 17 (by kernel_rfl) (by kernel_rfl) rfl
          simp only [List.take_succ_cons, List.take_zero, List.drop_succ_cons, List.drop_zero]
          generalize hW : World.drew _ = W
          have hEW : Ext wr W := Ext.of_drew (Ext.refl _) hW
          clear hW
          iterate 17
            refine parW_step rfl (fun K hK => ?_)
            apply Exists.intro
            refine ⟨fun z => ?_, ?_⟩
            focus
              go_simp
              first
                | rfl
                | fail
            go_simp
            refine hK _ ?_
            clear hK K
          refine parW_end (fun z => ?_)
          replace hbut := hbut.trans (But.of_ext (hEW.later z))
          replace hdig := hdig.trans (DigKeep.ext (hEW.later z))
          replace hown := hown.ext (hEW.later z)
          generalize z.val = Z at *
          clear z hEW heg
          go_wp2
          go_roundw
          case rel => exact ⟨i + 1, cont, by omega, by omega, by go_num, hbut, hdig, hown, Lib.hid ⟨HS.out.2, HS.out.1⟩⟩
          case measure => simp [intOf]; omega
        · obtain ⟨j1, hj1⟩ : ∃ j1, j = j1 + 1 := ⟨j - 1, by omega⟩
          obtain ⟨x, hx⟩ : ∃ q, cont[j]? = some q := ⟨_, List.getElem?_eq_getElem (by rw [hcl]; omega)⟩
          obtain ⟨y, hy⟩ : ∃ q, cont[j1]? = some q := ⟨_, List.getElem?_eq_getElem (by rw [hcl]; omega)⟩
          have hxl := hperm.mem_iff.1 (List.mem_of_getElem? hx)
          have hyl := hperm.mem_iff.1 (List.mem_of_getElem? hy)
          obtain ⟨x0, x1, x2, x3, x4, x5, x6, x7⟩ := own_sp hown hx
          obtain ⟨y0, y1, y2, y3, y4, y5, y6, y7⟩ := own_sp hown hy
          have w1 : IntKind.i64.wrap ((j : Int) - 1) = (j1 : Int) := (IntWalk.i64_in _ (by omega)).trans (by omega)
          have n1 : j1 < n := by omega
          have n2 : j < n := by omega
          have n3 : (0 < j) = True := eq_true (by omega)
          have HX := Lib.hid hx
          have HY := Lib.hid hy
          generalize hc : cmpQ x.1.q y.1.q = c
          have HCC := Lib.hid hc
          obtain ⟨bb, hbb⟩ : ∃ bb, decide (c < 0) = bb := ⟨_, rfl⟩
          have HJ1 := Lib.hid hj1
          have HCL := Lib.hid hcl
          clear hperm hcl hx hy hj1
          go_wp2_with fail
          apply wp_region_par' 17 (by kernel_rfl) (by kernel_rfl) rfl
          simp only [List.take_succ_cons, List.take_zero, List.drop_succ_cons, List.drop_zero]
          generalize hW : World.drew _ = W
          have hEW : Ext wr W := Ext.of_drew (Ext.refl _) hW
          clear hW
          have ex0 := fun z : Later W => z.cell (hEW.cell x0)
          have ex1 := fun z : Later W => z.cell (hEW.cell x1)
          have ex2 := fun z : Later W => z.cell (hEW.cell x2)
          have ex3 := fun z : Later W => z.cell (hEW.cell x3)
          have ex4 := fun z : Later W => z.cell (hEW.cell x4)
          have ex5 := fun z : Later W => z.cell (hEW.cell x5)
          have ex6 := fun z : Later W => z.cell (hEW.cell x6)
          have ex7 := fun z : Later W => z.cell (hEW.cell x7)
          have ey0 := fun z : Later W => z.cell (hEW.cell y0)
          have ey1 := fun z : Later W => z.cell (hEW.cell y1)
          have ey2 := fun z : Later W => z.cell (hEW.cell y2)
          have ey3 := fun z : Later W => z.cell (hEW.cell y3)
          have ey4 := fun z : Later W => z.cell (hEW.cell y4)
          have ey5 := fun z : Later W => z.cell (hEW.cell y5)
          have ey6 := fun z : Later W => z.cell (hEW.cell y6)
          have ey7 := fun z : Later W => z.cell (hEW.cell y7)
          have HK := Lib.hid (fun z : Later W => HCMP.out z.val x y (hdig.trans (DigKeep.ext (hEW.later z))) hxl hyl)
          simp only [hc] at HK
          iterate 17
            refine parW_step rfl (fun K hK => ?_)
            apply Exists.intro
            refine ⟨fun z => ?_, ?_⟩
            focus
              go_simp
              first
                | rfl
                | with_reducible exact calls_val (HK.out _)
            go_simp
            refine hK _ ?_
            clear hK K
          refine parW_end (fun z => ?_)
          replace hbut := hbut.trans (But.of_ext (hEW.later z))
          replace hdig := hdig.trans (DigKeep.ext (hEW.later z))
          replace hown := hown.ext (hEW.later z)
          clear ex0 ex1 ex2 ex3 ex4 ex5 ex6 ex7 ey0 ey1 ey2 ey3 ey4 ey5 ey6 ey7 HK x0 x1 x2 x3 x4 x5 x6 x7 y0 y1 y2 y3 y4 y5 y6 y7
          obtain ⟨x0, x1, x2, x3, x4, x5, x6, x7⟩ := own_sp hown HX.out
          obtain ⟨y0, y1, y2, y3, y4, y5, y6, y7⟩ := own_sp hown HY.out
          have fr := hown.own.frozenAt (E := spE)
          generalize z.val = Z at *
          clear z hEW hxl hyl hc
          cases bb
          case true =>
            have hneg : c < 0 := of_decide_eq_true hbb
            clear hbb
            have HS := Lib.hid (show InsAt (fun a b => cmpQ a.1.q b.1.q) l i j1 ((cont.set (j1 + 1) y).set j1 x) from by
              have h1 := HI.out
              rw [HJ1.out] at h1
              exact h1.swap (by rw [← HJ1.out]; exact HX.out) HY.out (by rw [show cmpQ x.1.q y.1.q = c from HCC.out]; exact hneg))
            have hset := (hown.put1 spE_clean (k := j) n2 y).put1 spE_clean (k := j1) n1 x
            have hbs := hbut.trans (but_setCells (spE.enc x) (j1 * spE.size) _ (but_setCells (spE.enc y) (j * spE.size) Z (But.refl _ _)))
            have hds := hdig.trans ((hown.digSet (spE.enc y) (j * spE.size)).trans ((hown.put1 spE_clean (k := j) n2 y).digSet (spE.enc x) (j1 * spE.size)))
            rw [show (Z.setCells g (j * spE.size) (spE.enc y)).setCells g (j1 * spE.size) (spE.enc x) = ((((((((((((((((Z.setCell ⟨g, j * 8, none⟩ (.bool y.1.b)).setCell ⟨g, j * 8 + 1, none⟩ (.slice y.1.A y.1.n y.1.c)).setCell ⟨g, j * 8 + 2, none⟩ (.bool y.1.b')).setCell ⟨g, j * 8 + 3, none⟩ (.slice y.1.A' y.1.n' y.1.c')).setCell ⟨g, j * 8 + 4, none⟩ (.bool y.2.b)).setCell ⟨g, j * 8 + 5, none⟩ (.slice y.2.A y.2.n y.2.c)).setCell ⟨g, j * 8 + 6, none⟩ (.bool y.2.b')).setCell ⟨g, j * 8 + 7, none⟩ (.slice y.2.A' y.2.n' y.2.c')).setCell ⟨g, j1 * 8, none⟩ (.bool x.1.b)).setCell ⟨g, j1 * 8 + 1, none⟩ (.slice x.1.A x.1.n x.1.c)).setCell ⟨g, j1 * 8 + 2, none⟩ (.bool x.1.b')).setCell ⟨g, j1 * 8 + 3, none⟩ (.slice x.1.A' x.1.n' x.1.c')).setCell ⟨g, j1 * 8 + 4, none⟩ (.bool x.2.b)).setCell ⟨g, j1 * 8 + 5, none⟩ (.slice x.2.A x.2.n x.2.c)).setCell ⟨g, j1 * 8 + 6, none⟩ (.bool x.2.b')).setCell ⟨g, j1 * 8 + 7, none⟩ (.slice x.2.A' x.2.n' x.2.c')) from rfl] at hset hbs hds
            have HSET := Lib.hid hset
            have HBS := Lib.hid hbs
            have HDS := Lib.hid hds
            have HS2 : Hid (InsAt (fun a b => cmpQ a.1.q b.1.q) l i j1 ((cont.set j y).set j1 x)) := Lib.hid (by have := HS.out; rw [← HJ1.out] at this; exact this)
            clear hset hbs hds HI hown hbut hdig HS hneg
            go_wp2_with fail
            go_region
            go_wp2
            go_roundw
            case rel =>
              refine ⟨j1, (cont.set j y).set j1 x, by have := HJ1.out; omega, by go_num, ?_, ?_, ?_, HS2⟩
              · exact HBS.out.trans (But.of_ext (Ext.drew _))
              · exact HDS.out.trans (DigKeep.ext (Ext.drew _))
              · exact HSET.out.ext (Ext.drew _)
            case measure => simp [intOf]; have := HJ1.out; omega
          case false =>
            have hneg : ¬ c < 0 := of_decide_eq_false hbb
            clear hbb
            have HS := Lib.hid (HI.out.stop swo_sp (.inr ⟨x, y, HX.out, by rw [show j - 1 = j1 by have := HJ1.out; omega]; exact HY.out, by rw [show cmpQ x.1.q y.1.q = c from HCC.out]; exact hneg⟩))
            clear HI x0 x1 x2 x3 x4 x5 x6 x7 y0 y1 y2 y3 y4 y5 y6 y7 fr w1 n3 heg hneg
            go_wp2
            go_roundw
            case rel => exact ⟨i + 1, cont, by omega, by omega, by go_num, hbut, hdig, hown, Lib.hid ⟨HS.out.2, HS.out.1⟩⟩
            case measure => simp [intOf]; omega
    · have hfin : cont.take i = cont := List.take_of_length_le (by rw [hcl]; omega)
      have HS := Lib.hid (show cont.Perm l ∧ SortedC (fun a b => cmpQ a.1.q b.1.q) cont from ⟨HG.out.1, by have := HG.out.2; rwa [hfin] at this⟩)
      clear HG hfin hcl heg
      go_wp2
      go_end0
      exact ⟨rfl, cont, HS.out.1, HS.out.2, hown, hbut, hdig⟩
set_option maxHeartbeats 400000 in
theorem sp_insert0 (A : Option Addr) (c : Nat) (fv : Value) (w : World) :
    Calls Tryz.prog 120 #[.slice A 0 c, .int .i64 0, .int .i64 0, fv] w fun e w' => e = .returned (.tuple #[]) ∧ w = w' := by
  go_enter Tryz.func120, Tryz.ntmps120
  go_wp2_with fail
  go_loopw [8, 9] (fun i _ wr => i = .int .i64 1 ∧ wr = w) (fun i _ _ => 0)
  case atStart => exact ⟨rfl, rfl⟩
  case round =>
    obtain ⟨rfl, rfl⟩ := hrel
    go_wp2
    go_end0
    exact ⟨rfl, rfl⟩
/-- what the stable sort does to a row -/
def spSorted (w : World) (B : Nat) (v : Value) (l : List SpR) (e : Ending) (w' : World) : Prop := e = .returned (.tuple #[]) ∧ ∃ l', l'.Perm l ∧ SortedC (fun a b => cmpQ a.1.q b.1.q) l' ∧ OwnC spE w' B v l' ∧ Grown w w' v.ownBlock ∧ DigKeep w w'
set_option maxHeartbeats 400000 in
theorem sp_stable {w : World} {B : Nat} {v : Value} {l : List SpR} (hown : OwnC spE w B v l) (hn : l.length ≤ 19) (hcmp : CmpOk_sp w l) :
    Calls Tryz.prog 112 #[v, .int .i64 l.length, .func (.func 92) #[] #[]] w (spSorted w B v l) := by
  obtain ⟨n, hln⟩ : ∃ n, n = l.length := ⟨_, rfl⟩
  have HI : Hid (Calls Tryz.prog 120 #[v, .int .i64 0, .int .i64 n, .func (.func 92) #[] #[]] w (spSorted w B v l)) := Lib.hid (by
    rcases Nat.eq_zero_or_pos l.length with h0 | h0
    · have e : l = [] := List.eq_nil_of_length_eq_zero h0
      subst e
      obtain ⟨A, c, rfl, _, _⟩ := hown.own.len
      rw [hln]
      exact (sp_insert0 A c _ w).mono fun e w' ⟨h1, h2⟩ => by subst h2; exact ⟨h1, [], List.Perm.refl _, List.Pairwise.nil, hown, ⟨⟨rfl, rfl, rfl, Nat.le_refl _, fun _ _ _ => rfl⟩, Nat.le_refl _⟩, DigKeep.refl _⟩
    · obtain ⟨g, cap, rfl, _, _⟩ := hown.own.head h0
      rw [hln]
      exact (sp_insert hown h0 (by omega) hcmp).mono fun e w' ⟨h1, l', h2, h3, h4, h5, h6⟩ => ⟨h1, l', h2, h3, h4, ⟨⟨h5.os, h5.tape, h5.output, h5.size, fun k hk hne => h5.block k hk (fun e => hne (by rw [e]; rfl))⟩, h5.drawn⟩, h6⟩)
  rw [← hln] at hn ⊢
  clear hln hcmp
  go_enter Tryz.func112, Tryz.ntmps112
  go_wp2_with fail
  go_loopw [7, 8] (fun a b wr => a = .int .i64 0 ∧ b = .int .i64 20 ∧ wr = w) (fun _ _ _ => 0)
  case atStart => exact ⟨rfl, rfl, rfl⟩
  case round =>
    obtain ⟨rfl, rfl, rfl⟩ := hrel
    have d1 : ¬ (20 : Int) ≤ (n : Int) := by omega
    go_wp2_with fail
    refine HI.out.mono ?_
    rintro e w1 ⟨rfl, hres⟩
    have HR := Lib.hid hres
    clear hres HI
    go_wp2_with fail
    go_loopw [6, 7, 8, 9] (fun s _ _ _ wr => s = .int .i64 20 ∧ wr = w1) (fun _ _ _ _ _ => 0)
    case atStart => exact ⟨rfl, rfl⟩
    case round =>
      obtain ⟨rfl, rfl⟩ := hrel
      have d2 : ¬ (20 : Int) < (n : Int) := by omega
      go_wp2
      go_end0
      exact ⟨rfl, HR.out⟩
set_option maxHeartbeats 400000 in
theorem sp_sort {w : World} {B : Nat} {v : Value} {l : List SpR} (hown : OwnC spE w B v l) (hn : l.length ≤ 19) (hcmp : CmpOk_sp w l) :
    Calls Tryz.prog 91 #[v, .func (.func 92) #[] #[]] w (spSorted w B v l) := by
  have HS := Lib.hid (sp_stable hown hn hcmp)
  obtain ⟨A, c, rfl, _, _⟩ := hown.own.len
  generalize l.length = n at *
  clear hown hcmp
  go_enter Tryz.func91, Tryz.ntmps91
  go_wp2_with fail
  refine HS.out.mono ?_
  rintro e w1 ⟨rfl, hres⟩
  have HR := Lib.hid hres
  clear hres HS
  go_wp2
  go_end0
  exact ⟨rfl, HR.out⟩
theorem own_mk {w : World} {B g n cap : Nat} {l : List MkR} (h : OwnC mkE w B (.slice (some ⟨g, 0, none⟩) n cap) l) {k : Nat} {x : MkR} (hx : l[k]? = some x) :
    (w.cell? ⟨g, k * 5, none⟩ = some (.bool x.1.b)) ∧ (w.cell? ⟨g, k * 5 + 1, none⟩ = some (.slice x.1.A x.1.n x.1.c)) ∧ (w.cell? ⟨g, k * 5 + 2, none⟩ = some (.bool x.1.b')) ∧ (w.cell? ⟨g, k * 5 + 3, none⟩ = some (.slice x.1.A' x.1.n' x.1.c')) ∧ (w.cell? ⟨g, k * 5 + 4, none⟩ = some (.int .i64 x.2)) :=
  ⟨h.own.cellAt (E := mkE) (j := 0) hx rfl, h.own.cellAt (E := mkE) (j := 1) hx rfl, h.own.cellAt (E := mkE) (j := 2) hx rfl, h.own.cellAt (E := mkE) (j := 3) hx rfl, h.own.cellAt (E := mkE) (j := 4) hx rfl⟩
def CmpOk_mk (w : World) (l : List MkR) : Prop := ∀ W x y, DigKeep w W → x ∈ l → y ∈ l → Calls Tryz.prog 95 #[.agg #[.bool x.1.b, .slice x.1.A x.1.n x.1.c, .bool x.1.b', .slice x.1.A' x.1.n' x.1.c', .int .i64 x.2], .agg #[.bool y.1.b, .slice y.1.A y.1.n y.1.c, .bool y.1.b', .slice y.1.A' y.1.n' y.1.c', .int .i64 y.2]] W fun e w' => e = .returned (.int .i64 (cfM x y)) ∧ Ext W w'
theorem mk_enter (args : Array Value) (w : World) : (callFunc 95 args).run Tryz.prog w = .ok (.enter 95 args) w := enters_of Tryz.func95 (by kernel_rfl) rfl _ _
set_option maxRecDepth 100000 in
set_option maxHeartbeats 1600000 in
theorem mk_insert {w : World} {B g n cap : Nat} {l : List MkR} (hown : OwnC mkE w B (.slice (some ⟨g, 0, none⟩) n cap) l) (h0 : 0 < n) (hn : n ≤ 1000000) (hcmp : CmpOk_mk w l) :
    Calls Tryz.prog 122 #[.slice (some ⟨g, 0, none⟩) n cap, .int .i64 0, .int .i64 n, .func (.func 95) #[] #[]] w fun e w' =>
      e = .returned (.tuple #[]) ∧ ∃ l', l'.Perm l ∧ SortedC cfM l' ∧ OwnC mkE w' B (.slice (some ⟨g, 0, none⟩) n cap) l' ∧ But g w w' ∧ DigKeep w w' := by
  obtain ⟨_, hl, _, _, hcap, hcm, _⟩ := hown.own.opened
  have HN := Lib.hid hl
  have HCMP := Lib.hid hcmp
  clear hl hcmp hcm
  have heg := mk_enter
  go_enter Tryz.func122, Tryz.ntmps122
  go_wp2_with fail
  go_loopw [8, 9] (fun i _ wr => ∃ (i' : Nat) (cont : List MkR), 1 ≤ i' ∧ i' ≤ n ∧ i = .int .i64 i' ∧ But g w wr ∧ DigKeep w wr ∧ OwnC mkE wr B (.slice (some ⟨g, 0, none⟩) n cap) cont ∧ Hid (cont.Perm l ∧ SortedC cfM (cont.take i'))) (fun i _ _ => n - (intOf i).toNat)
  case atStart => exact ⟨1, l, by omega, by omega, rfl, But.refl _ _, DigKeep.refl _, hown, Lib.hid ⟨List.Perm.refl _, by
    cases l with
    | nil => exact List.Pairwise.nil
    | cons x t => exact List.pairwise_singleton _ _⟩⟩
  case round =>
    clear hown
    obtain ⟨i, cont, hi1, hin, rfl, hbut, hdig, hown, HG⟩ := hrel
    have hcl : cont.length = n := by rw [HG.out.1.length_eq, ← HN.out]
    by_cases hlt : i < n
    · have HST := Lib.hid (InsAt.start (cf := cfM) (by rw [hcl]; exact hlt) HG.out.2 HG.out.1)
      clear HG hcl
      go_wp2_with fail
      generalize wr = wo at *
      go_loopw [9] (fun jv wr => ∃ (j : Nat) (cont : List MkR), j ≤ i ∧ jv = .int .i64 j ∧ But g w wr ∧ DigKeep w wr ∧ OwnC mkE wr B (.slice (some ⟨g, 0, none⟩) n cap) cont ∧ Hid (InsAt cfM l i j cont)) (fun jv _ => (intOf jv).toNat)
      case atStart => exact ⟨i, cont, Nat.le_refl _, rfl, hbut, hdig, hown, HST⟩
      case round =>
        clear hown hbut hdig HST cont
        obtain ⟨j, cont, hji, rfl, hbut, hdig, hown, HI⟩ := hrel
        have hperm : cont.Perm l := by obtain ⟨_, _, _, _, _, _, _, _, _, h⟩ := HI.out; exact h
        have hcl : cont.length = n := by rw [hperm.length_eq, ← HN.out]
        by_cases hj0 : j = 0
        · subst hj0
          have HS := Lib.hid (HI.out.stop swo_mk (.inl rfl))
          clear HI hperm hcl
          go_wp2_with fail
          apply wp_region_par' 17 (by kernel_rfl) (by kernel_rfl) rfl
          simp only [List.take_succ_cons, List.take_zero, List.drop_succ_cons, List.drop_zero]
          generalize hW : World.drew _ = W
          have hEW : Ext wr W := Ext.of_drew (Ext.refl _) hW
          clear hW
          iterate 17
            refine parW_step rfl (fun K hK => ?_)
            apply Exists.intro
            refine ⟨fun z => ?_, ?_⟩
            focus
              go_simp
              first
                | rfl
                | fail
            go_simp
            refine hK _ ?_
            clear hK K
          refine parW_end (fun z => ?_)
          replace hbut := hbut.trans (But.of_ext (hEW.later z))
          replace hdig := hdig.trans (DigKeep.ext (hEW.later z))
          replace hown := hown.ext (hEW.later z)
          generalize z.val = Z at *
          clear z hEW heg
          go_wp2
          go_roundw
          case rel => exact ⟨i + 1, cont, by omega, by omega, by go_num, hbut, hdig, hown, Lib.hid ⟨HS.out.2, HS.out.1⟩⟩
          case measure => simp [intOf]; omega
        · obtain ⟨j1, hj1⟩ : ∃ j1, j = j1 + 1 := ⟨j - 1, by omega⟩
          obtain ⟨x, hx⟩ : ∃ q, cont[j]? = some q := ⟨_, List.getElem?_eq_getElem (by rw [hcl]; omega)⟩
          obtain ⟨y, hy⟩ : ∃ q, cont[j1]? = some q := ⟨_, List.getElem?_eq_getElem (by rw [hcl]; omega)⟩
          have hxl := hperm.mem_iff.1 (List.mem_of_getElem? hx)
          have hyl := hperm.mem_iff.1 (List.mem_of_getElem? hy)
          obtain ⟨x0, x1, x2, x3, x4⟩ := own_mk hown hx
          obtain ⟨y0, y1, y2, y3, y4⟩ := own_mk hown hy
          have w1 : IntKind.i64.wrap ((j : Int) - 1) = (j1 : Int) := (IntWalk.i64_in _ (by omega)).trans (by omega)
          have n1 : j1 < n := by omega
          have n2 : j < n := by omega
          have n3 : (0 < j) = True := eq_true (by omega)
          have HX := Lib.hid hx
          have HY := Lib.hid hy
          generalize hc : cfM x y = c
          have HCC := Lib.hid hc
          obtain ⟨bb, hbb⟩ : ∃ bb, decide (c < 0) = bb := ⟨_, rfl⟩
          have HJ1 := Lib.hid hj1
          have HCL := Lib.hid hcl
          clear hperm hcl hx hy hj1
          go_wp2_with fail
          apply wp_region_par' 17 (by kernel_rfl) (by kernel_rfl) rfl
          simp only [List.take_succ_cons, List.take_zero, List.drop_succ_cons, List.drop_zero]
          generalize hW : World.drew _ = W
          have hEW : Ext wr W := Ext.of_drew (Ext.refl _) hW
          clear hW
          have ex0 := fun z : Later W => z.cell (hEW.cell x0)
          have ex1 := fun z : Later W => z.cell (hEW.cell x1)
          have ex2 := fun z : Later W => z.cell (hEW.cell x2)
          have ex3 := fun z : Later W => z.cell (hEW.cell x3)
          have ex4 := fun z : Later W => z.cell (hEW.cell x4)
          have ey0 := fun z : Later W => z.cell (hEW.cell y0)
          have ey1 := fun z : Later W => z.cell (hEW.cell y1)
          have ey2 := fun z : Later W => z.cell (hEW.cell y2)
          have ey3 := fun z : Later W => z.cell (hEW.cell y3)
          have ey4 := fun z : Later W => z.cell (hEW.cell y4)
          have HK := Lib.hid (fun z : Later W => HCMP.out z.val x y (hdig.trans (DigKeep.ext (hEW.later z))) hxl hyl)
          simp only [hc] at HK
          iterate 17
            refine parW_step rfl (fun K hK => ?_)
            apply Exists.intro
            refine ⟨fun z => ?_, ?_⟩
            focus
              go_simp
              first
                | rfl
                | with_reducible exact calls_val (HK.out _)
            go_simp
            refine hK _ ?_
            clear hK K
          refine parW_end (fun z => ?_)
          replace hbut := hbut.trans (But.of_ext (hEW.later z))
          replace hdig := hdig.trans (DigKeep.ext (hEW.later z))
          replace hown := hown.ext (hEW.later z)
          clear ex0 ex1 ex2 ex3 ex4 ey0 ey1 ey2 ey3 ey4 HK x0 x1 x2 x3 x4 y0 y1 y2 y3 y4
          obtain ⟨x0, x1, x2, x3, x4⟩ := own_mk hown HX.out
          obtain ⟨y0, y1, y2, y3, y4⟩ := own_mk hown HY.out
          have fr := hown.own.frozenAt (E := mkE)
          generalize z.val = Z at *
          clear z hEW hxl hyl hc
          cases bb
          case true =>
            have hneg : c < 0 := of_decide_eq_true hbb
            clear hbb
            have HS := Lib.hid (show InsAt cfM l i j1 ((cont.set (j1 + 1) y).set j1 x) from by
              have h1 := HI.out
              rw [HJ1.out] at h1
              exact h1.swap (by rw [← HJ1.out]; exact HX.out) HY.out (by rw [show cfM x y = c from HCC.out]; exact hneg))
            have hset := (hown.put1 mkE_clean (k := j) n2 y).put1 mkE_clean (k := j1) n1 x
            have hbs := hbut.trans (but_setCells (mkE.enc x) (j1 * mkE.size) _ (but_setCells (mkE.enc y) (j * mkE.size) Z (But.refl _ _)))
            have hds := hdig.trans ((hown.digSet (mkE.enc y) (j * mkE.size)).trans ((hown.put1 mkE_clean (k := j) n2 y).digSet (mkE.enc x) (j1 * mkE.size)))
            rw [show (Z.setCells g (j * mkE.size) (mkE.enc y)).setCells g (j1 * mkE.size) (mkE.enc x) = ((((((((((Z.setCell ⟨g, j * 5, none⟩ (.bool y.1.b)).setCell ⟨g, j * 5 + 1, none⟩ (.slice y.1.A y.1.n y.1.c)).setCell ⟨g, j * 5 + 2, none⟩ (.bool y.1.b')).setCell ⟨g, j * 5 + 3, none⟩ (.slice y.1.A' y.1.n' y.1.c')).setCell ⟨g, j * 5 + 4, none⟩ (.int .i64 y.2)).setCell ⟨g, j1 * 5, none⟩ (.bool x.1.b)).setCell ⟨g, j1 * 5 + 1, none⟩ (.slice x.1.A x.1.n x.1.c)).setCell ⟨g, j1 * 5 + 2, none⟩ (.bool x.1.b')).setCell ⟨g, j1 * 5 + 3, none⟩ (.slice x.1.A' x.1.n' x.1.c')).setCell ⟨g, j1 * 5 + 4, none⟩ (.int .i64 x.2)) from rfl] at hset hbs hds
            have HSET := Lib.hid hset
            have HBS := Lib.hid hbs
            have HDS := Lib.hid hds
            have HS2 : Hid (InsAt cfM l i j1 ((cont.set j y).set j1 x)) := Lib.hid (by have := HS.out; rw [← HJ1.out] at this; exact this)
            clear hset hbs hds HI hown hbut hdig HS hneg
            go_wp2_with fail
            go_region
            go_wp2
            go_roundw
            case rel =>
              refine ⟨j1, (cont.set j y).set j1 x, by have := HJ1.out; omega, by go_num, ?_, ?_, ?_, HS2⟩
              · exact HBS.out.trans (But.of_ext (Ext.drew _))
              · exact HDS.out.trans (DigKeep.ext (Ext.drew _))
              · exact HSET.out.ext (Ext.drew _)
            case measure => simp [intOf]; have := HJ1.out; omega
          case false =>
            have hneg : ¬ c < 0 := of_decide_eq_false hbb
            clear hbb
            have HS := Lib.hid (HI.out.stop swo_mk (.inr ⟨x, y, HX.out, by rw [show j - 1 = j1 by have := HJ1.out; omega]; exact HY.out, by rw [show cfM x y = c from HCC.out]; exact hneg⟩))
            clear HI x0 x1 x2 x3 x4 y0 y1 y2 y3 y4 fr w1 n3 heg hneg
            go_wp2
            go_roundw
            case rel => exact ⟨i + 1, cont, by omega, by omega, by go_num, hbut, hdig, hown, Lib.hid ⟨HS.out.2, HS.out.1⟩⟩
            case measure => simp [intOf]; omega
    · have hfin : cont.take i = cont := List.take_of_length_le (by rw [hcl]; omega)
      have HS := Lib.hid (show cont.Perm l ∧ SortedC cfM cont from ⟨HG.out.1, by have := HG.out.2; rwa [hfin] at this⟩)
      clear HG hfin hcl heg
      go_wp2
      go_end0
      exact ⟨rfl, cont, HS.out.1, HS.out.2, hown, hbut, hdig⟩
set_option maxHeartbeats 400000 in
theorem mk_insert0 (A : Option Addr) (c : Nat) (fv : Value) (w : World) :
    Calls Tryz.prog 122 #[.slice A 0 c, .int .i64 0, .int .i64 0, fv] w fun e w' => e = .returned (.tuple #[]) ∧ w = w' := by
  go_enter Tryz.func122, Tryz.ntmps122
  go_wp2_with fail
  go_loopw [8, 9] (fun i _ wr => i = .int .i64 1 ∧ wr = w) (fun i _ _ => 0)
  case atStart => exact ⟨rfl, rfl⟩
  case round =>
    obtain ⟨rfl, rfl⟩ := hrel
    go_wp2
    go_end0
    exact ⟨rfl, rfl⟩
/-- what the stable sort does to a row -/
def mkSorted (w : World) (B : Nat) (v : Value) (l : List MkR) (e : Ending) (w' : World) : Prop := e = .returned (.tuple #[]) ∧ ∃ l', l'.Perm l ∧ SortedC cfM l' ∧ OwnC mkE w' B v l' ∧ Grown w w' v.ownBlock ∧ DigKeep w w'
set_option maxHeartbeats 400000 in
theorem mk_stable {w : World} {B : Nat} {v : Value} {l : List MkR} (hown : OwnC mkE w B v l) (hn : l.length ≤ 19) (hcmp : CmpOk_mk w l) :
    Calls Tryz.prog 113 #[v, .int .i64 l.length, .func (.func 95) #[] #[]] w (mkSorted w B v l) := by
  obtain ⟨n, hln⟩ : ∃ n, n = l.length := ⟨_, rfl⟩
  have HI : Hid (Calls Tryz.prog 122 #[v, .int .i64 0, .int .i64 n, .func (.func 95) #[] #[]] w (mkSorted w B v l)) := Lib.hid (by
    rcases Nat.eq_zero_or_pos l.length with h0 | h0
    · have e : l = [] := List.eq_nil_of_length_eq_zero h0
      subst e
      obtain ⟨A, c, rfl, _, _⟩ := hown.own.len
      rw [hln]
      exact (mk_insert0 A c _ w).mono fun e w' ⟨h1, h2⟩ => by subst h2; exact ⟨h1, [], List.Perm.refl _, List.Pairwise.nil, hown, ⟨⟨rfl, rfl, rfl, Nat.le_refl _, fun _ _ _ => rfl⟩, Nat.le_refl _⟩, DigKeep.refl _⟩
    · obtain ⟨g, cap, rfl, _, _⟩ := hown.own.head h0
      rw [hln]
      exact (mk_insert hown h0 (by omega) hcmp).mono fun e w' ⟨h1, l', h2, h3, h4, h5, h6⟩ => ⟨h1, l', h2, h3, h4, ⟨⟨h5.os, h5.tape, h5.output, h5.size, fun k hk hne => h5.block k hk (fun e => hne (by rw [e]; rfl))⟩, h5.drawn⟩, h6⟩)
  rw [← hln] at hn ⊢
  clear hln hcmp
  go_enter Tryz.func113, Tryz.ntmps113
  go_wp2_with fail
  go_loopw [7, 8] (fun a b wr => a = .int .i64 0 ∧ b = .int .i64 20 ∧ wr = w) (fun _ _ _ => 0)
  case atStart => exact ⟨rfl, rfl, rfl⟩
  case round =>
    obtain ⟨rfl, rfl, rfl⟩ := hrel
    have d1 : ¬ (20 : Int) ≤ (n : Int) := by omega
    go_wp2_with fail
    refine HI.out.mono ?_
    rintro e w1 ⟨rfl, hres⟩
    have HR := Lib.hid hres
    clear hres HI
    go_wp2_with fail
    go_loopw [6, 7, 8, 9] (fun s _ _ _ wr => s = .int .i64 20 ∧ wr = w1) (fun _ _ _ _ _ => 0)
    case atStart => exact ⟨rfl, rfl⟩
    case round =>
      obtain ⟨rfl, rfl⟩ := hrel
      have d2 : ¬ (20 : Int) < (n : Int) := by omega
      go_wp2
      go_end0
      exact ⟨rfl, HR.out⟩
set_option maxHeartbeats 400000 in
theorem mk_sort {w : World} {B : Nat} {v : Value} {l : List MkR} (hown : OwnC mkE w B v l) (hn : l.length ≤ 19) (hcmp : CmpOk_mk w l) :
    Calls Tryz.prog 94 #[v, .func (.func 95) #[] #[]] w (mkSorted w B v l) := by
  have HS := Lib.hid (mk_stable hown hn hcmp)
  obtain ⟨A, c, rfl, _, _⟩ := hown.own.len
  generalize l.length = n at *
  clear hown hcmp
  go_enter Tryz.func94, Tryz.ntmps94
  go_wp2_with fail
  refine HS.out.mono ?_
  rintro e w1 ⟨rfl, hres⟩
  have HR := Lib.hid hres
  clear hres HS
  go_wp2
  go_end0
  exact ⟨rfl, HR.out⟩
end Go.Proofs.YtodefmfgoehkhaaGreat
