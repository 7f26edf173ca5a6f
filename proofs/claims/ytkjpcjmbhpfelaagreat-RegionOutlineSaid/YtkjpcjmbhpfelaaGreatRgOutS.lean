/- Outlines of the program: rings sorted by their first points, off the kit's shelf. -/
import Derived.Test.YtkjpcjmbhpfelaaGreatZF
import Derived.Shelf.SlSortCmp.Whole1
set_option linter.unusedVariables false
set_option linter.unusedSimpArgs false
namespace Go.Proofs
open Go.Shelf Go.Lib
def Tryz.sortRingL_ren : Go.Shelf.Ren := ⟨fun | 6 => 17 | 15 => 39 | 14 => 38 | 28 => 60 | 29 => 61 | 20 => 52 | 21 => 53 | 22 => 54 | 23 => 55 | 24 => 56 | 25 => 57 | 26 => 58 | 27 => 59 | 46 => 73 | 47 => 74 | 48 => 75 | 49 => 76 | 50 => 77 | 57 => 89 | n => n, fun | 22 => 25 | 24 => 48 | 25 => 52 | 3 => 3 | 39 => 79 | 0 => 0 | 53 => 104 | 55 => 106 | 4 => 4 | 46 => 97 | 45 => 96 | 50 => 101 | 5 => 5 | 9 => 9 | 66 => 117 | 70 => 121 | 76 => 132 | 77 => 133 | n => n, fun | n => n⟩
theorem Tryz.sortRingL : Go.Proofs.SlLaysF.n6 Tryz.prog Tryz.sortRingL_ren := {
  mixed := by kernel_rfl
  f6 := ⟨Tryz.f17.name, by decide, Tryz.func17.trans (congrArg some (by kernel_rfl))⟩
  f14 := ⟨Tryz.f38.name, by decide, Tryz.func38.trans (congrArg some (by kernel_rfl))⟩
  f15 := Tryz.func39.trans (congrArg some (by kernel_rfl))
  f20 := ⟨Tryz.f52.name, by decide, Tryz.func52.trans (congrArg some (by kernel_rfl))⟩
  f21 := ⟨Tryz.f53.name, by decide, Tryz.func53.trans (congrArg some (by kernel_rfl))⟩
  f22 := ⟨Tryz.f54.name, by decide, Tryz.func54.trans (congrArg some (by kernel_rfl))⟩
  f23 := ⟨Tryz.f55.name, by decide, Tryz.func55.trans (congrArg some (by kernel_rfl))⟩
  f24 := ⟨Tryz.f56.name, by decide, Tryz.func56.trans (congrArg some (by kernel_rfl))⟩
  f25 := ⟨Tryz.f57.name, by decide, Tryz.func57.trans (congrArg some (by kernel_rfl))⟩
  f26 := ⟨Tryz.f58.name, by decide, Tryz.func58.trans (congrArg some (by kernel_rfl))⟩
  f27 := ⟨Tryz.f59.name, by decide, Tryz.func59.trans (congrArg some (by kernel_rfl))⟩
  f28 := Tryz.func60.trans (congrArg some (by kernel_rfl))
  f29 := Tryz.func61.trans (congrArg some (by kernel_rfl))
  f46 := ⟨Tryz.f73.name, by decide, Tryz.func73.trans (congrArg some (by kernel_rfl))⟩
  f47 := Tryz.func74.trans (congrArg some (by kernel_rfl))
  f48 := Tryz.func75.trans (congrArg some (by kernel_rfl))
  f49 := ⟨Tryz.f76.name, by decide, Tryz.func76.trans (congrArg some (by kernel_rfl))⟩
  f50 := ⟨Tryz.f77.name, by decide, Tryz.func77.trans (congrArg some (by kernel_rfl))⟩
  f57 := ⟨Tryz.f89.name, by decide, Tryz.func89.trans (congrArg some (by kernel_rfl))⟩
  t0 := Tryz.underlying0
  a0 := Tryz.isAgg0
  z0 := Tryz.sizeOf0
  v0 := Tryz.zeroValue0
  t3 := Tryz.underlying3
  a3 := Tryz.isAgg3
  z3 := Tryz.sizeOf3
  v3 := Tryz.zeroValue3
  t4 := Tryz.underlying4
  a4 := Tryz.isAgg4
  z4 := Tryz.sizeOf4
  v4 := Tryz.zeroValue4
  t5 := Tryz.underlying5
  a5 := Tryz.isAgg5
  z5 := Tryz.sizeOf5
  v5 := Tryz.zeroValue5
  t9 := Tryz.underlying9
  a9 := Tryz.isAgg9
  z9 := Tryz.sizeOf9
  v9 := Tryz.zeroValue9
  t22 := Tryz.underlying25
  a22 := Tryz.isAgg25
  z22 := Tryz.sizeOf25
  v22 := Tryz.zeroValue25
  a24 := Tryz.isAgg48
  z24 := Tryz.sizeOf48
  t25 := Tryz.underlying52
  a25 := Tryz.isAgg52
  z25 := Tryz.sizeOf52
  v25 := Tryz.zeroValue52
  t39 := Tryz.underlying79
  a39 := Tryz.isAgg79
  z39 := Tryz.sizeOf79
  v39 := Tryz.zeroValue79
  t45 := Tryz.underlying96
  a45 := Tryz.isAgg96
  z45 := Tryz.sizeOf96
  v45 := Tryz.zeroValue96
  t46 := Tryz.underlying97
  a46 := Tryz.isAgg97
  z46 := Tryz.sizeOf97
  v46 := Tryz.zeroValue97
  t50 := Tryz.underlying101
  a50 := Tryz.isAgg101
  z50 := Tryz.sizeOf101
  v50 := Tryz.zeroValue101
  t53 := Tryz.underlying104
  a53 := Tryz.isAgg104
  z53 := Tryz.sizeOf104
  v53 := Tryz.zeroValue104
  t55 := Tryz.underlying106
  a55 := Tryz.isAgg106
  z55 := Tryz.sizeOf106
  v55 := Tryz.zeroValue106
  t66 := Tryz.underlying117
  a66 := Tryz.isAgg117
  z66 := Tryz.sizeOf117
  v66 := Tryz.zeroValue117
  t70 := Tryz.underlying121
  a70 := Tryz.isAgg121
  z70 := Tryz.sizeOf121
  v70 := Tryz.zeroValue121
  t76 := Tryz.underlying132
  a76 := Tryz.isAgg132
  z76 := Tryz.sizeOf132
  v76 := Tryz.zeroValue132
  t77 := Tryz.underlying133
  a77 := Tryz.isAgg133
  z77 := Tryz.sizeOf133
  v77 := Tryz.zeroValue133 }
end Go.Proofs
namespace Go.Proofs.YtkjpcjmbhpfelaaGreat
open Go.RowKit Go.Par Go.Reg Go.Sort Go.Lib

abbrev Sl := Option Addr × Nat × Nat
/-- slices of points, in a row -/
def ptsE : EL Tryz.prog Sl where
  enc := fun r => [.slice r.1 r.2.1 r.2.2]
  size := 1
  t := 48
  st := 25
  zero := .slice none 0 0
  bytes := 24
  len := fun _ => rfl
  one := fun x v hv => by simp at hv; rcases hv with rfl; rfl
  pos := by decide
  und := Tryz.underlying25
  info := by kernel_rfl
  zsize := rfl
  small := by decide
abbrev SlP := Sl × (Int × Int)
def encP (x : SlP) : Value := .slice x.1.1 x.1.2.1 x.1.2.2
/-- a slice whose first point is the one beside it -/
def FirstIs (w : World) (g : Nat) (x : SlP) : Prop := ∃ b o, x.1.1 = some ⟨b, o, none⟩ ∧ b ≠ g ∧ 0 < x.1.2.1 ∧ w.cell? ⟨b, o, none⟩ = some (.int .i64 x.2.1) ∧ w.cell? ⟨b, o + 1, none⟩ = some (.int .i64 x.2.2) ∧
  (-4294967296 ≤ x.2.1 ∧ x.2.1 ≤ 4294967296) ∧ (-4294967296 ≤ x.2.2 ∧ x.2.2 ≤ 4294967296)
theorem ptsE_cells (l : List Sl) : ptsE.cells l = l.map fun r => Value.slice r.1 r.2.1 r.2.2 := by
  induction l with
  | nil => rfl
  | cons x l ih => rw [EL.cells_cons, ih]; rfl
theorem ltOf_bef {α : Type} (f : α → Int × Int) (x y : α) : ltOf (fun a b => befS (f a) (f b)) x y = decide ((f x).2 < (f y).2 ∨ (f x).2 = (f y).2 ∧ (f x).1 < (f y).1) := by
  unfold ltOf befS
  show decide ((if (f x).2 = (f y).2 then (f x).1 - (f y).1 else (f x).2 - (f y).2) < 0) = _
  by_cases h : (f x).2 = (f y).2
  · rw [if_pos h]; simp [h]; omega
  · rw [if_neg h]; simp [h]; omega
theorem swo_bef {α : Type} (f : α → Int × Int) : SWO (ltOf fun a b => befS (f a) (f b)) where
  irrefl x := by rw [ltOf_bef]; simp
  trans x y z h1 h2 := by rw [ltOf_bef, decide_eq_true_eq] at *; omega
  ntrans x y z h1 h2 := by rw [ltOf_bef, decide_eq_false_iff_not] at *; omega
theorem kept_sort {α : Type} [Inhabited α] {w : World} {g : Nat} (enc : α → Value) (m : Nat) (d : Array α) (os : Array Obj) {b o : Nat} {v : Value} (hb : b ≠ g) (h : w.cell? ⟨b, o, none⟩ = some v) : (sortWorld enc w g 0 m d os).cell? ⟨b, o, none⟩ = some v := by
  have hg := grown_putRow (w := w) (g := g) enc 0 m d os
  have hlt : b < w.heap.size := lt_of_cell h
  rw [show sortWorld enc w g 0 m d os = grow (putRow enc (Sort.ahead w m) g 0 d) os from rfl]
  rw [World.cell?_of_block (hg.block b hlt (fun e => hb (by injection e)))]
  exact h
theorem sortRings_any {w : World} {B g n cap : Nat} {τ : Type} (pr : τ → SlP) {zs : List τ} (h : ptsE.Own w B (.slice (some ⟨g, 0, none⟩) n cap) (zs.map fun x => (pr x).1)) (hn : zs.length = n) (h0 : 0 < n) (hb : n ≤ 100000000) (hf : ∀ x ∈ zs, FirstIs w g (pr x)) :
    Calls Tryz.prog 17 #[.slice (some ⟨g, 0, none⟩) n cap, .func (.func 18) #[] #[]] w fun e w' =>
      e = .returned (.tuple #[]) ∧ ∃ zs' : List τ, zs'.Perm zs ∧ zs'.Pairwise (fun a b => ¬ ((pr b).2.2 < (pr a).2.2 ∨ (pr b).2.2 = (pr a).2.2 ∧ (pr b).2.1 < (pr a).2.1)) ∧ ptsE.Own w' B (.slice (some ⟨g, 0, none⟩) n cap) (zs'.map fun x => (pr x).1) ∧ w.grownBy w' (some g) := by
  obtain ⟨z0, hz0⟩ : ∃ z, z ∈ zs := by
    cases zs with
    | nil => simp at hn; omega
    | cons z zs => exact ⟨z, List.mem_cons_self⟩
  let α := {x : τ // x ∈ zs}
  letI : Inhabited α := ⟨⟨z0, hz0⟩⟩
  let enc : α → Value := fun x => encP (pr x.1)
  let cf : α → α → Int := fun a b => befS (pr a.1).2 (pr b.1).2
  let l : List α := zs.attach
  have hl : l.length = n := by rw [List.length_attach, hn]
  have hs : l.toArray.size = n := by rw [List.size_toArray, hl]
  have hlv : l.map (fun x => x.1) = zs := List.attach_map_subtype_val zs
  have eg : ∀ args w, (callFunc 18 args).run Tryz.prog w = .ok (.enter 18 args) w := enters_of Tryz.func18 (by kernel_rfl) rfl
  have hc1 : OneCell enc := fun x => rfl
  have hcmp : CmpLays1 Tryz.prog 18 #[] enc cf g 0 l.toArray.size w := fun m os dk _ x y => by
    obtain ⟨b1, o1, e1, n1, p1, k1, k2, k3, k4⟩ := hf x.1 x.2
    obtain ⟨b2, o2, e2, n2, p2, j1, j2, j3, j4⟩ := hf y.1 y.2
    have hx : enc x = .slice (some ⟨b1, o1, none⟩) (pr x.1).1.2.1 (pr x.1).1.2.2 := by show encP (pr x.1) = _; unfold encP; rw [e1]
    have hy : enc y = .slice (some ⟨b2, o2, none⟩) (pr y.1).1.2.1 (pr y.1).1.2.2 := by show encP (pr y.1) = _; unfold encP; rw [e2]
    rw [hx, hy]
    exact (cmpRing_d _ _ _ _ b1 o1 _ _ b2 o2 _ _ _ ⟨k3, k4, j3, j4⟩ p1 p2 (kept_sort enc m dk os n1 k1) (kept_sort enc m dk os n1 k2) (kept_sort enc m dk os n2 j1) (kept_sort enc m dk os n2 j2)).mono fun e w' ⟨q1, q2⟩ => ⟨q1, extD_grow ⟨q2.1, q2.2⟩⟩
  have hH : Holds enc w g 0 l.toArray := fun j hj => by
    have hj' : j < l.length := by simpa using hj
    rw [Nat.zero_add]
    have hz : (zs.map fun x => (pr x).1)[j]? = some (pr (l[j].1)).1 := by
      have e0 := List.getElem?_map (f := fun x : α => x.1) (l := l) (i := j)
      rw [hlv, List.getElem?_eq_getElem hj'] at e0
      rw [List.getElem?_map, e0]
      rfl
    have k1 := h.cell (i := j) (j := 0) hz rfl
    have e1 : ptsE.size = 1 := rfl
    rw [e1, Nat.mul_one, Nat.add_zero] at k1
    refine ⟨?_, h.frozen⟩
    rw [k1, getElem!_pos l.toArray j hj]
    rfl
  have hcon := Any.slices_SortFunc Tryz.sortRingL enc hc1 cf (swo_bef fun x : α => (pr x.1).2) 18 #[] g 0 cap l.toArray w eg hcmp hH h.lt (by rw [hs]; omega)
  rw [hs] at hcon
  refine Calls.mono hcon ?_
  rintro e w' ⟨rfl, d', m, os, hp, hso, rfl⟩
  obtain ⟨hsz, _, hperm⟩ := hp
  rw [hs] at hsz
  have hperm' : d'.toList.Perm l := by
    have e1 : d'.extract 0 n = d' := by rw [← hsz]; simp
    have e2 : l.toArray.extract 0 n = l.toArray := by rw [← hs]; simp
    rw [e1, e2] at hperm
    simpa using hperm
  refine ⟨rfl, d'.toList.map (fun x => x.1), ?_, ?_, ?_, grown_putRow _ _ _ _ _⟩
  · have := hperm'.map (fun x => x.1)
    rwa [hlv] at this
  · rw [List.pairwise_map, List.pairwise_iff_getElem]
    intro i j hi hj hij
    simp only [Array.length_toList] at hi hj
    have := hso i j (Nat.zero_le _) hij (by omega)
    rw [ltOf_bef, getElem!_pos d' i hi, getElem!_pos d' j hj, decide_eq_false_iff_not] at this
    simpa using this
  · refine EL.Own.ext ?_ (ext_grow _ os)
    obtain ⟨cur, hl2, hbg, hg, hcap, hm, hsz2, hc⟩ := h.opened
    refine EL.Own.mk (cur := putCells enc 0 d' cur) (by simp [hsz]) hbg ?_ hcap hm (by rw [← hsz2]; simp [putCells]) fun j v hv => ?_
    · unfold Box at hg ⊢
      show (w.heap.modify g _)[g]? = _
      rw [Array.getElem?_modify, if_pos rfl, hg]
      rfl
    · rw [ptsE_cells, List.map_map, List.map_map, List.getElem?_map] at hv
      obtain ⟨y, hy⟩ : ∃ y, d'.toList[j]? = some y := by
        cases hq : d'.toList[j]? with
        | none => rw [hq] at hv; cases hv
        | some y => exact ⟨y, rfl⟩
      rw [hy] at hv
      have hj := (List.getElem?_eq_some_iff.1 hy).1
      rw [Array.length_toList] at hj
      have hjc : j < cur.size := by rw [hsz2]; simp [ptsE]; omega
      unfold putCells
      rw [Array.getElem?_mapIdx, Array.getElem?_eq_getElem hjc]
      simp only [Option.map_some]
      rw [if_pos ⟨Nat.zero_le _, by omega⟩, Nat.sub_zero, getElem!_pos d' j hj]
      rw [← hv]
      rw [Array.getElem?_toList, Array.getElem?_eq_getElem hj] at hy
      injection hy with hy
      rw [hy]
      rfl
theorem sortNone_any (A : Option Addr) (c : Nat) (w : World) : Calls Tryz.prog 17 #[.slice A 0 c, .func (.func 18) #[] #[]] w fun e w' => e = .returned (.tuple #[]) ∧ w' = w :=
  AnyF.slices_SortFunc_none { Tryz.sortRingL with } A c _ w
end Go.Proofs.YtkjpcjmbhpfelaaGreat
