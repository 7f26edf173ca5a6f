/- Texts put together: RgSort, RgSortI, RgSortR, RgCuts. -/
import Derived.Test.YtkjpcjmbhpfelaaGreatZA
import Derived.Shelf.Sort.Plain
import Derived.Shelf.Slices.In.SortNone
import Derived.Shelf.Slices.CompactI
import Derived.Ground.NamesProg
import Derived.Ground.Names2Prog
import Derived.Shelf.Lay
import Derived.Shelf.SlSortCmp.WholeK
import Derived.Shelf.SlSortCmp.NoneTotal
import Derived.Ground.SlsfProg
/- slices.Sort and slices.Compact at []int, off the kit's shelf. -/
set_option linter.unusedVariables false
set_option linter.unusedSimpArgs false
namespace Go.Proofs
open Go.Shelf Go.Lib
def Tryz.laysSort_ren : Go.Shelf.Ren := ⟨fun | 189 => 65 | 125 => 39 | 257 => 82 | 128 => 60 | 129 => 61 | 294 => 93 | 295 => 94 | 296 => 95 | 297 => 96 | 298 => 97 | 299 => 98 | 216 => 99 | 300 => 100 | 301 => 101 | 328 => 111 | 329 => 74 | 330 => 75 | 331 => 112 | 332 => 113 | 215 => 87 | 343 => 117 | n => n, fun | 28 => 45 | 3 => 3 | 46 => 79 | 0 => 0 | 51 => 104 | 53 => 106 | 4 => 4 | 183 => 97 | 182 => 96 | 131 => 101 | 5 => 5 | 9 => 9 | 218 => 117 | 222 => 121 | 228 => 132 | 229 => 133 | n => n, fun | n => n⟩
theorem Tryz.laysSort : Go.Proofs.Lays.n189 Tryz.prog Tryz.laysSort_ren := {
  mixed := by kernel_rfl
  f125 := Tryz.func39.trans (congrArg some (by kernel_rfl))
  f128 := Tryz.func60.trans (congrArg some (by kernel_rfl))
  f129 := Tryz.func61.trans (congrArg some (by kernel_rfl))
  f189 := Tryz.func65.trans (congrArg some (by kernel_rfl))
  f215 := Tryz.func87.trans (congrArg some (by kernel_rfl))
  f216 := Tryz.func99.trans (congrArg some (by kernel_rfl))
  f257 := Tryz.func82.trans (congrArg some (by kernel_rfl))
  f294 := Tryz.func93.trans (congrArg some (by kernel_rfl))
  f295 := Tryz.func94.trans (congrArg some (by kernel_rfl))
  f296 := Tryz.func95.trans (congrArg some (by kernel_rfl))
  f297 := Tryz.func96.trans (congrArg some (by kernel_rfl))
  f298 := Tryz.func97.trans (congrArg some (by kernel_rfl))
  f299 := Tryz.func98.trans (congrArg some (by kernel_rfl))
  f300 := Tryz.func100.trans (congrArg some (by kernel_rfl))
  f301 := Tryz.func101.trans (congrArg some (by kernel_rfl))
  f328 := Tryz.func111.trans (congrArg some (by kernel_rfl))
  f329 := Tryz.func74.trans (congrArg some (by kernel_rfl))
  f330 := Tryz.func75.trans (congrArg some (by kernel_rfl))
  f331 := Tryz.func112.trans (congrArg some (by kernel_rfl))
  f332 := Tryz.func113.trans (congrArg some (by kernel_rfl))
  f343 := Tryz.func117.trans (congrArg some (by kernel_rfl))
  t0 := Tryz.underlying0
  a0 := Tryz.isAgg0
  z0 := Tryz.sizeOf0
  v0 := Tryz.zeroValue0
  t3 := Tryz.underlying3
  a3 := Tryz.isAgg3
  z3 := Tryz.sizeOf3
  v3 := Tryz.zeroValue3
  t4 := Tryz.underlying4
  a4 := Tryz.isAgg4
  z4 := Tryz.sizeOf4
  v4 := Tryz.zeroValue4
  t5 := Tryz.underlying5
  a5 := Tryz.isAgg5
  z5 := Tryz.sizeOf5
  v5 := Tryz.zeroValue5
  t9 := Tryz.underlying9
  a9 := Tryz.isAgg9
  z9 := Tryz.sizeOf9
  v9 := Tryz.zeroValue9
  t28 := Tryz.underlying45
  a28 := Tryz.isAgg45
  z28 := Tryz.sizeOf45
  v28 := Tryz.zeroValue45
  t46 := Tryz.underlying79
  a46 := Tryz.isAgg79
  z46 := Tryz.sizeOf79
  v46 := Tryz.zeroValue79
  t51 := Tryz.underlying104
  a51 := Tryz.isAgg104
  z51 := Tryz.sizeOf104
  v51 := Tryz.zeroValue104
  t53 := Tryz.underlying106
  a53 := Tryz.isAgg106
  z53 := Tryz.sizeOf106
  v53 := Tryz.zeroValue106
  t131 := Tryz.underlying101
  a131 := Tryz.isAgg101
  z131 := Tryz.sizeOf101
  v131 := Tryz.zeroValue101
  t182 := Tryz.underlying96
  a182 := Tryz.isAgg96
  z182 := Tryz.sizeOf96
  v182 := Tryz.zeroValue96
  t183 := Tryz.underlying97
  a183 := Tryz.isAgg97
  z183 := Tryz.sizeOf97
  v183 := Tryz.zeroValue97
  t218 := Tryz.underlying117
  a218 := Tryz.isAgg117
  z218 := Tryz.sizeOf117
  v218 := Tryz.zeroValue117
  t222 := Tryz.underlying121
  a222 := Tryz.isAgg121
  z222 := Tryz.sizeOf121
  v222 := Tryz.zeroValue121
  t228 := Tryz.underlying132
  a228 := Tryz.isAgg132
  z228 := Tryz.sizeOf132
  v228 := Tryz.zeroValue132
  t229 := Tryz.underlying133
  a229 := Tryz.isAgg133
  z229 := Tryz.sizeOf133
  v229 := Tryz.zeroValue133 }
def Tryz.laysComp_ren : Go.Shelf.Ren := ⟨fun | 20 => 67 | n => n, fun | 22 => 45 | 3 => 3 | 4 => 4 | 0 => 0 | n => n, fun | n => n⟩
theorem Tryz.laysComp : Go.Proofs.Lays2.n20 Tryz.prog Tryz.laysComp_ren := {
  mixed := by kernel_rfl
  f20 := Tryz.func67.trans (congrArg some (by kernel_rfl))
  t0 := Tryz.underlying0
  a0 := Tryz.isAgg0
  z0 := Tryz.sizeOf0
  v0 := Tryz.zeroValue0
  t3 := Tryz.underlying3
  a3 := Tryz.isAgg3
  z3 := Tryz.sizeOf3
  v3 := Tryz.zeroValue3
  t4 := Tryz.underlying4
  a4 := Tryz.isAgg4
  z4 := Tryz.sizeOf4
  v4 := Tryz.zeroValue4
  t22 := Tryz.underlying45
  a22 := Tryz.isAgg45
  z22 := Tryz.sizeOf45
  v22 := Tryz.zeroValue45
  i3 := by kernel_rfl }
end Go.Proofs

/- Rows of numbers sorted and compacted by the library. -/
set_option linter.unusedVariables false
set_option linter.unusedSimpArgs false
namespace Go.Proofs.YtkjpcjmbhpfelaaGreat
open Go.RowKit Go.Par Go.Reg Go.Sort Go.Lib
theorem intE_cells (l : List Int) : intE.cells l = l.map (fun x => Value.int .i64 x) := by
  induction l with
  | nil => rfl
  | cons x l ih => rw [EL.cells_cons, ih]; rfl
theorem ext_grow (W : World) (os : Array Obj) : Ext W (grow W os) :=
  ⟨rfl, rfl, rfl, by simp [grow], fun k hk => by simp [grow, Array.getElem?_append_left hk]⟩
theorem grown_putRow {α : Type} [Inhabited α] {w : World} {g : Nat} (enc : α → Value) (off m : Nat) (d : Array α) (os : Array Obj) : w.grownBy (grow (putRow enc (Sort.ahead w m) g off d) os) (some g) := by
  have h := ext_grow (putRow enc (Sort.ahead w m) g off d) os
  have hs : (putRow enc (Sort.ahead w m) g off d).heap.size = w.heap.size := by show (w.heap.modify g _).size = _; rw [Array.size_modify]
  refine ⟨rfl, rfl, rfl, by have := h.size; omega, fun k hk hne => ?_⟩
  rw [Below.block h k (by omega)]
  show (w.heap.modify g _)[k]? = _
  rw [Array.getElem?_modify, if_neg (fun e => hne (by rw [e]))]
theorem intOwn_holds {w : World} {B g n cap : Nat} {l : List Int} (h : intE.Own w B (.slice (some ⟨g, 0, none⟩) n cap) l) : Holds (Value.int .i64) w g 0 l.toArray := fun j hj => by
  have hj' : j < l.length := by simpa using hj
  rw [Nat.zero_add]
  have h1 := h.cell (i := j) (j := 0) (List.getElem?_eq_getElem hj') rfl
  have e1 : intE.size = 1 := rfl
  rw [e1, Nat.mul_one, Nat.add_zero] at h1
  refine ⟨?_, h.frozen⟩
  rw [h1, getElem!_pos l.toArray j hj]
  rfl
theorem intOwn_put {w : World} {B g n cap : Nat} {l : List Int} (h : intE.Own w B (.slice (some ⟨g, 0, none⟩) n cap) l) (d : Array Int) (hd : d.size = n) (m : Nat) : intE.Own (putRow (Value.int .i64) (Sort.ahead w m) g 0 d) B (.slice (some ⟨g, 0, none⟩) n cap) d.toList := by
  obtain ⟨cur, hl, hb, hg, hcap, hm, hs, hc⟩ := h.opened
  refine EL.Own.mk (cur := putCells (Value.int .i64) 0 d cur) (by simp [hd]) hb ?_ hcap hm (by rw [← hs]; simp [putCells]) fun j v hv => ?_
  · unfold Box at hg ⊢
    show (w.heap.modify g _)[g]? = _
    rw [Array.getElem?_modify, if_pos rfl, hg]
    rfl
  · rw [intE_cells, List.getElem?_map] at hv
    obtain ⟨y, hy⟩ : ∃ y, d.toList[j]? = some y := by
      cases hq : d.toList[j]? with
      | none => rw [hq] at hv; cases hv
      | some y => exact ⟨y, rfl⟩
    rw [hy] at hv
    have hj := (List.getElem?_eq_some_iff.1 hy).1
    rw [Array.length_toList] at hj
    have hjc : j < cur.size := by rw [hs]; simp [intE]; omega
    unfold putCells
    rw [Array.getElem?_mapIdx, Array.getElem?_eq_getElem hjc]
    simp only [Option.map_some]
    rw [if_pos ⟨Nat.zero_le _, by omega⟩, Nat.sub_zero, getElem!_pos d j hj]
    rw [← hv]
    rw [Array.getElem?_toList, Array.getElem?_eq_getElem hj] at hy
    injection hy with hy
    rw [hy]
    rfl
theorem sortInts_any {w : World} {B : Nat} {v : Value} {l : List Int} (h : intE.Own w B v l) (hn : l.length ≤ 10000000) :
    Calls Tryz.prog 65 #[v] w fun e w' => e = .returned (.tuple #[]) ∧ ∃ l', l'.Perm l ∧ l'.Pairwise (· ≤ ·) ∧ intE.Own w' B v l' ∧ w.grownBy w' v.ownBlock := by
  rcases Nat.eq_zero_or_pos l.length with h0 | h0
  · have e : l = [] := List.eq_nil_of_length_eq_zero h0
    subst e
    obtain ⟨A, c, rfl, _, _⟩ := h.len
    refine (Any.slices_Sort_int_none Tryz.laysSort A c w).mono fun e w' ⟨h1, h2⟩ => ?_
    subst h2
    exact ⟨h1, [], List.Perm.refl _, List.Pairwise.nil, h, ⟨rfl, rfl, rfl, Nat.le_refl _, fun _ _ _ => rfl⟩⟩
  · obtain ⟨g, cap, rfl, hb, hcap⟩ := h.head h0
    refine (Any.slices_Sort_int Tryz.laysSort g 0 cap l w (intOwn_holds h) h.lt (by omega)).mono ?_
    rintro e w' ⟨rfl, m, os, rfl⟩
    have hp := List.mergeSort_perm l (fun x y => decide (x ≤ y))
    refine ⟨rfl, l.mergeSort (fun x y => decide (x ≤ y)), hp, ?_, ?_, grown_putRow _ _ _ _ _⟩
    · have := List.pairwise_mergeSort (le := fun x y : Int => decide (x ≤ y)) (fun a b c h1 h2 => by simp only [decide_eq_true_eq] at *; omega) (fun a b => by simp only [Bool.or_eq_true, decide_eq_true_eq]; omega) l
      exact this.imp fun h => by simpa using h
    · exact (intOwn_put h _ (by rw [List.size_toArray, hp.length_eq]) m).ext (ext_grow _ os)
theorem compact_sorted {zs : List Int} (hs : zs.Pairwise (· ≤ ·)) : (Lib.compact zs).Pairwise (· < ·) ∧ ∀ x, x ∈ Lib.compact zs ↔ x ∈ zs := by
  have key : ∀ m, m ≤ zs.length → (compactUpTo zs.toArray m).Pairwise (· < ·) ∧ (∀ x, x ∈ compactUpTo zs.toArray m ↔ x ∈ zs.take m) := fun m => by
    induction m with
    | zero => intro _; simp [compactUpTo]
    | succ m ih =>
      intro hm
      obtain ⟨h1, h2⟩ := ih (by omega)
      have hlt : m < zs.length := hm
      have hx : zs.toArray[m]! = zs[m] := by rw [getElem!_pos zs.toArray m (by simpa using hlt)]; simp
      have ht : zs.take (m + 1) = zs.take m ++ [zs[m]] := by rw [List.take_add_one, List.getElem?_eq_getElem hlt]; rfl
      have hle : ∀ x ∈ zs.take m, x ≤ zs[m] := fun x hxm => by
        obtain ⟨i, hi, rfl⟩ := List.getElem_of_mem hxm
        rw [List.getElem_take]
        rw [List.length_take] at hi
        exact List.pairwise_iff_getElem.1 hs i m (by omega) hlt (by omega)
      rw [compactUpTo_succ, ht, hx]
      by_cases hk : keeps zs.toArray m = true
      · rw [if_pos hk]
        have hlt2 : ∀ x ∈ zs.take m, x < zs[m] := fun x hxm => by
          have h3 := hle x hxm
          obtain ⟨i, hi, rfl⟩ := List.getElem_of_mem hxm
          rw [List.getElem_take] at h3 ⊢
          rw [List.length_take] at hi
          have h0 : m ≠ 0 := by omega
          have hne : zs[m] ≠ zs[m - 1] := by
            unfold keeps at hk
            simp only [decide_eq_true_eq] at hk
            rcases hk with hk | hk
            · omega
            · rw [hx, getElem!_pos zs.toArray (m - 1) (by simp; omega)] at hk
              simpa using hk
          have h4 := List.pairwise_iff_getElem.1 hs (m - 1) m (by omega) hlt (by omega)
          rcases Nat.lt_or_ge i (m - 1) with k | k
          · have := List.pairwise_iff_getElem.1 hs i (m - 1) (by omega) (by omega) k; omega
          · have : i = m - 1 := by omega
            subst this; omega
        refine ⟨List.pairwise_append.2 ⟨h1, List.pairwise_singleton _ _, fun x hx y hy => by rw [List.mem_singleton.1 hy]; exact hlt2 x ((h2 x).1 hx)⟩, fun x => ?_⟩
        rw [List.mem_append, List.mem_append, h2]
      · rw [if_neg hk, List.append_nil]
        refine ⟨h1, fun x => ?_⟩
        rw [h2, List.mem_append, List.mem_singleton]
        refine ⟨.inl, fun e => e.elim id fun e => ?_⟩
        subst e
        unfold keeps at hk
        simp only [decide_eq_true_eq, not_or, ne_eq, Decidable.not_not] at hk
        obtain ⟨k0, k1⟩ := hk
        have hm1 : m - 1 < zs.length := by omega
        rw [hx, getElem!_pos zs.toArray (m - 1) (by simpa using hm1)] at k1
        have k2 : zs[m] = zs[m - 1] := by simpa using k1
        rw [k2, List.mem_take_iff_getElem]
        exact ⟨m - 1, by omega, rfl⟩
  have := key zs.length (Nat.le_refl _)
  rw [List.take_length] at this
  exact this
theorem compInts_any {w : World} {B : Nat} {v : Value} {l : List Int} (h : intE.Own w B v l) (hn : l.length ≤ 10000000) (hs : l.Pairwise (· ≤ ·)) :
    Calls Tryz.prog 67 #[v] w fun e w' => ∃ v' l', e = .returned v' ∧ l'.Pairwise (· < ·) ∧ (∀ x, x ∈ l' ↔ x ∈ l) ∧ l'.length ≤ l.length ∧ intE.Own w' B v' l' ∧ w.grownBy w' v.ownBlock := by
  rcases Nat.eq_zero_or_pos l.length with h0 | h0
  · have e : l = [] := List.eq_nil_of_length_eq_zero h0
    subst e
    obtain ⟨A, c, rfl, _, _⟩ := h.len
    refine (Any.slices_Compact_int_empty Tryz.laysComp A c w).mono fun e w' ⟨h1, h2⟩ => ?_
    subst h2
    exact ⟨_, [], h1, List.Pairwise.nil, fun x => Iff.rfl, Nat.le_refl _, h, ⟨rfl, rfl, rfl, Nat.le_refl _, fun _ _ _ => rfl⟩⟩
  · obtain ⟨g, cap, rfl, hb, hcap⟩ := h.head h0
    refine (Any.slices_Compact_int Tryz.laysComp g 0 cap l w (intOwn_holds h) (by omega) hcap).mono ?_
    rintro e w' ⟨rfl, q, rfl⟩
    obtain ⟨k1, k2⟩ := compact_sorted hs
    have hlen : (Lib.compact l).length ≤ l.length := by
      have hnd : (Lib.compact l).Nodup := k1.imp fun h => by omega
      unfold Lib.compact compactUpTo
      rw [List.length_map]
      have := List.length_filter_le (keeps l.toArray) (List.range l.length)
      rw [List.length_range] at this
      exact this
    have hput := intOwn_put h (Lib.compact l ++ List.replicate (l.length - (Lib.compact l).length) 0).toArray (by simp; omega) q
    have hcut := EL.Own.cut (k := (Lib.compact l).length) hput hlen
    refine ⟨_, Lib.compact l, rfl, k1, k2, hlen, ?_, ?_⟩
    · simpa using hcut
    · have := grown_putRow (w := w) (g := g) (Value.int .i64) 0 q (Lib.compact l ++ List.replicate (l.length - (Lib.compact l).length) 0).toArray #[]
      have e : ∀ W : World, grow W #[] = W := fun W => by simp [grow]
      rw [e] at this
      exact this
end Go.Proofs.YtkjpcjmbhpfelaaGreat

/- slices.SortFunc at runs, by their begin, off the kit's shelf. -/
set_option linter.unusedVariables false
set_option linter.unusedSimpArgs false
namespace Go.Proofs
open Go.Shelf Go.Lib
def Tryz.sortRunL_ren : Go.Shelf.Ren := ⟨fun | 6 => 69 | 15 => 39 | 14 => 86 | 28 => 60 | 29 => 61 | 20 => 103 | 21 => 104 | 22 => 105 | 23 => 106 | 24 => 107 | 25 => 108 | 26 => 109 | 27 => 110 | 46 => 114 | 47 => 74 | 48 => 75 | 49 => 115 | 50 => 116 | 57 => 118 | n => n, fun | 22 => 85 | 24 => 92 | 25 => 116 | 3 => 3 | 39 => 79 | 0 => 0 | 53 => 104 | 55 => 106 | 4 => 4 | 46 => 97 | 45 => 96 | 50 => 101 | 5 => 5 | 9 => 9 | 66 => 117 | 70 => 121 | 76 => 132 | 77 => 133 | n => n, fun | n => n⟩
theorem Tryz.sortRunL : Go.Proofs.SlLaysF0.n6 Tryz.prog Tryz.sortRunL_ren := {
  mixed := by kernel_rfl
  f6 := ⟨Tryz.f69.name, by decide, Tryz.func69.trans (congrArg some (by kernel_rfl))⟩
  f14 := ⟨Tryz.f86.name, by decide, Tryz.func86.trans (congrArg some (by kernel_rfl))⟩
  f15 := Tryz.func39.trans (congrArg some (by kernel_rfl))
  f20 := ⟨Tryz.f103.name, by decide, Tryz.func103.trans (congrArg some (by kernel_rfl))⟩
  f21 := ⟨Tryz.f104.name, by decide, Tryz.func104.trans (congrArg some (by kernel_rfl))⟩
  f22 := ⟨Tryz.f105.name, by decide, Tryz.func105.trans (congrArg some (by kernel_rfl))⟩
  f23 := ⟨Tryz.f106.name, by decide, Tryz.func106.trans (congrArg some (by kernel_rfl))⟩
  f24 := ⟨Tryz.f107.name, by decide, Tryz.func107.trans (congrArg some (by kernel_rfl))⟩
  f25 := ⟨Tryz.f108.name, by decide, Tryz.func108.trans (congrArg some (by kernel_rfl))⟩
  f26 := ⟨Tryz.f109.name, by decide, Tryz.func109.trans (congrArg some (by kernel_rfl))⟩
  f27 := ⟨Tryz.f110.name, by decide, Tryz.func110.trans (congrArg some (by kernel_rfl))⟩
  f28 := Tryz.func60.trans (congrArg some (by kernel_rfl))
  f29 := Tryz.func61.trans (congrArg some (by kernel_rfl))
  f46 := ⟨Tryz.f114.name, by decide, Tryz.func114.trans (congrArg some (by kernel_rfl))⟩
  f47 := Tryz.func74.trans (congrArg some (by kernel_rfl))
  f48 := Tryz.func75.trans (congrArg some (by kernel_rfl))
  f49 := ⟨Tryz.f115.name, by decide, Tryz.func115.trans (congrArg some (by kernel_rfl))⟩
  f50 := ⟨Tryz.f116.name, by decide, Tryz.func116.trans (congrArg some (by kernel_rfl))⟩
  f57 := ⟨Tryz.f118.name, by decide, Tryz.func118.trans (congrArg some (by kernel_rfl))⟩
  t0 := Tryz.underlying0
  a0 := Tryz.isAgg0
  z0 := Tryz.sizeOf0
  v0 := Tryz.zeroValue0
  t3 := Tryz.underlying3
  a3 := Tryz.isAgg3
  z3 := Tryz.sizeOf3
  v3 := Tryz.zeroValue3
  t4 := Tryz.underlying4
  a4 := Tryz.isAgg4
  z4 := Tryz.sizeOf4
  v4 := Tryz.zeroValue4
  t5 := Tryz.underlying5
  a5 := Tryz.isAgg5
  z5 := Tryz.sizeOf5
  v5 := Tryz.zeroValue5
  t9 := Tryz.underlying9
  a9 := Tryz.isAgg9
  z9 := Tryz.sizeOf9
  v9 := Tryz.zeroValue9
  t22 := Tryz.underlying85
  a22 := Tryz.isAgg85
  z22 := Tryz.sizeOf85
  v22 := Tryz.zeroValue85
  t25 := Tryz.underlying116
  a25 := Tryz.isAgg116
  z25 := Tryz.sizeOf116
  v25 := Tryz.zeroValue116
  t39 := Tryz.underlying79
  a39 := Tryz.isAgg79
  z39 := Tryz.sizeOf79
  v39 := Tryz.zeroValue79
  t45 := Tryz.underlying96
  a45 := Tryz.isAgg96
  z45 := Tryz.sizeOf96
  v45 := Tryz.zeroValue96
  t46 := Tryz.underlying97
  a46 := Tryz.isAgg97
  z46 := Tryz.sizeOf97
  v46 := Tryz.zeroValue97
  t50 := Tryz.underlying101
  a50 := Tryz.isAgg101
  z50 := Tryz.sizeOf101
  v50 := Tryz.zeroValue101
  t53 := Tryz.underlying104
  a53 := Tryz.isAgg104
  z53 := Tryz.sizeOf104
  v53 := Tryz.zeroValue104
  t55 := Tryz.underlying106
  a55 := Tryz.isAgg106
  z55 := Tryz.sizeOf106
  v55 := Tryz.zeroValue106
  t66 := Tryz.underlying117
  a66 := Tryz.isAgg117
  z66 := Tryz.sizeOf117
  v66 := Tryz.zeroValue117
  t70 := Tryz.underlying121
  a70 := Tryz.isAgg121
  z70 := Tryz.sizeOf121
  v70 := Tryz.zeroValue121
  t76 := Tryz.underlying132
  a76 := Tryz.isAgg132
  z76 := Tryz.sizeOf132
  v76 := Tryz.zeroValue132
  t77 := Tryz.underlying133
  a77 := Tryz.isAgg133
  z77 := Tryz.sizeOf133
  v77 := Tryz.zeroValue133 }
end Go.Proofs
namespace Go.Par
open Go.RowKit Go.Sort Go.Lib
section
variable {P : Program} {α : Type} [Inhabited α] {E : EL P α} {w : World} {B g n cap : Nat} {l : List α}
theorem EL.flat_cell {d : Array α} {j : Nat} (hj : j < d.size * E.size) : (E.cells d.toList)[j]? = some ((flatK E.enc E.size d)[j]!) := by
  have hp := E.pos
  have hi : j / E.size < d.size := Nat.div_lt_of_lt_mul (by rw [Nat.mul_comm]; exact hj)
  have hr := Nat.mod_lt j hp
  have e1 := get_flatK E.enc E.size d j hj
  have e2 : d[j / E.size]! = d[j / E.size] := getElem!_pos d _ hi
  rw [e1, e2]
  have hx : d.toList[j / E.size]? = some d[j / E.size] := by rw [Array.getElem?_toList, Array.getElem?_eq_getElem hi]
  have hv : (E.enc d[j / E.size])[j % E.size]? = some ((E.enc d[j / E.size])[j % E.size]!) := by
    have : j % E.size < (E.enc d[j / E.size]).length := by rw [E.len]; exact hr
    rw [List.getElem?_eq_getElem this, getElem!_pos (E.enc d[j / E.size]) (j % E.size) this]
  have := E.cells_at hx hv
  rwa [Nat.div_add_mod' j E.size] at this
theorem EL.Own.holdsK (h : E.Own w B (.slice (some ⟨g, 0, none⟩) n cap) l) : HoldsK E.enc E.size w g 0 l.toArray := fun j hj => by
  rw [size_flatK, List.size_toArray] at hj
  rw [Nat.zero_add]
  obtain ⟨cur, hl, hb, hg, hcap, hm, hs, hc⟩ := h.opened
  refine ⟨?_, hg.frozen j⟩
  rw [hg.cell]
  exact hc j _ (EL.flat_cell (d := l.toArray) (by simpa using hj))
theorem EL.Own.putK (h : E.Own w B (.slice (some ⟨g, 0, none⟩) n cap) l) (d : Array α) (hd : d.size = n) (m : Nat) : E.Own (putRowK E.enc E.size (Sort.ahead w m) g 0 d) B (.slice (some ⟨g, 0, none⟩) n cap) d.toList := by
  obtain ⟨cur, hl, hb, hg, hcap, hm, hs, hc⟩ := h.opened
  refine EL.Own.mk (cur := putCells id 0 (flatK E.enc E.size d) cur) (by simp [hd]) hb ?_ hcap hm (by rw [← hs]; simp [putCells]) fun j v hv => ?_
  · unfold Box at hg ⊢
    show (w.heap.modify g _)[g]? = _
    rw [Array.getElem?_modify, if_pos rfl, hg]
    rfl
  · have hj := (List.getElem?_eq_some_iff.1 hv).1
    rw [E.cells_length, Array.length_toList] at hj
    have hfl := EL.flat_cell (E := E) hj
    rw [hv] at hfl
    injection hfl with hfl
    have hjc : j < cur.size := by
      rw [hs]
      have : d.size * E.size ≤ cap * E.size := Nat.mul_le_mul_right _ (by omega)
      omega
    unfold putCells
    rw [Array.getElem?_mapIdx, Array.getElem?_eq_getElem hjc]
    simp only [Option.map_some]
    rw [if_pos ⟨Nat.zero_le _, by rw [size_flatK]; omega⟩, Nat.sub_zero, ← hfl]
    rfl
end
theorem ext_grow (W : World) (os : Array Obj) : Ext W (grow W os) :=
  ⟨rfl, rfl, rfl, by simp [grow], fun k hk => by simp [grow, Array.getElem?_append_left hk]⟩
theorem grown_putRowK {α : Type} [Inhabited α] {w : World} {g : Nat} (enc : α → List Value) (k off m : Nat) (d : Array α) (os : Array Obj) : w.grownBy (grow (putRowK enc k (Sort.ahead w m) g off d) os) (some g) := by
  have h := ext_grow (putRowK enc k (Sort.ahead w m) g off d) os
  have hs : (putRowK enc k (Sort.ahead w m) g off d).heap.size = w.heap.size := by show (w.heap.modify g _).size = _; rw [Array.size_modify]
  refine ⟨rfl, rfl, rfl, by have := h.size; omega, fun k hk hne => ?_⟩
  rw [Below.block h k (by omega)]
  show (w.heap.modify g _)[k]? = _
  rw [Array.getElem?_modify, if_neg (fun e => hne (by rw [e]))]
/-- all that was there is as it was; no draw is taken back -/
def ExtD (w w' : World) : Prop := Ext w w' ∧ w.drawn ≤ w'.drawn
theorem extD_grow {w w' : World} (h : ExtD w w') : ∃ q os, w' = grow (w.drewN q) os := by
  obtain ⟨h, hd⟩ := h
  refine ⟨w'.drawn - w.drawn, w'.heap.extract w.heap.size w'.heap.size, ?_⟩
  have hh : w'.heap = w.heap ++ w'.heap.extract w.heap.size w'.heap.size := by
    apply Array.ext_getElem?
    intro i
    have hs := h.size
    by_cases hi : i < w.heap.size
    · rw [Array.getElem?_append_left hi]
      exact Below.block h i hi
    · rw [Array.getElem?_append_right (by omega), Array.getElem?_extract]
      by_cases hi2 : i < w'.heap.size
      · rw [if_pos (by omega)]
        congr 1
        omega
      · rw [if_neg (by omega), Array.getElem?_eq_none (by omega)]
  have e1 := Below.os h
  have e2 := Below.tape h
  have e3 := Below.output h
  cases w with
  | mk heap tape drawn os output =>
    cases w' with
    | mk heap' tape' drawn' os' output' =>
      simp only at e1 e2 e3 hh hd
      subst e1 e2 e3
      unfold grow World.drewN
      simp only [World.mk.injEq, true_and, and_true]
      exact ⟨hh, by omega⟩
end Go.Par
namespace Go.Proofs.YtkjpcjmbhpfelaaGreat
open Go.RowKit Go.Par Go.Reg Go.Sort Go.Lib


theorem isNaN_any (n : Int) (w : World) :
    Calls Tryz.prog 87 #[.int .i64 n] w fun e w' => e = .returned (.bool false) ∧ w = w' := by
  go_enter Tryz.func87, Tryz.ntmps87
  go_wp2
  go_ret
  exact ⟨ret_eq (by simp), rfl⟩
def cmpS (a b : Int) : Int := if a < b then -1 else if b < a then 1 else 0
theorem Compare_any (a b : Int) (w : World) :
    Calls Tryz.prog 71 #[.int .i64 a, .int .i64 b] w fun e w' => e = .returned (.int .i64 (cmpS a b)) ∧ w = w' := by
  go_enter Tryz.func71, Tryz.ntmps71
  go_wp2_with fail
  refine (isNaN_any _ _).mono ?_
  rintro e w1 ⟨rfl, rfl⟩
  go_wp2_with fail
  refine (isNaN_any _ _).mono ?_
  rintro e w1 ⟨rfl, rfl⟩
  by_cases h1 : a < b
  · have HR := Lib.hid (show cmpS a b = -1 from by unfold cmpS; rw [if_pos h1])
    have d1 : (a < b) = True := eq_true h1
    clear h1
    go_wp2
    go_ret
    exact ⟨ret_eq (by rw [HR.out]; rfl), rfl⟩
  · have d1 : (a < b) = False := eq_false h1
    by_cases h2 : b < a
    · have HR := Lib.hid (show cmpS a b = 1 from by unfold cmpS; rw [if_neg h1, if_pos h2])
      have d2 : (b < a) = True := eq_true h2
      clear h1 h2
      go_wp2
      go_ret
      exact ⟨ret_eq (by rw [HR.out]; rfl), rfl⟩
    · have HR := Lib.hid (show cmpS a b = 0 from by unfold cmpS; rw [if_neg h1, if_neg h2])
      have d2 : (b < a) = False := eq_false h2
      clear h1 h2
      go_wp2
      go_ret
      exact ⟨ret_eq (by rw [HR.out]; rfl), rfl⟩
set_option maxHeartbeats 800000 in
theorem runCmp_any (a b c d : Int) (w : World) :
    Calls Tryz.prog 70 #[.agg #[.int .i64 a, .int .i64 b], .agg #[.int .i64 c, .int .i64 d]] w fun e w' => e = .returned (.int .i64 (cmpS a c)) ∧ ExtD w w' := by
  have H := Lib.hid (fun W => Compare_any a c W)
  go_enter Tryz.func70, Tryz.ntmps70
  go_wp2_with fail
  refine (H.out _).mono ?_
  rintro e w1 ⟨rfl, rfl⟩
  go_wp2
  go_ret
  exact ⟨rfl, (Ext.alloc _ _).trans (Ext.alloc _ _), Nat.le_refl _⟩
theorem aggRun (w : World) : (isAgg 92).run Tryz.prog w = .ok true w := by kernel_rfl
theorem sizeRun (w : World) : (Go.sizeOf 92).run Tryz.prog w = .ok 2 w := by kernel_rfl
def cmpR (a b : Run) : Int := cmpS a.1 b.1
theorem ltOf_cmpR (a b : Run) : ltOf cmpR a b = decide (a.1 < b.1) := by
  unfold ltOf cmpR cmpS
  by_cases h1 : a.1 < b.1
  · simp [h1]
  · by_cases h2 : b.1 < a.1 <;> simp [h1, h2]
theorem swo_cmpR : SWO (ltOf cmpR) where
  irrefl x := by rw [ltOf_cmpR]; simp
  trans x y z h1 h2 := by rw [ltOf_cmpR, decide_eq_true_eq] at *; omega
  ntrans x y z h1 h2 := by rw [ltOf_cmpR, decide_eq_false_iff_not] at *; omega
theorem cmpR_lays (blk off size : Nat) (w : World) : CmpLays Tryz.prog 70 #[] runE.enc 2 cmpR blk off size w :=
  fun m os dk _ x y => (runCmp_any x.1 x.2 y.1 y.2 _).mono fun e w' ⟨h1, h2⟩ => ⟨h1, extD_grow h2⟩
theorem sortRun_any {w : World} {B : Nat} {v : Value} {l : List Run} (h : runE.Own w B v l) (hn : l.length ≤ 10000000) :
    Calls Tryz.prog 69 #[v, .func (.func 70) #[] #[]] w fun e w' =>
      e = .returned (.tuple #[]) ∧ ∃ l', l'.Perm l ∧ l'.Pairwise (fun a b => a.1 ≤ b.1) ∧ runE.Own w' B v l' ∧ w.grownBy w' v.ownBlock := by
  rcases Nat.eq_zero_or_pos l.length with h0 | h0
  · have e : l = [] := List.eq_nil_of_length_eq_zero h0
    subst e
    obtain ⟨A, c, rfl, _, _⟩ := h.len
    refine (AnyF.slices_SortFunc_none Tryz.sortRunL A c _ w).mono fun e w' ⟨h1, h2⟩ => ?_
    subst h2
    exact ⟨h1, [], List.Perm.refl _, List.Pairwise.nil, h, ⟨rfl, rfl, rfl, Nat.le_refl _, fun _ _ _ => rfl⟩⟩
  · obtain ⟨g, cap, rfl, hb, hcap⟩ := h.head h0
    have hs : l.toArray.size = l.length := List.size_toArray ..
    have eg : ∀ args w, (callFunc 70 args).run Tryz.prog w = .ok (.enter 70 args) w := enters_of Tryz.func70 (by kernel_rfl) rfl
    have hcon := AnyQ.slices_SortFunc Tryz.sortRunL 2 aggRun sizeRun runE.enc runE.len runE.one cmpR swo_cmpR 70 #[] g 0 cap l.toArray w eg (cmpR_lays g 0 _ w) h.holdsK h.lt (by rw [hs]; omega)
    rw [hs] at hcon
    refine Calls.mono hcon ?_
    rintro e w' ⟨rfl, d', m, os, hp, hso, rfl⟩
    obtain ⟨hsz, _, hperm⟩ := hp
    rw [hs] at hsz
    refine ⟨rfl, d'.toList, ?_, ?_, (h.putK d' hsz m).ext (Go.Par.ext_grow _ os), grown_putRowK _ _ _ _ _ _⟩
    · have e1 : d'.extract 0 l.length = d' := by rw [← hsz]; simp
      have e2 : l.toArray.extract 0 l.length = l.toArray := by rw [← hs]; simp
      rw [e1, e2] at hperm
      simpa using hperm
    · rw [List.pairwise_iff_getElem]
      intro i j hi hj hij
      simp only [Array.length_toList] at hi hj
      have := hso i j (Nat.zero_le _) hij (by omega)
      rw [ltOf_cmpR, getElem!_pos d' i hi, getElem!_pos d' j hj, decide_eq_false_iff_not] at this
      simpa using this
end Go.Proofs.YtkjpcjmbhpfelaaGreat

/- cuts: the rows at which rectangles begin or end. -/
set_option linter.unusedVariables false
set_option linter.unusedSimpArgs false
namespace Go.Proofs.YtkjpcjmbhpfelaaGreat
open Go.RowKit Go.Par Go.Reg Go.Maps

/-- slices of rectangles, in a row -/
def slE : EL Tryz.prog (Option Addr × Nat × Nat) where
  enc := fun r => [.slice r.1 r.2.1 r.2.2]
  size := 1
  t := 22
  st := 108
  zero := .slice none 0 0
  bytes := 24
  len := fun _ => rfl
  one := fun x v hv => by simp at hv; rcases hv with rfl; rfl
  pos := by decide
  und := Tryz.underlying108
  info := by kernel_rfl
  zsize := rfl
  small := by decide
def RowsOf (w : World) (ss : List (Option Addr × Nat × Nat)) (ls : List (List R4)) : Prop :=
  ss.length = ls.length ∧ ∀ (i : Nat) (l : List R4), ls[i]? = some l → ∃ A n c, ss[i]? = some (A, n, c) ∧ l.length = n ∧ n ≤ 17592186044416 ∧ rectE.At w A l
theorem RowsOf.ext {w w' : World} {ss : List (Option Addr × Nat × Nat)} {ls : List (List R4)} (h : RowsOf w ss ls) (he : Ext w w') : RowsOf w' ss ls :=
  ⟨h.1, fun i l hl => by obtain ⟨A, n, c, h1, h2, h3, h4⟩ := h.2 i l hl; exact ⟨A, n, c, h1, h2, h3, h4.ext he⟩⟩
theorem keyed_int : Keyed Tryz.prog 3 := int_keyed Tryz.underlying3
theorem boolR_true {H : Type} : plainElem (H := H) Tryz.prog 4 (.bool true) = some (.lit (.bool true), []) := plainElem_bool Tryz.underlying4 true
set_option maxRecDepth 100000 in
theorem boolR_inv {H : Type} {v : Value} {y : DataW H × List MemPlace} (h : plainElem Tryz.prog 4 v = some y) : ∃ c : Bool, v = .bool c := by
  unfold plainElem at h
  rw [Tryz.underlying4] at h
  cases v <;> simp at h
  exact ⟨_, rfl⟩
theorem wf_small {x : Int} (h1 : -4096 ≤ x) (h2 : x ≤ 4096) : (Lit.int .i64 x).wf = true := by
  have k1 : IntKind.i64.min = -9223372036854775808 := rfl
  have k2 : IntKind.i64.max = 9223372036854775807 := rfl
  simp only [Lit.wf, Bool.and_eq_true, decide_eq_true_eq]
  omega
theorem edgesY_append (l m : List R4) : edgesY (l ++ m) = edgesY l ++ edgesY m := List.flatMap_append
theorem edgesY_one (r : R4) : edgesY [r] = if rectEmptyS r then [] else [r.2.1, r.2.2.2] := by simp [edgesY]
theorem edgesY_len (l : List R4) : (edgesY l).length ≤ 2 * l.length := by
  induction l with
  | nil => simp [edgesY]
  | cons r l ih =>
    have e : edgesY (r :: l) = edgesY [r] ++ edgesY l := edgesY_append [r] l
    rw [e, List.length_append, edgesY_one, List.length_cons]
    split <;> simp <;> omega
theorem flat_take {α : Type} {ls : List (List α)} {i j : Nat} {l : List α} {x : α} (hl : ls[i]? = some l) (hx : l[j]? = some x) : (ls.take i).flatten ++ l.take (j + 1) = ((ls.take i).flatten ++ l.take j) ++ [x] := by
  rw [take_snocG hx, List.append_assoc]
theorem flat_next {α : Type} {ls : List (List α)} {i : Nat} {l : List α} (hl : ls[i]? = some l) : (ls.take (i + 1)).flatten = (ls.take i).flatten ++ l := by
  rw [take_snocG hl, List.flatten_append]; simp
theorem flat_le {α : Type} {ls : List (List α)} {i : Nat} {l : List α} (hl : ls[i]? = some l) (j : Nat) : ((ls.take i).flatten ++ l.take j).length ≤ ls.flatten.length := by
  have e : ls.flatten = (ls.take (i + 1)).flatten ++ (ls.drop (i + 1)).flatten := by rw [← List.flatten_append, List.take_append_drop]
  rw [e, flat_next hl, List.length_append, List.length_append, List.length_append, List.length_take]
  omega
theorem sorted_strict {l : List Int} (h : l.Pairwise (· ≤ ·)) (hn : l.Nodup) : l.Pairwise (· < ·) :=
  (h.and hn).imp fun ⟨h1, h2⟩ => by omega
set_option maxRecDepth 100000 in
set_option maxHeartbeats 1600000 in
theorem cuts_any (ls : List (List R4)) (ss : List (Option Addr × Nat × Nat)) (A : Option Addr) (n c : Nat) (w : World) (hn : ls.length = n) (hnb : n ≤ 1000) (hA : slE.At w A ss) (hS : RowsOf w ss ls) (hb : ls.flatten.length ≤ 1000000) :
    Calls Tryz.prog 45 #[.slice A n c] w fun e w' => ∃ v ys, e = .returned v ∧ Ext w w' ∧ intE.Own w' w.heap.size v ys ∧ ys.Pairwise (· < ·) ∧ (∀ y, y ∈ ys ↔ y ∈ edgesY ls.flatten) := by
  have hmm := @run_makeMap Tryz.prog
  have HN := Lib.hid hn
  have HB := Lib.hid hb
  have HEM := Lib.hid (fun a b c d W => pEmpty_any a b c d W)
  clear hn hb
  obtain ⟨B, hB⟩ : ∃ B, w.heap.size = B := ⟨_, rfl⟩
  have hown0 := World.ownsMap_made (H := Unit) w Tryz.prog 3 (plainElem Tryz.prog 4)
  have hE0 := Ext.alloc w (.map #[] 0)
  rw [hB] at hown0
  go_enter Tryz.func45, Tryz.ntmps45
  go_wp2_with fail
  have HBB := Lib.hid hB
  clear hB
  go_loopw [13] (fun i wr => ∃ k : Nat, k ≤ n ∧ i = .int .i64 k ∧ Ext w wr ∧ wr.ownsMap Tryz.prog 3 (plainElem Tryz.prog 4) B (edgesY (ls.take k).flatten).length (setI (H := Unit) (edgesY (ls.take k).flatten))) (fun i _ => n - (intOf i).toNat)
  case atStart => exact ⟨0, Nat.zero_le _, rfl, hE0, hown0⟩
  case round =>
    clear hown0 hE0
    obtain ⟨k, hk, rfl, hE, hown⟩ := hrel
    by_cases hlt : k < n
    · have dk : ((k : Int) < (n : Int)) = True := eq_true (by omega)
      obtain ⟨l, hlk⟩ : ∃ q, ls[k]? = some q := ⟨_, List.getElem?_eq_getElem (by rw [HN.out]; exact hlt)⟩
      obtain ⟨A1, n1, c1, hsk, hn1, hn1b, hat⟩ := hS.2 k l hlk
      obtain ⟨b, o, rfl⟩ := hA.addr hsk
      have e0 := hE.cell (hA.cellAt (j := 0) hsk rfl)
      simp only [slE, Nat.mul_one, Nat.add_zero] at e0
      have HK := Lib.hid hlk
      have HN1 := Lib.hid hn1
      clear hlk hsk hn1
      have HI := Lib.hid (show 1 ≤ 1 from Nat.le_refl _)
      go_wp2_with fail
      go_loopw [19] (fun i wr => ∃ j : Nat, j ≤ n1 ∧ i = .int .i64 j ∧ Ext w wr ∧ wr.ownsMap Tryz.prog 3 (plainElem Tryz.prog 4) B (edgesY ((ls.take k).flatten ++ l.take j)).length (setI (H := Unit) (edgesY ((ls.take k).flatten ++ l.take j)))) (fun i _ => n1 - (intOf i).toNat)
      case atStart => exact ⟨0, Nat.zero_le _, rfl, hE, by rw [List.take_zero, List.append_nil]; exact hown⟩
      case round =>
        clear hown hE e0
        obtain ⟨j, hj, rfl, hE, hown⟩ := hrel
        by_cases hlt2 : j < n1
        · have dk2 : ((j : Int) < (n1 : Int)) = True := eq_true (by omega)
          obtain ⟨⟨x0, x1, x2, x3⟩, hlj⟩ : ∃ q, l[j]? = some q := ⟨_, List.getElem?_eq_getElem (by rw [HN1.out]; exact hlt2)⟩
          obtain ⟨b', o', rfl⟩ := hat.addr hlj
          obtain ⟨e0, e1, e2, e3⟩ := rect_cell hat hlj
          replace e0 := hE.cell e0
          replace e1 := hE.cell e1
          replace e2 := hE.cell e2
          replace e3 := hE.cell e3
          dsimp only at e0 e1 e2 e3
          have HF := Lib.hid (flat_take HK.out hlj)
          have HL := Lib.hid (flat_le HK.out (j + 1))
          have HL0 := Lib.hid (flat_le HK.out j)
          clear hlj
          generalize hacc : (ls.take k).flatten ++ l.take j = acc at *
          have HAC := Lib.hid hacc
          clear hacc
          go_wp2_with fail
          have hEa := hE.trans (Ext.alloc wr (.cells #[.int .i64 x0, .int .i64 x1, .int .i64 x2, .int .i64 x3] 34))
          have b2 := Box.new wr 34 #[.int .i64 x0, .int .i64 x1, .int .i64 x2, .int .i64 x3]
          have hownA := mapExt hown (Ext.alloc wr (.cells #[.int .i64 x0, .int .i64 x1, .int .i64 x2, .int .i64 x3] 34))
          refine (HEM.out x0 x1 x2 x3 _).mono ?_
          rintro e w1 ⟨rfl, hE1⟩
          replace hEa := hEa.trans hE1
          replace hownA := mapExt hownA hE1
          replace b2 := b2.ext hE1
          clear hE1 e0 e1 e2 e3 hown hE
          have c2 := b2.cell
          cases hem : rectEmptyS (x0, x1, x2, x3)
          · have HX := Lib.hid (show edgesY (acc ++ [(x0, x1, x2, x3)]) = (edgesY acc ++ [x1]) ++ [x3] from by rw [edgesY_append, edgesY_one, hem, List.append_assoc]; rfl)
            have hbd := empty_false hem
            dsimp only at hbd
            have wf1 := wf_small hbd.2.2.1 (show x1 ≤ 4096 by omega)
            have wf3 := wf_small (show -4096 ≤ x3 by omega) hbd.2.2.2.1
            have hm1 : (edgesY acc).length + 1 < maxLen := by
              have := edgesY_len acc
              have := HB.out
              have h0 := HL0.out
              unfold maxLen
              omega
            have hm0 : (edgesY acc).length < maxLen := Nat.lt_of_succ_lt hm1
            clear hem hbd
            go_wp2_with fail
            obtain ⟨w2, hrun2, hown2, hg2⟩ := World.ownsMap.update (w := w1.drew) (hownA.drew) keyed_int Tryz.underlying109 hm0 (keyOf_int_mk Tryz.underlying3 wf1) boolR_true
            have b3 : Box w2 wr.heap.size 34 #[.int .i64 x0, .int .i64 x1, .int .i64 x2, .int .i64 x3] := boxGrown (w := w1.drew) b2 hg2 (fun e => by injection e with e; subst e; obtain ⟨es, cl, hmp, _⟩ := hownA; rw [show w1.heap[wr.heap.size]? = some _ from b2] at hmp; cases hmp)
            obtain ⟨w3, hrun3, hown3, hg3⟩ := hown2.update keyed_int Tryz.underlying109 hm1 (keyOf_int_mk Tryz.underlying3 wf3) boolR_true
            have hE3 := ((hEa.trans (Ext.drew w1)).grownAt hg2 (fun i hi => by injection hi with hi; rw [HBB.out, hi]; exact Nat.le_refl _)).grownAt hg3 (fun i hi => by injection hi with hi; rw [HBB.out, hi]; exact Nat.le_refl _)
            have c3 := b3.cell
            have HO3 := Lib.hid hown3
            clear hown2 hown3 hg2 hg3 hownA b2 b3
            go_region
            go_wp2
            go_roundw
            case rel => exact ⟨j + 1, by omega, by go_num, hE3, by rw [HF.out, HX.out, setI_snoc, setI_snoc, List.length_append, List.length_append]; exact HO3.out⟩
            case measure => simp [intOf]; omega
          · have HX := Lib.hid (show edgesY (acc ++ [(x0, x1, x2, x3)]) = edgesY acc from by rw [edgesY_append, edgesY_one, hem]; exact List.append_nil _)
            clear hem
            go_wp2
            go_roundw
            case rel => exact ⟨j + 1, by omega, by go_num, hEa, by rw [HF.out, HX.out]; exact hownA⟩
            case measure => simp [intOf]; omega
        · have dk2 : ((j : Int) < (n1 : Int)) = False := eq_false (by omega)
          have HF := Lib.hid (show (ls.take (k + 1)).flatten = (ls.take k).flatten ++ l.take j from by rw [flat_next HK.out, List.take_of_length_le (l := l) (by rw [HN1.out]; omega)])
          go_wp2
          go_roundw
          case rel => exact ⟨k + 1, by omega, by go_num, hE, by rw [HF.out]; exact hown⟩
          case measure => simp [intOf]; omega
    · have dk : ((k : Int) < (n : Int)) = False := eq_false (by omega)
      have HF := Lib.hid (show ls.take k = ls from List.take_of_length_le (by rw [HN.out]; omega))
      rw [HF.out] at hown
      have hlen : (edgesY ls.flatten).length ≤ 2000000 := by
        have := edgesY_len ls.flatten
        have := HB.out
        omega
      have HSZ := Lib.hid (setI_size (H := Unit) (edgesY ls.flatten))
      have HHAS := Lib.hid (setI_has (H := Unit) (edgesY ls.flatten))
      generalize hD : setI (H := Unit) (edgesY ls.flatten) = D at *
      generalize hM : (edgesY ls.flatten).length = M at *
      have hwB : w.heap.size ≤ wr.heap.size := hE.size
      clear hD hM
      go_wp2_with (first
        | (at_range; refine wpList_range_own _ rfl _ 109 rfl 3 4 keyed_int Tryz.underlying109 _ B M _ rfl hown ?_; intro w0 hrg0 hg0 hs0)
        | go_in)
      go_frame
      have hE0 := hE.grownAt hg0 (fun i hi => by cases hi)
      obtain ⟨Rr, hRr⟩ : ∃ Rr, wr.heap.size = Rr := ⟨_, rfl⟩
      rw [hRr] at hrg0 hwB ⊢
      have HRR := Lib.hid hRr
      clear hRr hs0 hg0 hown hE
      go_loopw [8] (fun s wr => ∃ (left : Lit → Bool) (cnt : Nat) (zs : List Int), wr.ranges Tryz.prog 3 (plainElem Tryz.prog 4) B Rr M D left cnt ∧ zs.length + cnt ≤ size D ∧ CollI D left zs ∧ Ext w wr ∧ intE.Own wr w.heap.size s zs)
        (fun _ wr => wr.rangeLeft B Rr)
      case atStart => exact ⟨_, _, [], hrg0, by simp, CollI.start D, hE0, EL.Own.nil _ _⟩
      case round =>
        clear hrg0 hE0
        obtain ⟨left, cnt, zs, hrg, hcs, hC, hE, hown⟩ := hrel
        go_wp2_with (first
          | (at_next; refine wpList_next_ranges _ rfl _ rfl 3 keyed_int _ (Value.int .i64) (fun i : Int => Value.bool (decide (i = 1))) (fun key kl hkey => by obtain ⟨x, rfl, _⟩ := Maps.keyOf_int_inv Tryz.underlying3 hkey; exact ⟨x, rfl⟩) (fun v y hv => by obtain ⟨c, rfl⟩ := boolR_inv hv; exact ⟨if c then 1 else 0, by cases c <;> rfl⟩) B Rr M _ _ _ rfl hrg ?_ ?_)
          | go_in)
        · intro hc0 hl0
          obtain ⟨hnd, hmem⟩ := hC.end hl0
          have hzs : zs.length ≤ 10000000 := by have := HSZ.out; omega
          obtain ⟨w1, hcl, hg1⟩ := run_clear_own hrg.owns Tryz.underlying109
          obtain ⟨A1, c1, rfl, _, _⟩ := hown.len
          have hnm := own_ne_map hown hrg
          have hown1 : intE.Own w1 w.heap.size _ zs := World.ownsRow.kept hown hg1 (.inr hnm.1)
          have hE1 := hE.grownAt hg1 (fun i hi => by injection hi with hi; rw [HBB.out, hi]; exact Nat.le_refl _)
          have HMEM := Lib.hid (fun y => (hmem y).trans (HHAS.out y))
          have HND := Lib.hid hnd
          have HG1 := Lib.hid hg1
          clear hg1 hmem hnd hcs hC hl0 hc0 hrg hown hE hnm
          go_wp2_with fail
          refine (sortInts_any hown1 hzs).mono ?_
          rintro e w2 ⟨rfl, ys, hp, hs, hown2, hg2⟩
          have hE2 := growExt hE1 hown1 (Nat.le_refl _) hg2
          have HP := Lib.hid hp
          clear hp hg2
          go_wp2
          go_ret
          exact ⟨_, ys, rfl, hE2, hown2, sorted_strict hs (HP.out.nodup_iff.2 HND.out), fun y => (HP.out.mem_iff).trans (HMEM.out y)⟩
        · intro x c kl yd yp w1 cnt1 hkey hlk hv hat hrg1 hlt1 hg1 hs1 hen
          obtain ⟨x', ex, rfl, hwx⟩ := Maps.keyOf_int_inv Tryz.underlying3 hkey
          cases ex
          have hC1 := hC.step hlk hat
          obtain ⟨A1, c1, rfl, _, _⟩ := hown.len
          have hnm := own_ne_map hown hrg
          have hown1 : intE.Own w1 w.heap.size _ zs := World.ownsRow.kept hown hg1 (.inr hnm.2)
          have hRB : w.heap.size ≤ Rr := hwB
          have hE1 := hE.grownAt hg1 (fun i hi => by injection hi with hi; omega)
          have HL1 := Lib.hid (show zs.length + 1 + cnt1 ≤ size D from by omega)
          have hzl : zs.length + 1 ≤ 1000000000 := by have := HSZ.out; omega
          have HRG := Lib.hid hrg
          have hMS := Lib.hid (show wr.rangeLeft B Rr = cnt from hrg.left_eq)
          clear hnm hg1 hs1 hat hlk hv hC hcs hown hE hrg
          have b2 := Box.new w1 3 #[.int .i64 x]
          have hrow := EL.rowOne (E := intE) b2 rfl
          have hEa := hE1.trans (Ext.alloc w1 (.cells #[.int .i64 x] 3))
          have hownA := hown1.ext (Ext.alloc w1 (.cells #[.int .i64 x] 3))
          have hrgA := rangesExt hrg1 (Ext.alloc w1 (.cells #[.int .i64 x] 3))
          have hsz := hEa.size
          go_wp2_with (at_builtin; refine EL.wpApp intE rfl _ _ rfl w.heap.size _ _ zs [x] rfl rfl hownA hrow hzl hsz ?_; intro v1 W1 own1 gr1 _)
          have hnm2 := own_ne_map hownA hrgA
          have hE2 := growExt hEa hownA (Nat.le_refl _) gr1
          have hrg2 := hrgA.kept gr1 (fun e => hnm2.1 e.symm) (fun e => hnm2.2 e.symm)
          go_roundw
          case rel => exact ⟨_, cnt1, zs ++ [x], hrg2, by rw [List.length_append]; exact HL1.out, hC1, hE2, own1⟩
          case measure => rw [hrg2.left_eq, hMS.out]; exact hlt1
end Go.Proofs.YtkjpcjmbhpfelaaGreat
